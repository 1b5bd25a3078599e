/- GaugBytes: the walk and the plain law. -/
import Derived.Test.YtcpahifgdppkbaaG2
import Derived.Test.YtcpahifgdppkbaaA21
import Derived.Test.YtcpahifgdppkbaaC
set_option linter.unusedVariables false
set_option linter.unusedSimpArgs false
namespace Go.Proofs.Ytcpahifgdppkbaa.QAI
open Go Go.RowKit
set_option maxRecDepth 100000
abbrev Str (s : ByteArray) : AV := .c (.v (.string s))
noncomputable def gbG (L : Nat) : Ctx2 := GK KG2 (fun k => if k = 7 then [(1,none),(2,none),(5,none),(6,none),(7,none)] else []) L
def gbS (a : Nat → Int) (s : ByteArray) (sum : Int) (back : ByteArray) (i : Int) : St := ⟨slots 64 [(1, Str s), (2, .c (.ptr 0 0 0)), (5, I64 sum), (6, Str back), (7, I64 i)], [rowA a]⟩
def gbE (a : Nat → Int) (s : ByteArray) (sum : Int) (back : ByteArray) (i : Int) : St := ⟨slots 64 [(1, Str s), (2, .c (.ptr 0 0 0)), (5, I64 sum), (6, Str back), (7, I64 i), (14, I64 i), (15, Str s), (16, I64 s.size), (17, Bo false)], [rowA a]⟩
theorem gb_go {L : Nat} {a : Nat → Int} {s : ByteArray} {sum : Int} {back : ByteArray} {i : Int} : (roundT (arun (gbG L) 0 51 (bodyOf Try.f5 0)) (canon (gbG L).T 0 ((gbG L).keep 7)) (gbS a s sum back i)).go [true, true, true, true, true, true, true, true, true, false] =
  some
    ([decide (i < ↑s.size), true, decInt i (w64 (i + 1)) s.size, decide (0 ≤ i), decide (i < ↑s.size), true,
        decide (bt s i < 256), decide ((bt s i).toNat < 256),
        yes
          ((s.extract i.toNat (w64 (i + 1)).toNat).size ≤ 2 ^ 40 ∧
            (fun k => ((fun k => v1 (a k)) k).headD undef) = fun k =>
              Value.int IntKind.i64 (dv ((fun k => ((fun k => v1 (a k)) k).headD undef) k))),
        !cs (fun k => dv ((fun k => ((fun k => v1 (a k)) k).headD undef) k))
              (s.extract i.toNat (w64 (i + 1)).toNat).data.toList !=
            a (bt s i).toNat,
        decide (0 ≤ i), decide (i < ↑s.size), true, decide (bt s i < 256), decide ((bt s i).toNat < 256),
        decInt i (w64 (i + 1)) s.size,
        decide (↑((s.extract i.toNat (w64 (i + 1)).toNat).size + back.size) ≤ IntKind.i64.max)],
      Ex.normal,
      {
        sl :=
          slots 64
            [(1, AV.c (AC.v (Value.string s))), (2, AV.c (AC.ptr 0 0 0)), (5, I64 (w64 (sum + a (bt s i).toNat))),
              (6, AV.c (AC.v (Value.string (s.extract i.toNat (w64 (i + 1)).toNat ++ back)))), (7, I64 (w64 (i + 1)))],
        h := [some { t := 35, own := true, c := Cont.row 1 256 fun k => [Value.int IntKind.i64 (a k)] }] }) := by kernel_rfl
theorem gb_end {L : Nat} {a : Nat → Int} {s : ByteArray} {sum : Int} {back : ByteArray} {i : Int} : (roundT (arun (gbG L) 0 51 (bodyOf Try.f5 0)) (canon (gbG L).T 0 ((gbG L).keep 7)) (gbS a s sum back i)).go [false] =
  some
    ([!decide (i < ↑s.size)], Ex.exit 0,
      {
        sl :=
          slots 64
            [(1, AV.c (AC.v (Value.string s))), (2, AV.c (AC.ptr 0 0 0)), (5, I64 sum),
              (6, AV.c (AC.v (Value.string back))), (7, I64 i), (14, I64 i), (15, AV.c (AC.v (Value.string s))),
              (16, I64 ↑s.size), (17, Bo false)],
        h := [some { t := 35, own := true, c := Cont.row 1 256 fun k => [Value.int IntKind.i64 (a k)] }] }) := by kernel_rfl
theorem cut_listG (s : ByteArray) (a b : Nat) : (s.extract a b).data.toList = (s.data.toList.drop a).take (b - a) := by simp [List.extract]
def backB (s : ByteArray) : Nat → ByteArray
  | 0 => ⟨#[]⟩
  | j + 1 => s.extract j (j + 1) ++ backB s j
theorem one_list (s : ByteArray) {j : Nat} (hj : j < s.data.toList.length) : (s.extract j (j + 1)).data.toList = [s.data.toList[j]] := by
  rw [cut_listG, show j + 1 - j = 1 by omega, List.take_one, List.head?_drop, List.getElem?_eq_getElem hj]
  rfl
theorem back_list (s : ByteArray) : ∀ j, j ≤ s.size → (backB s j).data.toList = (s.data.toList.take j).reverse
  | 0, _ => rfl
  | j + 1, h => by
    have hj : j < s.data.toList.length := by rw [size_len]; omega
    rw [backB, ByteArray.data_append, Array.toList_append, back_list s j (by omega), one_list s hj, List.take_add_one, List.getElem?_eq_getElem hj]
    simp
theorem back_size (s : ByteArray) (j : Nat) (h : j ≤ s.size) : (backB s j).size = j := by
  rw [← size_len, back_list s j h, List.length_reverse, List.length_take, size_len]
  omega
theorem cs_reverse (a : Nat → Int) : ∀ l : List UInt8, cs a l.reverse = cs a l
  | [] => rfl
  | b :: l => by
    rw [List.reverse_cons, cs_append, cs_reverse a l, show b :: l = [b] ++ l from rfl, cs_append]
    omega
def aOk (a : Nat → Int) : Prop := ∀ k, k < 256 → 0 ≤ a k ∧ a k ≤ 65536
theorem aOk_cl {a : Nat → Int} (h : aOk a) {k : Nat} (hk : k < 256) : cl (a k) = a k := by
  have := h k hk
  unfold cl mnI mxI
  split <;> (try split) <;> omega
def gbI (a : Nat → Int) (s : ByteArray) (j : Nat) : St := gbS a s (cs a (s.data.toList.take j)) (backB s j) j
theorem gb_loop {L : Nat} {a : Nat → Int} {s : ByteArray} (ha : aOk a) (hs : s.size ≤ 1000) (hL : s.size < L) :
    (iter (arun (gbG L) 0 51 (bodyOf Try.f5 0)) (canon (gbG L).T 0 ((gbG L).keep 7)) L (gbI a s 0)).eval = some (.exit 0, gbE a s (cs a s.data.toList) (backB s s.size) s.size) := by
  refine iter_upto (fun i => gbI a s i) (N := s.size) (by simp) ?_ L 0 (Nat.zero_le _) (by omega) ?_
  · have e : s.data.toList.take s.size = s.data.toList := by rw [← size_len, List.take_length]
    simp only [gbI, e]
    exact round_go gb_end (by simp [AllT])
  · intro j _ hj
    have hjl : j < s.data.toList.length := by rw [size_len]; exact hj
    have h3 : w64 ((j : Int) + 1) = ((j + 1 : Nat) : Int) := by rw [w64_id (by omega) (by omega)]; omega
    have hb := bt_at s hjl
    have hlt : s.data.toList[j].toNat < 256 := UInt8.toNat_lt _
    have h6 : bt s j < 256 := by rw [hb]; omega
    have h7 : (bt s j).toNat < 256 := by rw [hb]; omega
    have e8 : (bt s j).toNat = s.data.toList[j].toNat := by rw [hb]; omega
    have hcl := aOk_cl ha h7
    have hone := one_list s hjl
    have hbs := back_size s j (by omega)
    have hcut : (s.extract j (j + 1)).size = 1 := by rw [← size_len, hone]; rfl
    have hstep : cs a (s.data.toList.take (j + 1)) = cs a (s.data.toList.take j) + a (bt s j).toNat := by
      rw [List.take_add_one, List.getElem?_eq_getElem hjl, Option.toList_some, cs_append, cs_one, ← e8, hcl]
    have hb1 := (cs_b a (s.data.toList.take j))
    have hlen : (s.data.toList.take j).length ≤ j := by simp; omega
    have hb2 := ha _ h7
    have hw : w64 (cs a (s.data.toList.take j) + a (bt s j).toNat) = cs a (s.data.toList.take (j + 1)) := by rw [hstep, w64_id (by omega) (by omega)]
    have hcs : cs a (s.extract j (j + 1)).data.toList = a (bt s j).toNat := by rw [hone, cs_one, ← e8, hcl]
    have hmax : IntKind.i64.max = 9223372036854775807 := by decide
    have hgo := gb_go (L := L) (a := a) (s := s) (sum := cs a (s.data.toList.take j)) (back := backB s j) (i := j)
    rw [h3, hw] at hgo
    simp only [Int.toNat_natCast] at hgo
    refine round_go hgo ?_
    have hd : decInt (j : Int) ((j + 1 : Nat) : Int) s.size = true := by simp [decInt]; omega
    have hij : (j : Int) < s.size := by omega
    have hi0 : decide ((0 : Int) ≤ (j : Int)) = true := by simp
    refine ⟨decide_eq_true hij, rfl, hd, hi0, decide_eq_true hij, rfl, decide_eq_true h6, decide_eq_true h7, yes_of ⟨by omega, rfl⟩, ?_, hi0, decide_eq_true hij, rfl, decide_eq_true h6, decide_eq_true h7, hd, ?_, trivial⟩
    · have : (cs a (s.extract j (j + 1)).data.toList != a (bt s j).toNat) = false := by rw [hcs]; simp
      show (!(cs a (s.extract j (j + 1)).data.toList != a (bt s j).toNat)) = true
      rw [this]; rfl
    · rw [decide_eq_true_eq, hcut, hbs, hmax]; omega
end Go.Proofs.Ytcpahifgdppkbaa.QAI
