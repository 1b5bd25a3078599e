/- GaugParts: the walk and the plain law. -/
import Derived.Test.YtcpahifgdppkbaaG2
import Derived.Test.YtcpahifgdppkbaaC
set_option linter.unusedVariables false
set_option linter.unusedSimpArgs false
namespace Go.Proofs.Ytcpahifgdppkbaa.QAI
open Go Go.RowKit
set_option maxRecDepth 100000
def fA (a : Nat → Int) : Nat → Value := fun k => ((fun k => [(fun k => Value.int IntKind.i64 (a k)) k]) k).headD undef
def dA (a : Nat → Int) : Nat → Int := fun k => dv (fA a k)
def tA (a : Nat → Int) : Nat → Int := ta (dA a) 256
theorem gaugParts_eq {a : Nat → Int} {s t : ByteArray} {line : Int} : (afun (GK KG2 (fun _ => []) 0) 60 Try.f7 [aA a, .c (.v (.string s)), .c (.v (.string t)), I64 line] []).eval = 
  bif decide (w64 ((s.size : Int) + (t.size : Int)) > 2000) then some (Bo true, [])
  else 
  bif yes ((fA a) = fun k => Value.int IntKind.i64 (dv ((fA a) k))) then 
  bif decide (((s.size + t.size : Nat) : Int) ≤ IntKind.i64.max) then 
  bif yes ((s ++ t).size ≤ 2 ^ 40 ∧ (fA (tA a)) = fun k => Value.int IntKind.i64 (dv ((fA (tA a)) k))) then 
  bif yes (s.size ≤ 2 ^ 40 ∧ (fA (tA a)) = fun k => Value.int IntKind.i64 (dv ((fA (tA a)) k))) then 
  bif yes (t.size ≤ 2 ^ 40 ∧ (fA (tA a)) = fun k => Value.int IntKind.i64 (dv ((fA (tA a)) k))) then 
  bif cs (dA (tA a)) (s ++ t).data.toList == w64 (cs (dA (tA a)) s.data.toList + cs (dA (tA a)) t.data.toList) then 
  bif decInt 0 (w64 ((s.size : Int).tdiv 2)) s.size then 
  bif decInt (w64 ((s.size : Int).tdiv 2)) (s.size : Int) s.size then 
  bif yes (s.size ≤ 2 ^ 40 ∧ (fA (tA a)) = fun k => Value.int IntKind.i64 (dv ((fA (tA a)) k))) then 
  bif yes ((s.extract (Int.toNat 0) (w64 ((s.size : Int).tdiv 2)).toNat).size ≤ 2 ^ 40 ∧ (fA (tA a)) = fun k => Value.int IntKind.i64 (dv ((fA (tA a)) k))) then 
  bif yes ((s.extract (w64 ((s.size : Int).tdiv 2)).toNat ((s.size : Int)).toNat).size ≤ 2 ^ 40 ∧ (fA (tA a)) = fun k => Value.int IntKind.i64 (dv ((fA (tA a)) k))) then 
  bif cs (dA (tA a)) s.data.toList == w64 (cs (dA (tA a)) (s.extract (Int.toNat 0) (w64 ((s.size : Int).tdiv 2)).toNat).data.toList + cs (dA (tA a)) (s.extract (w64 ((s.size : Int).tdiv 2)).toNat ((s.size : Int)).toNat).data.toList) then 
  bif decide (w64 (w64 (2 * w64 (w64 ((mxI 0 (w64 ((u64 line).tmod 1073741824))).tdiv 2) + (mxI 0 (w64 ((u64 line).tmod 1073741824))).tmod 2)) - w64 ((u64 line).tmod 1073741824)) ≥ 0) then 
  bif decide (w64 (w64 (2 * w64 (w64 ((mxI 0 (w64 ((u64 line).tmod 1073741824))).tdiv 2) + (mxI 0 (w64 ((u64 line).tmod 1073741824))).tmod 2)) - w64 ((u64 line).tmod 1073741824)) ≤ 1) then 
  bif yes ((⟨#[]⟩ : ByteArray).size ≤ 2 ^ 40 ∧ (fA (tA a)) = fun k => Value.int IntKind.i64 (dv ((fA (tA a)) k))) then some (Bo true, [])
  else none
  else some (Bo false, [])
  else some (Bo false, [])
  else some (Bo false, [])
  else none
  else none
  else none
  else none
  else none
  else some (Bo false, [])
  else none
  else none
  else none
  else none
  else none := by kernel_rfl 

theorem cut_list (s : ByteArray) (a b : Nat) : (s.extract a b).data.toList = (s.data.toList.drop a).take (b - a) := by simp [List.extract]
theorem cut_size (s : ByteArray) (a b : Nat) : (s.extract a b).size ≤ s.size := by rw [ByteArray.size_extract]; omega
theorem bifY {α : Type} {p : Prop} {a b : α} (h : p) : (bif yes p then a else b) = a := by rw [yes_of h]; rfl
theorem bifT {α : Type} {p : Bool} {a b : α} (h : p = true) : (bif p then a else b) = a := by rw [h]; rfl
theorem gaugParts_true (a : Nat → Int) (s t : ByteArray) (line : Int) (hs : s.size ≤ reachBytes) (ht : t.size ≤ reachBytes) :
    (afun (GK KG2 (fun _ => []) 0) 60 Try.f7 [aA a, .c (.v (.string s)), .c (.v (.string t)), I64 line] []).eval = some (Bo true, []) := by
  rw [gaugParts_eq]
  have hml : reachBytes ≤ 2 ^ 60 := by decide
  have w1 : w64 ((s.size : Int) + (t.size : Int)) = (s.size : Int) + (t.size : Int) := w64_id (by omega) (by omega)
  by_cases hb : (s.size : Int) + (t.size : Int) > 2000
  · rw [w1]
    simp only [hb, decide_true, cond_true]
  · have hs2 : s.size ≤ 2000 := by omega
    have ht2 : t.size ≤ 2000 := by omega
    have hst : (s ++ t).size ≤ 2 ^ 40 := by rw [ByteArray.size_append]; omega
    have cb := cs_b (dA (tA a))
    have l1 := size_len s
    have l2 := size_len t
    have b1 := cb s.data.toList
    have b2 := cb t.data.toList
    have wd : w64 ((s.size : Int).tdiv 2) = (s.size : Int) / 2 := by rw [tdiv_nn (by omega) (by omega)]; exact w64_id (by omega) (by omega)
    have wn : ((s.size : Int) / 2).toNat = s.size / 2 := by omega
    have e1 : (s ++ t).data.toList = s.data.toList ++ t.data.toList := by simp
    have hl : w64 ((u64 line).tmod 1073741824) = line % 1073741824 := u64_mod 30 (by decide) line _ rfl
    have hu : mxI 0 (line % 1073741824) = line % 1073741824 := by rw [mxI_eq]; omega
    have hd : (line % 1073741824).tdiv 2 = line % 1073741824 / 2 := tdiv_nn (by omega) (by decide)
    have hm : (line % 1073741824).tmod 2 = line % 1073741824 % 2 := tmod_nn (by omega)
    have hw1 : w64 (line % 1073741824 / 2) = line % 1073741824 / 2 := w64_id (by omega) (by omega)
    have hw2 : w64 (line % 1073741824 / 2 + line % 1073741824 % 2) = line % 1073741824 / 2 + line % 1073741824 % 2 := w64_id (by omega) (by omega)
    have hw3 : w64 (2 * (line % 1073741824 / 2 + line % 1073741824 % 2)) = 2 * (line % 1073741824 / 2 + line % 1073741824 % 2) := w64_id (by omega) (by omega)
    have hw4 : w64 (2 * (line % 1073741824 / 2 + line % 1073741824 % 2) - line % 1073741824) = 2 * (line % 1073741824 / 2 + line % 1073741824 % 2) - line % 1073741824 := w64_id (by omega) (by omega)
    have c1 := cut_size s (Int.toNat 0) (s.size / 2)
    have c2 := cut_size s (s.size / 2) ((s.size : Int)).toNat
    have hc : cs (dA (tA a)) (s.extract (Int.toNat 0) (s.size / 2)).data.toList + cs (dA (tA a)) (s.extract (s.size / 2) ((s.size : Int)).toNat).data.toList = cs (dA (tA a)) s.data.toList := by
      rw [← cs_append, cut_list, cut_list]
      congr 1
      have t0 : Int.toNat 0 = 0 := rfl
      rw [t0, Int.toNat_natCast, List.drop_zero, Nat.sub_zero]
      have : (s.data.toList.drop (s.size / 2)).take (s.size - s.size / 2) = s.data.toList.drop (s.size / 2) := by
        apply List.take_of_length_le
        rw [List.length_drop, l1]
        exact Nat.le_refl _
      rw [this, List.take_append_drop]
    rw [w1, wd, wn, hl, hu, hd, hm, hw1, hw2, hw3, hw4, e1, cs_append, hc, w64_id (x := cs (dA (tA a)) s.data.toList + cs (dA (tA a)) t.data.toList) (by omega) (by omega), w64_id (x := cs (dA (tA a)) s.data.toList) (by omega) (by omega)]
    simp only [hb, decide_false, cond_false]
    have m0 : IntKind.i64.max = 9223372036854775807 := by decide
    refine (bifY rfl).trans ((bifT (decide_eq_true (by rw [m0]; omega))).trans ((bifY ⟨hst, rfl⟩).trans ((bifY ⟨by omega, rfl⟩).trans ((bifY ⟨by omega, rfl⟩).trans ((bifT (by simp)).trans ((bifT (by simp [decInt]; omega)).trans ((bifT (by simp [decInt]; omega)).trans
      ((bifY ⟨by omega, rfl⟩).trans ((bifY ⟨by omega, rfl⟩).trans ((bifY ⟨by omega, rfl⟩).trans ((bifT (by simp)).trans ((bifT (decide_eq_true (by omega))).trans ((bifT (decide_eq_true (by omega))).trans (bifY ⟨by decide, rfl⟩))))))))))))))
def gaugPartsS : List Shp := [.arr 256 (.int .i64), .one .str, .one .str, .one (.int .i64)]
theorem gaugParts_core : ∀ is, InsOk gaugPartsS is → ∃ keep L d, (afun (GK KG2 keep L) d Try.f7 (avsIn 0 gaugPartsS is) (blksIn gaugPartsS is)).eval = some (Bo true, blksIn gaugPartsS is) := by
  intro is0 h0
  obtain ⟨a, is1, rfl, h1⟩ := ins_arr h0
  obtain ⟨s, is2, rfl, h2, l2⟩ := ins_str h1
  obtain ⟨t, is3, rfl, h3, l3⟩ := ins_str h2
  obtain ⟨v, is4, rfl, h4⟩ := ins_i64 h3
  obtain rfl := ins_nil h4
  exact ⟨fun _ => [], 0, 60, gaugParts_true a s t v l2 l3⟩
end Go.Proofs.Ytcpahifgdppkbaa.QAI
