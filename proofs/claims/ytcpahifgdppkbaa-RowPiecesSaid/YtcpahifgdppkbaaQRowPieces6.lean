/- Glyphs: what is shown; what the program's last loop comes to. -/
import Derived.Test.YtcpahifgdppkbaaQRowPieces5
section
set_option linter.unusedVariables false
set_option linter.unusedSimpArgs false
namespace Go.Proofs.Ytcpahifgdppkbaa.QAI
open Go Go.RowKit
set_option maxRecDepth 100000
theorem trimN_t {n : Nat} {g : Nat → Gl} {i : Nat} (h : keepAt n g i = true) : trimN n g (i + 1) = trimN n g i ++ [g i] := by rw [trimN, h]; rfl
theorem trimN_f {n : Nat} {g : Nat → Gl} {i : Nat} (h : keepAt n g i = false) : trimN n g (i + 1) = trimN n g i := by rw [trimN, h]; rfl
def glI (own : Bool) (n : Nat) (R : Nat → Rn) (m : Nat) (A : Nat → Gl) (i : Nat) : St := glS own n R m A (trimN m A i).length (at_ (trimN m A i)) i
theorem gl_step {own : Bool} {n : Nat} {R : Nat → Rn} {m : Nat} {A : Nat → Gl} {i : Nat} (hi : i < m) (hm : m < 2 ^ 40) :
    (rT glG nol 1 53 (bodyOf Try.f82 0) glK glK (glI own n R m A i)).eval = some (.normal, glI own n R m A (i + 1)) := by
  have hl := trimN_len (n := m) (g := A) i
  have e1 := succ64 (j := i) (by omega)
  have e2 : w64 ((m : Int) - 1) = ((m - 1 : Nat) : Int) := by rw [w64_id (by omega) (by omega)]; omega
  have kt : keepAt m A i = true → some (Ex.normal, glS own n R m A ((trimN m A i).length + 1) (at_ (trimN m A i ++ [A i])) ((i + 1 : Nat) : Int)) = some (Ex.normal, glI own n R m A (i + 1)) := by
    intro h
    rw [glI, trimN_t h]
    simp
  have kf : keepAt m A i = false → some (Ex.normal, glS own n R m A (trimN m A i).length (at_ (trimN m A i)) ((i + 1 : Nat) : Int)) = some (Ex.normal, glI own n R m A (i + 1)) := by
    intro h
    rw [glI, trimN_f h]
  have fin : (⟨slots 59 [(5, .c (.sl 1 0 m)), (6, .c (.sl 2 0 ((trimN m A i).length + 1))), (13, .c (.sl 1 0 m)), (14, I64 m), (15, I64 ((i + 1 : Nat) : Int))],
      [rowRn own n R, rowGl m A, some ⟨87, true, .row 4 ((trimN m A i).length + 1) (upd (fun j => encG (at_ (trimN m A i) j)) (trimN m A i).length (encG (A i)))⟩]⟩ : St) = glS own n R m A ((trimN m A i).length + 1) (at_ (trimN m A i ++ [A i])) ((i + 1 : Nat) : Int) := by
    rw [upd_at]
    rfl
  have hc := cells32 (n := (trimN m A i).length + 1) (by omega)
  have keq : keepAt m A i = !(blk (A i) && ((decide (i = 0) || brk (A (i - 1))) || (decide (i + 1 = m) || brk (A (i + 1))))) := rfl
  by_cases hF : i = 0
  · have e3 : True := trivial
    by_cases hL : i + 1 = m
    · have e4 : True := trivial
      by_cases hb : blk (A i) = true
      · refine (rT_go gl_tt_t ?_).trans ?_
        · simp only [Int.toNat_natCast, Nat.zero_add, e1, e2, e3, e4]
          repeat' (first | exact AllT.nil | refine AllT.cons ?_ ?_)
          all_goals first | (with_reducible rfl) | assumption | exact decide_eq_true (by omega) | exact beq_iff_eq.2 (by omega) | (simp; done) | (simp; omega)
        · simp only [Int.toNat_natCast, Nat.zero_add, e1, e2, e3, e4]
          refine Eq.trans ?_ (kf (by rw [keq, hb]; simp [hF]))
          rfl
      · have hbf : blk (A i) = false := by simpa using hb
        have hb' : (!blk (A i)) = true := by rw [hbf]; rfl
        refine (rT_go gl_tt_f ?_).trans ?_
        · simp only [Int.toNat_natCast, Nat.zero_add, e1, e2, e3, e4]
          repeat' (first | exact AllT.nil | refine AllT.cons ?_ ?_)
          all_goals first | (with_reducible rfl) | assumption | exact decide_eq_true (by omega) | exact beq_iff_eq.2 (by omega) | (simp; done) | (simp; omega)
        · simp only [Int.toNat_natCast, Nat.zero_add, e1, e2, e3, e4]
          refine Eq.trans ?_ (kt (by rw [keq]; simp [hbf]))
          rw [← fin]
          rfl
    · have e4 : w64 ((i : Int) + 1) = ((i + 1 : Nat) : Int) := e1
      by_cases hb : blk (A i) = true
      · refine (rT_go gl_tf_t ?_).trans ?_
        · simp only [Int.toNat_natCast, Nat.zero_add, e1, e2, e3, e4]
          repeat' (first | exact AllT.nil | refine AllT.cons ?_ ?_)
          all_goals first | (with_reducible rfl) | assumption | exact decide_eq_true (by omega) | exact beq_iff_eq.2 (by omega) | (simp; done) | (simp; omega)
        · simp only [Int.toNat_natCast, Nat.zero_add, e1, e2, e3, e4]
          refine Eq.trans ?_ (kf (by rw [keq, hb]; simp [hF]))
          rfl
      · have hbf : blk (A i) = false := by simpa using hb
        have hb' : (!blk (A i)) = true := by rw [hbf]; rfl
        refine (rT_go gl_tf_f ?_).trans ?_
        · simp only [Int.toNat_natCast, Nat.zero_add, e1, e2, e3, e4]
          repeat' (first | exact AllT.nil | refine AllT.cons ?_ ?_)
          all_goals first | (with_reducible rfl) | assumption | exact decide_eq_true (by omega) | exact beq_iff_eq.2 (by omega) | (simp; done) | (simp; omega)
        · simp only [Int.toNat_natCast, Nat.zero_add, e1, e2, e3, e4]
          refine Eq.trans ?_ (kt (by rw [keq]; simp [hbf]))
          rw [← fin]
          rfl
  · have e3 : w64 ((i : Int) - 1) = ((i - 1 : Nat) : Int) := by rw [w64_id (by omega) (by omega)]; omega
    by_cases hL : i + 1 = m
    · have e4 : True := trivial
      by_cases hb : blk (A i) = true
      · by_cases hp : brk (A (i - 1)) = true
        · have hp' : ((A (i - 1)).k == 4) = true := hp
          refine (rT_go gl_ft_tt ?_).trans ?_
          · simp only [Int.toNat_natCast, Nat.zero_add, e1, e2, e3, e4]
            repeat' (first | exact AllT.nil | refine AllT.cons ?_ ?_)
            all_goals first | (with_reducible rfl) | assumption | exact decide_eq_true (by omega) | exact beq_iff_eq.2 (by omega) | (simp; done) | (simp; omega)
          · simp only [Int.toNat_natCast, Nat.zero_add, e1, e2, e3, e4]
            refine Eq.trans ?_ (kf (by rw [keq]; simp [hF, hb, hp]))
            rfl
        · have hpf : brk (A (i - 1)) = false := by simpa using hp
          have hp' : (!((A (i - 1)).k == 4)) = true := by have h : ((A (i - 1)).k == 4) = false := hpf; rw [h]; rfl
          refine (rT_go gl_ft_tf ?_).trans ?_
          · simp only [Int.toNat_natCast, Nat.zero_add, e1, e2, e3, e4]
            repeat' (first | exact AllT.nil | refine AllT.cons ?_ ?_)
            all_goals first | (with_reducible rfl) | assumption | exact decide_eq_true (by omega) | exact beq_iff_eq.2 (by omega) | (simp; done) | (simp; omega)
          · simp only [Int.toNat_natCast, Nat.zero_add, e1, e2, e3, e4]
            refine Eq.trans ?_ (kf (by rw [keq]; simp [hF, hb, hpf, hL]))
            rfl
      · have hbf : blk (A i) = false := by simpa using hb
        have hb' : (!blk (A i)) = true := by rw [hbf]; rfl
        refine (rT_go gl_ft_f ?_).trans ?_
        · simp only [Int.toNat_natCast, Nat.zero_add, e1, e2, e3, e4]
          repeat' (first | exact AllT.nil | refine AllT.cons ?_ ?_)
          all_goals first | (with_reducible rfl) | assumption | exact decide_eq_true (by omega) | exact beq_iff_eq.2 (by omega) | (simp; done) | (simp; omega)
        · simp only [Int.toNat_natCast, Nat.zero_add, e1, e2, e3, e4]
          refine Eq.trans ?_ (kt (by rw [keq]; simp [hbf]))
          rw [← fin]
          rfl
    · have e4 : w64 ((i : Int) + 1) = ((i + 1 : Nat) : Int) := e1
      by_cases hb : blk (A i) = true
      · by_cases hp : brk (A (i - 1)) = true
        · have hp' : ((A (i - 1)).k == 4) = true := hp
          refine (rT_go gl_ff_tt ?_).trans ?_
          · simp only [Int.toNat_natCast, Nat.zero_add, e1, e2, e3, e4]
            repeat' (first | exact AllT.nil | refine AllT.cons ?_ ?_)
            all_goals first | (with_reducible rfl) | assumption | exact decide_eq_true (by omega) | exact beq_iff_eq.2 (by omega) | (simp; done) | (simp; omega)
          · simp only [Int.toNat_natCast, Nat.zero_add, e1, e2, e3, e4]
            refine Eq.trans ?_ (kf (by rw [keq]; simp [hF, hb, hp]))
            rfl
        · have hpf : brk (A (i - 1)) = false := by simpa using hp
          have hp' : (!((A (i - 1)).k == 4)) = true := by have h : ((A (i - 1)).k == 4) = false := hpf; rw [h]; rfl
          by_cases hn : brk (A (i + 1)) = true
          · have hn' : ((A (i + 1)).k == 4) = true := hn
            refine (rT_go gl_ff_tft ?_).trans ?_
            · simp only [Int.toNat_natCast, Nat.zero_add, e1, e2, e3, e4]
              repeat' (first | exact AllT.nil | refine AllT.cons ?_ ?_)
              all_goals first | (with_reducible rfl) | assumption | exact decide_eq_true (by omega) | exact beq_iff_eq.2 (by omega) | (simp; done) | (simp; omega)
            · simp only [Int.toNat_natCast, Nat.zero_add, e1, e2, e3, e4]
              refine Eq.trans ?_ (kf (by rw [keq]; simp [hF, hb, hpf, hL, hn]))
              rfl
          · have hnf : brk (A (i + 1)) = false := by simpa using hn
            have hn' : (!((A (i + 1)).k == 4)) = true := by have h : ((A (i + 1)).k == 4) = false := hnf; rw [h]; rfl
            refine (rT_go gl_ff_tff ?_).trans ?_
            · simp only [Int.toNat_natCast, Nat.zero_add, e1, e2, e3, e4]
              repeat' (first | exact AllT.nil | refine AllT.cons ?_ ?_)
              all_goals first | (with_reducible rfl) | assumption | exact decide_eq_true (by omega) | exact beq_iff_eq.2 (by omega) | (simp; done) | (simp; omega)
            · simp only [Int.toNat_natCast, Nat.zero_add, e1, e2, e3, e4]
              refine Eq.trans ?_ (kt (by rw [keq]; simp [hF, hb, hpf, hL, hnf]))
              rw [← fin]
              rfl
      · have hbf : blk (A i) = false := by simpa using hb
        have hb' : (!blk (A i)) = true := by rw [hbf]; rfl
        refine (rT_go gl_ff_f ?_).trans ?_
        · simp only [Int.toNat_natCast, Nat.zero_add, e1, e2, e3, e4]
          repeat' (first | exact AllT.nil | refine AllT.cons ?_ ?_)
          all_goals first | (with_reducible rfl) | assumption | exact decide_eq_true (by omega) | exact beq_iff_eq.2 (by omega) | (simp; done) | (simp; omega)
        · simp only [Int.toNat_natCast, Nat.zero_add, e1, e2, e3, e4]
          refine Eq.trans ?_ (kt (by rw [keq]; simp [hbf]))
          rw [← fin]
          rfl
theorem gl_loop {own : Bool} {n : Nat} {R : Nat → Rn} {m : Nat} {A : Nat → Gl} (hm : m < 2 ^ 40) :
    CodeSem glG 1 (.loop (bodyOf Try.f82 0)) (glS own n R m A 0 (fun _ => zGl) 0) (.exit 0, glS own n R m A (trimN m A m).length (at_ (trimN m A m)) m) := by
  refine loop_sem glG_ok (ℓ := nol) (d := 53) (k := glK) (ka := glK) noLoopsS (fun i => glI own n R m A i) m (by simp) ?_ fun j hj => gl_step hj hm
  exact rT_go gl_ex ⟨by simp, trivial⟩
noncomputable def glF : Spec := fun args h => match args, h with
  | [.arr 256 f, .c (.sl 0 o k)], [some ⟨83, own, .row 4 n q⟩] =>
    .need (yes (o + k ≤ n ∧ k < 2 ^ 40 ∧ lenR (fun i => decN (q (o + i))) k < 2 ^ 39 ∧ (f = fun k => .int .i64 (dv (f k))) ∧ q = fun j => encN (decN (q j))))
      (.ret (.c (.sl 1 0 (glyphs (Mt fun k => dv (f k)) (fun i => decN (q (o + i))) k).length), [some ⟨83, own, .row 4 n q⟩,
        rowGl (glyphs (Mt fun k => dv (f k)) (fun i => decN (q (o + i))) k).length (at_ (glyphs (Mt fun k => dv (f k)) (fun i => decN (q (o + i))) k))]))
  | _, _ => .fail
theorem glF_ok : SpecOk Try.prog 82 glF := by
  refine knownS KA3_ok Try.func82 fun args h r he => ?_
  unfold glF at he
  split at he
  · rename_i f o k own n q
    obtain ⟨⟨h1, h2, h3, h4, h5⟩, he⟩ := Tr.eval_ask.1 he
    cases he
    have hlen := goR_len (M := Mt fun k => dv (f k)) (R := fun i => decN (q (o + i))) k
    have hl := gl_loop (own := own) (n := n) (R := fun j => decN (q j)) (m := (goR (Mt fun k => dv (f k)) (fun i => decN (q (o + i))) k).length) (A := at_ (goR (Mt fun k => dv (f k)) (fun i => decN (q (o + i))) k)) (by omega)
    rw [trimN_eq] at hl
    refine ⟨_, [], 60, _, tell_ok hl, ?_⟩
    have e1 : AV.arr 256 f = aA fun k => dv (f k) := by rw [aA, ← h4]
    have e2 : some ⟨83, own, .row 4 n q⟩ = rowRn own n fun j => decN (q j) := by rw [rowRn, ← h5]
    rw [e1, e2]
    refine Tr.go_eval gl_w ?_
    repeat' (first | exact AllT.nil | refine AllT.cons ?_ ?_)
    all_goals first | exact yes_of ⟨rfl, rfl⟩ | exact yes_of ⟨h1, h2, h3, rfl, rfl⟩
  · cases he
end Go.Proofs.Ytcpahifgdppkbaa.QAI
end
section
/- Glyphs: the document's loops. -/
set_option linter.unusedVariables false
set_option linter.unusedSimpArgs false
namespace Go.Proofs.Ytcpahifgdppkbaa.QAI
open Go Go.RowKit
set_option maxRecDepth 100000
abbrev rgK : List (Nat × Option TypeId) := [(1,none),(2,none),(5,some 87),(6,none)]
abbrev rgKi : List (Nat × Option TypeId) := [(1,none),(2,none),(5,some 87),(6,none),(7,none),(8,none)]
abbrev rgK3 : List (Nat × Option TypeId) := [(5,none),(10,some 87),(11,none)]
noncomputable def KA4 : Known := [(115, adF), (125, whF), (126, bkF)]
theorem KA4_ok : KnownOk KA4 := consK adF_ok (by kernel_rfl) (consK whF_ok (by kernel_rfl) (consK bkF_ok2 (by kernel_rfl) nilK))
noncomputable def rgG : Ctx2 := GT KA4 (fun k => if k = 3 then rgK else if k = 7 then rgKi else if k = 21 then rgK3 else []) 0 []
theorem rgG_ok : XOk rgG := GT_ok KA4_ok _ _ _
def riS (a : Nat → Int) (own : Bool) (o k n : Nat) (R : Nat → Rn) (na : Nat) (L : Nat → Gl) (s : ByteArray) (r j : Int) : St :=
  ⟨slots 143 [(1, .c (.sl 0 o k)), (2, .c (.ptr 1 0 0)), (5, .c (.sl 2 0 na)), (6, I64 r), (7, .c (.v (.string s))), (8, I64 j)], [rowRn own n R, rowA a, rowGl na L]⟩
def roS (a : Nat → Int) (own : Bool) (o k n : Nat) (R : Nat → Rn) (na : Nat) (L : Nat → Gl) (r : Int) : St :=
  ⟨slots 143 [(1, .c (.sl 0 o k)), (2, .c (.ptr 1 0 0)), (5, .c (.sl 2 0 na)), (6, I64 r)], [rowRn own n R, rowA a, rowGl na L]⟩
def r3S (own : Bool) (n : Nat) (R : Nat → Rn) (m : Nat) (A : Nat → Gl) (na : Nat) (L : Nat → Gl) (i : Int) : St :=
  ⟨slots 143 [(5, .c (.sl 1 0 m)), (10, .c (.sl 2 0 na)), (11, I64 i)], [rowRn own n R, rowGl m A, rowGl na L]⟩
noncomputable def riT (a : Nat → Int) (own : Bool) (o k n : Nat) (R : Nat → Rn) (na : Nat) (L : Nat → Gl) (s : ByteArray) (r j : Int) : Tr (Ex × St) := rT rgG nol 1 47 (bodyOf Try.f86 1) rgKi rgKi (riS a own o k n R na L s r j)
noncomputable def r3T (own : Bool) (n : Nat) (R : Nat → Rn) (m : Nat) (A : Nat → Gl) (na : Nat) (L : Nat → Gl) (i : Int) : Tr (Ex × St) := rT rgG nol 1 52 (bodyOf Try.f86 2) rgK3 rgK3 (r3S own n R m A na L i)
theorem ri_ex {a : Nat → Int} {own : Bool} {o k n : Nat} {R : Nat → Rn} {na : Nat} {L : Nat → Gl} {s : ByteArray} {r j : Int} : (riT a own o k n R na L s r j).go [false] =
  some
    ([!decide (j < ((s.size : Nat) : Int))], Ex.exit 2,
      {
        sl :=
          slots 143
            [(1, AV.c (AC.sl 0 o k)), (2, AV.c (AC.ptr 1 0 0)),
              (5, AV.c (AC.sl 2 0 na)), (6, I64 r),
              (7, AV.c (AC.v (Value.string s))), (8, I64 j)],
        h :=
          [some
              { t := 83, own := own,
                c :=
                  Cont.row 4 n fun j =>
                    [Value.int IntKind.i64 (R j).n, Value.string (R j).s, Value.int IntKind.i64 (R j).v,
                      Value.int IntKind.i64 (R j).l] },
            some
              { t := 35, own := true,
                c := Cont.row 1 256 fun k => [Value.int IntKind.i64 (a k)] },
            some
              { t := 87, own := true,
                c :=
                  Cont.row 4 na fun j =>
                    [Value.int IntKind.i64 (L j).k, Value.int IntKind.i64 (L j).r, Value.int IntKind.i64 (L j).a,
                      Value.int IntKind.i64 (L j).w] }] }) := by kernel_rfl
theorem ri_A {a : Nat → Int} {own : Bool} {o k n : Nat} {R : Nat → Rn} {na : Nat} {L : Nat → Gl} {s : ByteArray} {r j : Int} : (riT a own o k n R na L s r j).go [] =
  some
    ([decide (j < ((s.size : Nat) : Int)), true, decide ((0 : Int) ≤ j), decide (j < ((s.size : Nat) : Int)),
        yes
          ((0 : Int) ≤ bt s j ∧
            bt s j < (256 : Int) ∧
              (fun k => (v1 (a k)).headD undef) = fun k => Value.int IntKind.i64 (dv ((v1 (a k)).headD undef))),
        decide ((0 : Int) ≤ r), decide (r < ((k : Nat) : Int)), decide (o + r.toNat < n), (R (o + r.toNat)).v == (2 : Int), true, true,
        decide ((0 : Int) ≤ j), decide (j < ((s.size : Nat) : Int)), true, true, bt s j == (10 : Int), decide (na = na), true,
        decide ((na + 1) * 32 ≤ maxCells)],
      Ex.normal,
      {
        sl :=
          slots 143
            [(1, AV.c (AC.sl 0 o k)), (2, AV.c (AC.ptr 1 0 0)),
              (5, AV.c (AC.sl 2 0 (na + 1))), (6, I64 r),
              (7, AV.c (AC.v (Value.string s))), (8, I64 (w64 (j + (1 : Int))))],
        h :=
          [some
              { t := 83, own := own,
                c :=
                  Cont.row 4 n fun j =>
                    [Value.int IntKind.i64 (R j).n, Value.string (R j).s, Value.int IntKind.i64 (R j).v,
                      Value.int IntKind.i64 (R j).l] },
            some
              { t := 35, own := true,
                c := Cont.row 1 256 fun k => [Value.int IntKind.i64 (a k)] },
            some
              { t := 87, own := true,
                c :=
                  Cont.row 4 (na + 1) fun k =>
                    [Value.int IntKind.i64 (bif decide (k = na) then (4 : Int) else (L k).k),
                      Value.int IntKind.i64 (bif decide (k = na) then r else (L k).r),
                      Value.int IntKind.i64 (bif decide (k = na) then j else (L k).a),
                      Value.int IntKind.i64 (bif decide (k = na) then (0 : Int) else (L k).w)] }] }) := by kernel_rfl
theorem ri_B {a : Nat → Int} {own : Bool} {o k n : Nat} {R : Nat → Rn} {na : Nat} {L : Nat → Gl} {s : ByteArray} {r j : Int} : (riT a own o k n R na L s r j).go [true, true, true, true, true, true, true, true, true, true, true, true, true, true, true, false] =
  some
    ([decide (j < ((s.size : Nat) : Int)), true, decide ((0 : Int) ≤ j), decide (j < ((s.size : Nat) : Int)),
        yes
          ((0 : Int) ≤ bt s j ∧
            bt s j < (256 : Int) ∧
              (fun k => (v1 (a k)).headD undef) = fun k => Value.int IntKind.i64 (dv ((v1 (a k)).headD undef))),
        decide ((0 : Int) ≤ r), decide (r < ((k : Nat) : Int)), decide (o + r.toNat < n), (R (o + r.toNat)).v == (2 : Int), true, true,
        decide ((0 : Int) ≤ j), decide (j < ((s.size : Nat) : Int)), true, true, !bt s j == (10 : Int), decide ((0 : Int) ≤ r),
        decide (r < ((k : Nat) : Int)), decide (o + r.toNat < n), (R (o + r.toNat)).v == (2 : Int), decide (na = na), true,
        decide ((na + 1) * 32 ≤ maxCells)],
      Ex.normal,
      {
        sl :=
          slots 143
            [(1, AV.c (AC.sl 0 o k)), (2, AV.c (AC.ptr 1 0 0)),
              (5, AV.c (AC.sl 2 0 (na + 1))), (6, I64 r),
              (7, AV.c (AC.v (Value.string s))), (8, I64 (w64 (j + (1 : Int))))],
        h :=
          [some
              { t := 83, own := own,
                c :=
                  Cont.row 4 n fun j =>
                    [Value.int IntKind.i64 (R j).n, Value.string (R j).s, Value.int IntKind.i64 (R j).v,
                      Value.int IntKind.i64 (R j).l] },
            some
              { t := 35, own := true,
                c := Cont.row 1 256 fun k => [Value.int IntKind.i64 (a k)] },
            some
              { t := 87, own := true,
                c :=
                  Cont.row 4 (na + 1) fun k =>
                    [Value.int IntKind.i64 (bif decide (k = na) then (1 : Int) else (L k).k),
                      Value.int IntKind.i64 (bif decide (k = na) then r else (L k).r),
                      Value.int IntKind.i64 (bif decide (k = na) then j else (L k).a),
                      Value.int IntKind.i64
                        (bif decide (k = na) then Mt (fun k => dv ((v1 (a k)).headD undef)) (bt s j)
                        else (L k).w)] }] }) := by kernel_rfl
theorem ri_D {a : Nat → Int} {own : Bool} {o k n : Nat} {R : Nat → Rn} {na : Nat} {L : Nat → Gl} {s : ByteArray} {r j : Int} : (riT a own o k n R na L s r j).go [true, true, true, true, true, true, true, true, false, false, false, false, false, false, true, true, true, false, true, true, false] =
  some
    ([decide (j < ((s.size : Nat) : Int)), true, decide ((0 : Int) ≤ j), decide (j < ((s.size : Nat) : Int)),
        yes
          ((0 : Int) ≤ bt s j ∧
            bt s j < (256 : Int) ∧
              (fun k => (v1 (a k)).headD undef) = fun k => Value.int IntKind.i64 (dv ((v1 (a k)).headD undef))),
        decide ((0 : Int) ≤ r), decide (r < ((k : Nat) : Int)), decide (o + r.toNat < n), !(R (o + r.toNat)).v == (2 : Int), true,
        true, true, true, true, decide ((0 : Int) ≤ r), decide (r < ((k : Nat) : Int)), decide (o + r.toNat < n),
        !(R (o + r.toNat)).v == (2 : Int), decide ((0 : Int) ≤ j), decide (j < ((s.size : Nat) : Int)), !wht (bt s j),
        decide (na = na), true, decide ((na + 1) * 32 ≤ maxCells)],
      Ex.normal,
      {
        sl :=
          slots 143
            [(1, AV.c (AC.sl 0 o k)), (2, AV.c (AC.ptr 1 0 0)),
              (5, AV.c (AC.sl 2 0 (na + 1))), (6, I64 r),
              (7, AV.c (AC.v (Value.string s))), (8, I64 (w64 (j + (1 : Int))))],
        h :=
          [some
              { t := 83, own := own,
                c :=
                  Cont.row 4 n fun j =>
                    [Value.int IntKind.i64 (R j).n, Value.string (R j).s, Value.int IntKind.i64 (R j).v,
                      Value.int IntKind.i64 (R j).l] },
            some
              { t := 35, own := true,
                c := Cont.row 1 256 fun k => [Value.int IntKind.i64 (a k)] },
            some
              { t := 87, own := true,
                c :=
                  Cont.row 4 (na + 1) fun k =>
                    [Value.int IntKind.i64 (bif decide (k = na) then (1 : Int) else (L k).k),
                      Value.int IntKind.i64 (bif decide (k = na) then r else (L k).r),
                      Value.int IntKind.i64 (bif decide (k = na) then j else (L k).a),
                      Value.int IntKind.i64
                        (bif decide (k = na) then Mt (fun k => dv ((v1 (a k)).headD undef)) (bt s j)
                        else (L k).w)] }] }) := by kernel_rfl
theorem ri_Ct_f {a : Nat → Int} {own : Bool} {o k n : Nat} {R : Nat → Rn} {na : Nat} {L : Nat → Gl} {s : ByteArray} {r j : Int} : (riT a own o k n R na L s r j).go [true, true, true, true, true, true, true, true, false, false, false, false, false, false, true, true, true, false, true, true, true, true, true, true, true, true, true, false, false, false, false, false, false, false, false, false] =
  some
    ([decide (j < ((s.size : Nat) : Int)), true, decide ((0 : Int) ≤ j), decide (j < ((s.size : Nat) : Int)),
        yes
          ((0 : Int) ≤ bt s j ∧
            bt s j < (256 : Int) ∧
              (fun k => (v1 (a k)).headD undef) = fun k => Value.int IntKind.i64 (dv ((v1 (a k)).headD undef))),
        decide ((0 : Int) ≤ r), decide (r < ((k : Nat) : Int)), decide (o + r.toNat < n), !(R (o + r.toNat)).v == (2 : Int), true,
        true, true, true, true, decide ((0 : Int) ≤ r), decide (r < ((k : Nat) : Int)), decide (o + r.toNat < n),
        !(R (o + r.toNat)).v == (2 : Int), decide ((0 : Int) ≤ j), decide (j < ((s.size : Nat) : Int)), wht (bt s j), true,
        yes
          ((0 : Int) ≤ (32 : Int) ∧
            (32 : Int) < (256 : Int) ∧
              (fun k => (v1 (a k)).headD undef) = fun k => Value.int IntKind.i64 (dv ((v1 (a k)).headD undef))),
        decide ((0 : Int) ≤ r), decide (r < ((k : Nat) : Int)), decide (o + r.toNat < n), (R (o + r.toNat)).v == (1 : Int),
        !decide (((na : Nat) : Int) > (0 : Int)), true, true, true, true, true, true, true, true, decide (na = na), true,
        decide ((na + 1) * 32 ≤ maxCells)],
      Ex.normal,
      {
        sl :=
          slots 143
            [(1, AV.c (AC.sl 0 o k)), (2, AV.c (AC.ptr 1 0 0)),
              (5, AV.c (AC.sl 2 0 (na + 1))), (6, I64 r),
              (7, AV.c (AC.v (Value.string s))), (8, I64 (w64 (j + (1 : Int))))],
        h :=
          [some
              { t := 83, own := own,
                c :=
                  Cont.row 4 n fun j =>
                    [Value.int IntKind.i64 (R j).n, Value.string (R j).s, Value.int IntKind.i64 (R j).v,
                      Value.int IntKind.i64 (R j).l] },
            some
              { t := 35, own := true,
                c := Cont.row 1 256 fun k => [Value.int IntKind.i64 (a k)] },
            some
              { t := 87, own := true,
                c :=
                  Cont.row 4 (na + 1) fun k =>
                    [Value.int IntKind.i64 (bif decide (k = na) then (3 : Int) else (L k).k),
                      Value.int IntKind.i64 (bif decide (k = na) then r else (L k).r),
                      Value.int IntKind.i64 (bif decide (k = na) then j else (L k).a),
                      Value.int IntKind.i64
                        (bif decide (k = na) then Mt (fun k => dv ((v1 (a k)).headD undef)) (32 : Int)
                        else (L k).w)] }] }) := by kernel_rfl
theorem ri_Ct_tt {a : Nat → Int} {own : Bool} {o k n : Nat} {R : Nat → Rn} {na : Nat} {L : Nat → Gl} {s : ByteArray} {r j : Int} : (riT a own o k n R na L s r j).go [true, true, true, true, true, true, true, true, false, false, false, false, false, false, true, true, true, false] =
  some
    ([decide (j < ((s.size : Nat) : Int)), true, decide ((0 : Int) ≤ j), decide (j < ((s.size : Nat) : Int)),
        yes
          ((0 : Int) ≤ bt s j ∧
            bt s j < (256 : Int) ∧
              (fun k => (v1 (a k)).headD undef) = fun k => Value.int IntKind.i64 (dv ((v1 (a k)).headD undef))),
        decide ((0 : Int) ≤ r), decide (r < ((k : Nat) : Int)), decide (o + r.toNat < n), !(R (o + r.toNat)).v == (2 : Int), true,
        true, true, true, true, decide ((0 : Int) ≤ r), decide (r < ((k : Nat) : Int)), decide (o + r.toNat < n),
        !(R (o + r.toNat)).v == (2 : Int), decide ((0 : Int) ≤ j), decide (j < ((s.size : Nat) : Int)), wht (bt s j), true,
        yes
          ((0 : Int) ≤ (32 : Int) ∧
            (32 : Int) < (256 : Int) ∧
              (fun k => (v1 (a k)).headD undef) = fun k => Value.int IntKind.i64 (dv ((v1 (a k)).headD undef))),
        decide ((0 : Int) ≤ r), decide (r < ((k : Nat) : Int)), decide (o + r.toNat < n), (R (o + r.toNat)).v == (1 : Int),
        decide (((na : Nat) : Int) > (0 : Int)), true, true, true, true, decide ((0 : Int) ≤ w64 (((na : Nat) : Int) - (1 : Int))),
        decide (w64 (((na : Nat) : Int) - (1 : Int)) < ((na : Nat) : Int)), true, decide (0 + (w64 (((na : Nat) : Int) - (1 : Int))).toNat < na), true, true,
        blk
          { k := (L (0 + (w64 (((na : Nat) : Int) - (1 : Int))).toNat)).k,
            r := (L (0 + (w64 (((na : Nat) : Int) - (1 : Int))).toNat)).r,
            a := (L (0 + (w64 (((na : Nat) : Int) - (1 : Int))).toNat)).a,
            w := (L (0 + (w64 (((na : Nat) : Int) - (1 : Int))).toNat)).w }],
      Ex.normal,
      {
        sl :=
          slots 143
            [(1, AV.c (AC.sl 0 o k)), (2, AV.c (AC.ptr 1 0 0)),
              (5, AV.c (AC.sl 2 0 na)), (6, I64 r),
              (7, AV.c (AC.v (Value.string s))), (8, I64 (w64 (j + (1 : Int))))],
        h :=
          [some
              { t := 83, own := own,
                c :=
                  Cont.row 4 n fun j =>
                    [Value.int IntKind.i64 (R j).n, Value.string (R j).s, Value.int IntKind.i64 (R j).v,
                      Value.int IntKind.i64 (R j).l] },
            some
              { t := 35, own := true,
                c := Cont.row 1 256 fun k => [Value.int IntKind.i64 (a k)] },
            some
              { t := 87, own := true,
                c :=
                  Cont.row 4 na fun j =>
                    [Value.int IntKind.i64 (L j).k, Value.int IntKind.i64 (L j).r, Value.int IntKind.i64 (L j).a,
                      Value.int IntKind.i64 (L j).w] }] }) := by kernel_rfl
theorem ri_Ct_tf {a : Nat → Int} {own : Bool} {o k n : Nat} {R : Nat → Rn} {na : Nat} {L : Nat → Gl} {s : ByteArray} {r j : Int} : (riT a own o k n R na L s r j).go [true, true, true, true, true, true, true, true, false, false, false, false, false, false, true, true, true, false, true, true, true, true, true, true, true, true, true, true, true, true, true, true, true, true, true, true, true, true, false] =
  some
    ([decide (j < ((s.size : Nat) : Int)), true, decide ((0 : Int) ≤ j), decide (j < ((s.size : Nat) : Int)),
        yes
          ((0 : Int) ≤ bt s j ∧
            bt s j < (256 : Int) ∧
              (fun k => (v1 (a k)).headD undef) = fun k => Value.int IntKind.i64 (dv ((v1 (a k)).headD undef))),
        decide ((0 : Int) ≤ r), decide (r < ((k : Nat) : Int)), decide (o + r.toNat < n), !(R (o + r.toNat)).v == (2 : Int), true,
        true, true, true, true, decide ((0 : Int) ≤ r), decide (r < ((k : Nat) : Int)), decide (o + r.toNat < n),
        !(R (o + r.toNat)).v == (2 : Int), decide ((0 : Int) ≤ j), decide (j < ((s.size : Nat) : Int)), wht (bt s j), true,
        yes
          ((0 : Int) ≤ (32 : Int) ∧
            (32 : Int) < (256 : Int) ∧
              (fun k => (v1 (a k)).headD undef) = fun k => Value.int IntKind.i64 (dv ((v1 (a k)).headD undef))),
        decide ((0 : Int) ≤ r), decide (r < ((k : Nat) : Int)), decide (o + r.toNat < n), (R (o + r.toNat)).v == (1 : Int),
        decide (((na : Nat) : Int) > (0 : Int)), true, true, true, true, decide ((0 : Int) ≤ w64 (((na : Nat) : Int) - (1 : Int))),
        decide (w64 (((na : Nat) : Int) - (1 : Int)) < ((na : Nat) : Int)), true, decide (0 + (w64 (((na : Nat) : Int) - (1 : Int))).toNat < na), true, true,
        !blk
            { k := (L (0 + (w64 (((na : Nat) : Int) - (1 : Int))).toNat)).k,
              r := (L (0 + (w64 (((na : Nat) : Int) - (1 : Int))).toNat)).r,
              a := (L (0 + (w64 (((na : Nat) : Int) - (1 : Int))).toNat)).a,
              w := (L (0 + (w64 (((na : Nat) : Int) - (1 : Int))).toNat)).w },
        decide (na = na), true, decide ((na + 1) * 32 ≤ maxCells)],
      Ex.normal,
      {
        sl :=
          slots 143
            [(1, AV.c (AC.sl 0 o k)), (2, AV.c (AC.ptr 1 0 0)),
              (5, AV.c (AC.sl 2 0 (na + 1))), (6, I64 r),
              (7, AV.c (AC.v (Value.string s))), (8, I64 (w64 (j + (1 : Int))))],
        h :=
          [some
              { t := 83, own := own,
                c :=
                  Cont.row 4 n fun j =>
                    [Value.int IntKind.i64 (R j).n, Value.string (R j).s, Value.int IntKind.i64 (R j).v,
                      Value.int IntKind.i64 (R j).l] },
            some
              { t := 35, own := true,
                c := Cont.row 1 256 fun k => [Value.int IntKind.i64 (a k)] },
            some
              { t := 87, own := true,
                c :=
                  Cont.row 4 (na + 1) fun k =>
                    [Value.int IntKind.i64 (bif decide (k = na) then (3 : Int) else (L k).k),
                      Value.int IntKind.i64 (bif decide (k = na) then r else (L k).r),
                      Value.int IntKind.i64 (bif decide (k = na) then j else (L k).a),
                      Value.int IntKind.i64
                        (bif decide (k = na) then Mt (fun k => dv ((v1 (a k)).headD undef)) (32 : Int)
                        else (L k).w)] }] }) := by kernel_rfl
theorem ri_Cf_f {a : Nat → Int} {own : Bool} {o k n : Nat} {R : Nat → Rn} {na : Nat} {L : Nat → Gl} {s : ByteArray} {r j : Int} : (riT a own o k n R na L s r j).go [true, true, true, true, true, true, true, true, false, false, false, false, false, false, true, true, true, false, true, true, true, true, true, true, true, true, false, false, false, false, false, false, false, false, false, false] =
  some
    ([decide (j < ((s.size : Nat) : Int)), true, decide ((0 : Int) ≤ j), decide (j < ((s.size : Nat) : Int)),
        yes
          ((0 : Int) ≤ bt s j ∧
            bt s j < (256 : Int) ∧
              (fun k => (v1 (a k)).headD undef) = fun k => Value.int IntKind.i64 (dv ((v1 (a k)).headD undef))),
        decide ((0 : Int) ≤ r), decide (r < ((k : Nat) : Int)), decide (o + r.toNat < n), !(R (o + r.toNat)).v == (2 : Int), true,
        true, true, true, true, decide ((0 : Int) ≤ r), decide (r < ((k : Nat) : Int)), decide (o + r.toNat < n),
        !(R (o + r.toNat)).v == (2 : Int), decide ((0 : Int) ≤ j), decide (j < ((s.size : Nat) : Int)), wht (bt s j), true,
        yes
          ((0 : Int) ≤ (32 : Int) ∧
            (32 : Int) < (256 : Int) ∧
              (fun k => (v1 (a k)).headD undef) = fun k => Value.int IntKind.i64 (dv ((v1 (a k)).headD undef))),
        decide ((0 : Int) ≤ r), decide (r < ((k : Nat) : Int)), decide (o + r.toNat < n), !(R (o + r.toNat)).v == (1 : Int),
        !decide (((na : Nat) : Int) > (0 : Int)), true, true, true, true, true, true, true, true, decide (na = na), true,
        decide ((na + 1) * 32 ≤ maxCells)],
      Ex.normal,
      {
        sl :=
          slots 143
            [(1, AV.c (AC.sl 0 o k)), (2, AV.c (AC.ptr 1 0 0)),
              (5, AV.c (AC.sl 2 0 (na + 1))), (6, I64 r),
              (7, AV.c (AC.v (Value.string s))), (8, I64 (w64 (j + (1 : Int))))],
        h :=
          [some
              { t := 83, own := own,
                c :=
                  Cont.row 4 n fun j =>
                    [Value.int IntKind.i64 (R j).n, Value.string (R j).s, Value.int IntKind.i64 (R j).v,
                      Value.int IntKind.i64 (R j).l] },
            some
              { t := 35, own := true,
                c := Cont.row 1 256 fun k => [Value.int IntKind.i64 (a k)] },
            some
              { t := 87, own := true,
                c :=
                  Cont.row 4 (na + 1) fun k =>
                    [Value.int IntKind.i64 (bif decide (k = na) then (2 : Int) else (L k).k),
                      Value.int IntKind.i64 (bif decide (k = na) then r else (L k).r),
                      Value.int IntKind.i64 (bif decide (k = na) then j else (L k).a),
                      Value.int IntKind.i64
                        (bif decide (k = na) then Mt (fun k => dv ((v1 (a k)).headD undef)) (32 : Int)
                        else (L k).w)] }] }) := by kernel_rfl
theorem ri_Cf_tt {a : Nat → Int} {own : Bool} {o k n : Nat} {R : Nat → Rn} {na : Nat} {L : Nat → Gl} {s : ByteArray} {r j : Int} : (riT a own o k n R na L s r j).go [true, true, true, true, true, true, true, true, false, false, false, false, false, false, true, true, true, false, true, true, true, true, true, true, true, true, false] =
  some
    ([decide (j < ((s.size : Nat) : Int)), true, decide ((0 : Int) ≤ j), decide (j < ((s.size : Nat) : Int)),
        yes
          ((0 : Int) ≤ bt s j ∧
            bt s j < (256 : Int) ∧
              (fun k => (v1 (a k)).headD undef) = fun k => Value.int IntKind.i64 (dv ((v1 (a k)).headD undef))),
        decide ((0 : Int) ≤ r), decide (r < ((k : Nat) : Int)), decide (o + r.toNat < n), !(R (o + r.toNat)).v == (2 : Int), true,
        true, true, true, true, decide ((0 : Int) ≤ r), decide (r < ((k : Nat) : Int)), decide (o + r.toNat < n),
        !(R (o + r.toNat)).v == (2 : Int), decide ((0 : Int) ≤ j), decide (j < ((s.size : Nat) : Int)), wht (bt s j), true,
        yes
          ((0 : Int) ≤ (32 : Int) ∧
            (32 : Int) < (256 : Int) ∧
              (fun k => (v1 (a k)).headD undef) = fun k => Value.int IntKind.i64 (dv ((v1 (a k)).headD undef))),
        decide ((0 : Int) ≤ r), decide (r < ((k : Nat) : Int)), decide (o + r.toNat < n), !(R (o + r.toNat)).v == (1 : Int),
        decide (((na : Nat) : Int) > (0 : Int)), true, true, true, true, decide ((0 : Int) ≤ w64 (((na : Nat) : Int) - (1 : Int))),
        decide (w64 (((na : Nat) : Int) - (1 : Int)) < ((na : Nat) : Int)), true, decide (0 + (w64 (((na : Nat) : Int) - (1 : Int))).toNat < na), true, true,
        blk
          { k := (L (0 + (w64 (((na : Nat) : Int) - (1 : Int))).toNat)).k,
            r := (L (0 + (w64 (((na : Nat) : Int) - (1 : Int))).toNat)).r,
            a := (L (0 + (w64 (((na : Nat) : Int) - (1 : Int))).toNat)).a,
            w := (L (0 + (w64 (((na : Nat) : Int) - (1 : Int))).toNat)).w }],
      Ex.normal,
      {
        sl :=
          slots 143
            [(1, AV.c (AC.sl 0 o k)), (2, AV.c (AC.ptr 1 0 0)),
              (5, AV.c (AC.sl 2 0 na)), (6, I64 r),
              (7, AV.c (AC.v (Value.string s))), (8, I64 (w64 (j + (1 : Int))))],
        h :=
          [some
              { t := 83, own := own,
                c :=
                  Cont.row 4 n fun j =>
                    [Value.int IntKind.i64 (R j).n, Value.string (R j).s, Value.int IntKind.i64 (R j).v,
                      Value.int IntKind.i64 (R j).l] },
            some
              { t := 35, own := true,
                c := Cont.row 1 256 fun k => [Value.int IntKind.i64 (a k)] },
            some
              { t := 87, own := true,
                c :=
                  Cont.row 4 na fun j =>
                    [Value.int IntKind.i64 (L j).k, Value.int IntKind.i64 (L j).r, Value.int IntKind.i64 (L j).a,
                      Value.int IntKind.i64 (L j).w] }] }) := by kernel_rfl
theorem ri_Cf_tf {a : Nat → Int} {own : Bool} {o k n : Nat} {R : Nat → Rn} {na : Nat} {L : Nat → Gl} {s : ByteArray} {r j : Int} : (riT a own o k n R na L s r j).go [true, true, true, true, true, true, true, true, false, false, false, false, false, false, true, true, true, false, true, true, true, true, true, true, true, true, false, true, true, true, true, true, true, true, true, true, true, true, false] =
  some
    ([decide (j < ((s.size : Nat) : Int)), true, decide ((0 : Int) ≤ j), decide (j < ((s.size : Nat) : Int)),
        yes
          ((0 : Int) ≤ bt s j ∧
            bt s j < (256 : Int) ∧
              (fun k => (v1 (a k)).headD undef) = fun k => Value.int IntKind.i64 (dv ((v1 (a k)).headD undef))),
        decide ((0 : Int) ≤ r), decide (r < ((k : Nat) : Int)), decide (o + r.toNat < n), !(R (o + r.toNat)).v == (2 : Int), true,
        true, true, true, true, decide ((0 : Int) ≤ r), decide (r < ((k : Nat) : Int)), decide (o + r.toNat < n),
        !(R (o + r.toNat)).v == (2 : Int), decide ((0 : Int) ≤ j), decide (j < ((s.size : Nat) : Int)), wht (bt s j), true,
        yes
          ((0 : Int) ≤ (32 : Int) ∧
            (32 : Int) < (256 : Int) ∧
              (fun k => (v1 (a k)).headD undef) = fun k => Value.int IntKind.i64 (dv ((v1 (a k)).headD undef))),
        decide ((0 : Int) ≤ r), decide (r < ((k : Nat) : Int)), decide (o + r.toNat < n), !(R (o + r.toNat)).v == (1 : Int),
        decide (((na : Nat) : Int) > (0 : Int)), true, true, true, true, decide ((0 : Int) ≤ w64 (((na : Nat) : Int) - (1 : Int))),
        decide (w64 (((na : Nat) : Int) - (1 : Int)) < ((na : Nat) : Int)), true, decide (0 + (w64 (((na : Nat) : Int) - (1 : Int))).toNat < na), true, true,
        !blk
            { k := (L (0 + (w64 (((na : Nat) : Int) - (1 : Int))).toNat)).k,
              r := (L (0 + (w64 (((na : Nat) : Int) - (1 : Int))).toNat)).r,
              a := (L (0 + (w64 (((na : Nat) : Int) - (1 : Int))).toNat)).a,
              w := (L (0 + (w64 (((na : Nat) : Int) - (1 : Int))).toNat)).w },
        decide (na = na), true, decide ((na + 1) * 32 ≤ maxCells)],
      Ex.normal,
      {
        sl :=
          slots 143
            [(1, AV.c (AC.sl 0 o k)), (2, AV.c (AC.ptr 1 0 0)),
              (5, AV.c (AC.sl 2 0 (na + 1))), (6, I64 r),
              (7, AV.c (AC.v (Value.string s))), (8, I64 (w64 (j + (1 : Int))))],
        h :=
          [some
              { t := 83, own := own,
                c :=
                  Cont.row 4 n fun j =>
                    [Value.int IntKind.i64 (R j).n, Value.string (R j).s, Value.int IntKind.i64 (R j).v,
                      Value.int IntKind.i64 (R j).l] },
            some
              { t := 35, own := true,
                c := Cont.row 1 256 fun k => [Value.int IntKind.i64 (a k)] },
            some
              { t := 87, own := true,
                c :=
                  Cont.row 4 (na + 1) fun k =>
                    [Value.int IntKind.i64 (bif decide (k = na) then (2 : Int) else (L k).k),
                      Value.int IntKind.i64 (bif decide (k = na) then r else (L k).r),
                      Value.int IntKind.i64 (bif decide (k = na) then j else (L k).a),
                      Value.int IntKind.i64
                        (bif decide (k = na) then Mt (fun k => dv ((v1 (a k)).headD undef)) (32 : Int)
                        else (L k).w)] }] }) := by kernel_rfl
theorem r3_ex {own : Bool} {n : Nat} {R : Nat → Rn} {m : Nat} {A : Nat → Gl} {na : Nat} {L : Nat → Gl} {i : Int} : (r3T own n R m A na L i).go [false] =
  some
    ([!decide (i < ((m : Nat) : Int))], Ex.exit 5,
      {
        sl :=
          slots 143
            [(5, AV.c (AC.sl 1 0 m)), (10, AV.c (AC.sl 2 0 na)),
              (11, I64 i)],
        h :=
          [some
              { t := 83, own := own,
                c :=
                  Cont.row 4 n fun j =>
                    [Value.int IntKind.i64 (R j).n, Value.string (R j).s, Value.int IntKind.i64 (R j).v,
                      Value.int IntKind.i64 (R j).l] },
            some
              { t := 87, own := true,
                c :=
                  Cont.row 4 m fun j =>
                    [Value.int IntKind.i64 (A j).k, Value.int IntKind.i64 (A j).r, Value.int IntKind.i64 (A j).a,
                      Value.int IntKind.i64 (A j).w] },
            some
              { t := 87, own := true,
                c :=
                  Cont.row 4 na fun j =>
                    [Value.int IntKind.i64 (L j).k, Value.int IntKind.i64 (L j).r, Value.int IntKind.i64 (L j).a,
                      Value.int IntKind.i64 (L j).w] }] }) := by kernel_rfl
theorem r3_a_t {own : Bool} {n : Nat} {R : Nat → Rn} {m : Nat} {A : Nat → Gl} {na : Nat} {L : Nat → Gl} {i : Int} : (r3T own n R m A na L i).go [] =
  some
    ([decide (i < ((m : Nat) : Int)), i == (0 : Int), true, true, true, true, true, true, true, true, true, true, true, true, true,
        true, true, true, true, true, true, true, true, decide ((0 : Int) ≤ i), decide (i < ((m : Nat) : Int)),
        decide (0 + i.toNat < m),
        !blk
            { k := (A (0 + i.toNat)).k, r := (A (0 + i.toNat)).r, a := (A (0 + i.toNat)).a,
              w := (A (0 + i.toNat)).w },
        true, true, true, decide ((0 : Int) ≤ i), decide (i < ((m : Nat) : Int)), decide (0 + i.toNat < m), decide (na = na),
        true, decide ((na + 1) * 32 ≤ maxCells)],
      Ex.normal,
      {
        sl :=
          slots 143
            [(5, AV.c (AC.sl 1 0 m)),
              (10, AV.c (AC.sl 2 0 (na + 1))), (11, I64 (w64 (i + (1 : Int))))],
        h :=
          [some
              { t := 83, own := own,
                c :=
                  Cont.row 4 n fun j =>
                    [Value.int IntKind.i64 (R j).n, Value.string (R j).s, Value.int IntKind.i64 (R j).v,
                      Value.int IntKind.i64 (R j).l] },
            some
              { t := 87, own := true,
                c :=
                  Cont.row 4 m fun j =>
                    [Value.int IntKind.i64 (A j).k, Value.int IntKind.i64 (A j).r, Value.int IntKind.i64 (A j).a,
                      Value.int IntKind.i64 (A j).w] },
            some
              { t := 87, own := true,
                c :=
                  Cont.row 4 (na + 1) fun k =>
                    [Value.int IntKind.i64 (bif decide (k = na) then (A (0 + i.toNat)).k else (L k).k),
                      Value.int IntKind.i64 (bif decide (k = na) then (A (0 + i.toNat)).r else (L k).r),
                      Value.int IntKind.i64 (bif decide (k = na) then (A (0 + i.toNat)).a else (L k).a),
                      Value.int IntKind.i64 (bif decide (k = na) then (A (0 + i.toNat)).w else (L k).w)] }] }) := by kernel_rfl
theorem r3_a_f {own : Bool} {n : Nat} {R : Nat → Rn} {m : Nat} {A : Nat → Gl} {na : Nat} {L : Nat → Gl} {i : Int} : (r3T own n R m A na L i).go [true, true, true, true, true, true, true, true, true, true, true, true, true, true, true, true, true, true, true, true, true, true, true, true, true, true, false, false, false, false] =
  some
    ([decide (i < ((m : Nat) : Int)), i == (0 : Int), true, true, true, true, true, true, true, true, true, true, true, true, true,
        true, true, true, true, true, true, true, true, decide ((0 : Int) ≤ i), decide (i < ((m : Nat) : Int)),
        decide (0 + i.toNat < m),
        !!blk
              { k := (A (0 + i.toNat)).k, r := (A (0 + i.toNat)).r, a := (A (0 + i.toNat)).a,
                w := (A (0 + i.toNat)).w },
        true, true, true],
      Ex.normal,
      {
        sl :=
          slots 143
            [(5, AV.c (AC.sl 1 0 m)), (10, AV.c (AC.sl 2 0 na)),
              (11, I64 (w64 (i + (1 : Int))))],
        h :=
          [some
              { t := 83, own := own,
                c :=
                  Cont.row 4 n fun j =>
                    [Value.int IntKind.i64 (R j).n, Value.string (R j).s, Value.int IntKind.i64 (R j).v,
                      Value.int IntKind.i64 (R j).l] },
            some
              { t := 87, own := true,
                c :=
                  Cont.row 4 m fun j =>
                    [Value.int IntKind.i64 (A j).k, Value.int IntKind.i64 (A j).r, Value.int IntKind.i64 (A j).a,
                      Value.int IntKind.i64 (A j).w] },
            some
              { t := 87, own := true,
                c :=
                  Cont.row 4 na fun j =>
                    [Value.int IntKind.i64 (L j).k, Value.int IntKind.i64 (L j).r, Value.int IntKind.i64 (L j).a,
                      Value.int IntKind.i64 (L j).w] }] }) := by kernel_rfl
theorem r3_b_t {own : Bool} {n : Nat} {R : Nat → Rn} {m : Nat} {A : Nat → Gl} {na : Nat} {L : Nat → Gl} {i : Int} : (r3T own n R m A na L i).go [true, false, false, false, false, false, false] =
  some
    ([decide (i < ((m : Nat) : Int)), !i == (0 : Int), true, true, true, true, true, w64 (i + (1 : Int)) == ((m : Nat) : Int), true, true, true, true,
        true, true, true, true, true, true, true, true, true, true, true, decide ((0 : Int) ≤ i), decide (i < ((m : Nat) : Int)),
        decide (0 + i.toNat < m),
        !blk
            { k := (A (0 + i.toNat)).k, r := (A (0 + i.toNat)).r, a := (A (0 + i.toNat)).a,
              w := (A (0 + i.toNat)).w },
        true, true, true, decide ((0 : Int) ≤ i), decide (i < ((m : Nat) : Int)), decide (0 + i.toNat < m), decide (na = na),
        true, decide ((na + 1) * 32 ≤ maxCells)],
      Ex.normal,
      {
        sl :=
          slots 143
            [(5, AV.c (AC.sl 1 0 m)),
              (10, AV.c (AC.sl 2 0 (na + 1))), (11, I64 (w64 (i + (1 : Int))))],
        h :=
          [some
              { t := 83, own := own,
                c :=
                  Cont.row 4 n fun j =>
                    [Value.int IntKind.i64 (R j).n, Value.string (R j).s, Value.int IntKind.i64 (R j).v,
                      Value.int IntKind.i64 (R j).l] },
            some
              { t := 87, own := true,
                c :=
                  Cont.row 4 m fun j =>
                    [Value.int IntKind.i64 (A j).k, Value.int IntKind.i64 (A j).r, Value.int IntKind.i64 (A j).a,
                      Value.int IntKind.i64 (A j).w] },
            some
              { t := 87, own := true,
                c :=
                  Cont.row 4 (na + 1) fun k =>
                    [Value.int IntKind.i64 (bif decide (k = na) then (A (0 + i.toNat)).k else (L k).k),
                      Value.int IntKind.i64 (bif decide (k = na) then (A (0 + i.toNat)).r else (L k).r),
                      Value.int IntKind.i64 (bif decide (k = na) then (A (0 + i.toNat)).a else (L k).a),
                      Value.int IntKind.i64 (bif decide (k = na) then (A (0 + i.toNat)).w else (L k).w)] }] }) := by kernel_rfl
theorem r3_b_f {own : Bool} {n : Nat} {R : Nat → Rn} {m : Nat} {A : Nat → Gl} {na : Nat} {L : Nat → Gl} {i : Int} : (r3T own n R m A na L i).go [true, false, false, false, false, false, false, true, true, true, true, true, true, true, true, true, true, true, true, true, true, true, true, true, true, true, false, false, false, false] =
  some
    ([decide (i < ((m : Nat) : Int)), !i == (0 : Int), true, true, true, true, true, w64 (i + (1 : Int)) == ((m : Nat) : Int), true, true, true, true,
        true, true, true, true, true, true, true, true, true, true, true, decide ((0 : Int) ≤ i), decide (i < ((m : Nat) : Int)),
        decide (0 + i.toNat < m),
        !!blk
              { k := (A (0 + i.toNat)).k, r := (A (0 + i.toNat)).r, a := (A (0 + i.toNat)).a,
                w := (A (0 + i.toNat)).w },
        true, true, true],
      Ex.normal,
      {
        sl :=
          slots 143
            [(5, AV.c (AC.sl 1 0 m)), (10, AV.c (AC.sl 2 0 na)),
              (11, I64 (w64 (i + (1 : Int))))],
        h :=
          [some
              { t := 83, own := own,
                c :=
                  Cont.row 4 n fun j =>
                    [Value.int IntKind.i64 (R j).n, Value.string (R j).s, Value.int IntKind.i64 (R j).v,
                      Value.int IntKind.i64 (R j).l] },
            some
              { t := 87, own := true,
                c :=
                  Cont.row 4 m fun j =>
                    [Value.int IntKind.i64 (A j).k, Value.int IntKind.i64 (A j).r, Value.int IntKind.i64 (A j).a,
                      Value.int IntKind.i64 (A j).w] },
            some
              { t := 87, own := true,
                c :=
                  Cont.row 4 na fun j =>
                    [Value.int IntKind.i64 (L j).k, Value.int IntKind.i64 (L j).r, Value.int IntKind.i64 (L j).a,
                      Value.int IntKind.i64 (L j).w] }] }) := by kernel_rfl
theorem r3_c_t {own : Bool} {n : Nat} {R : Nat → Rn} {m : Nat} {A : Nat → Gl} {na : Nat} {L : Nat → Gl} {i : Int} : (r3T own n R m A na L i).go [true, false, false, false, false, false, false, false, false, false, false, true, true, false, false, true, false, false] =
  some
    ([decide (i < ((m : Nat) : Int)), !i == (0 : Int), true, true, true, true, true, !w64 (i + (1 : Int)) == ((m : Nat) : Int), true, true, true,
        decide ((0 : Int) ≤ w64 (i - (1 : Int))), decide (w64 (i - (1 : Int)) < ((m : Nat) : Int)), true, true,
        decide (0 + (w64 (i - (1 : Int))).toNat < m), true, true,
        (A (0 + (w64 (i - (1 : Int))).toNat)).k == (4 : Int), true, true, true, true, true, true, true,
        decide ((0 : Int) ≤ i), decide (i < ((m : Nat) : Int)), decide (0 + i.toNat < m),
        !blk
            { k := (A (0 + i.toNat)).k, r := (A (0 + i.toNat)).r, a := (A (0 + i.toNat)).a,
              w := (A (0 + i.toNat)).w },
        true, true, true, decide ((0 : Int) ≤ i), decide (i < ((m : Nat) : Int)), decide (0 + i.toNat < m), decide (na = na),
        true, decide ((na + 1) * 32 ≤ maxCells)],
      Ex.normal,
      {
        sl :=
          slots 143
            [(5, AV.c (AC.sl 1 0 m)),
              (10, AV.c (AC.sl 2 0 (na + 1))), (11, I64 (w64 (i + (1 : Int))))],
        h :=
          [some
              { t := 83, own := own,
                c :=
                  Cont.row 4 n fun j =>
                    [Value.int IntKind.i64 (R j).n, Value.string (R j).s, Value.int IntKind.i64 (R j).v,
                      Value.int IntKind.i64 (R j).l] },
            some
              { t := 87, own := true,
                c :=
                  Cont.row 4 m fun j =>
                    [Value.int IntKind.i64 (A j).k, Value.int IntKind.i64 (A j).r, Value.int IntKind.i64 (A j).a,
                      Value.int IntKind.i64 (A j).w] },
            some
              { t := 87, own := true,
                c :=
                  Cont.row 4 (na + 1) fun k =>
                    [Value.int IntKind.i64 (bif decide (k = na) then (A (0 + i.toNat)).k else (L k).k),
                      Value.int IntKind.i64 (bif decide (k = na) then (A (0 + i.toNat)).r else (L k).r),
                      Value.int IntKind.i64 (bif decide (k = na) then (A (0 + i.toNat)).a else (L k).a),
                      Value.int IntKind.i64 (bif decide (k = na) then (A (0 + i.toNat)).w else (L k).w)] }] }) := by kernel_rfl
theorem r3_c_f {own : Bool} {n : Nat} {R : Nat → Rn} {m : Nat} {A : Nat → Gl} {na : Nat} {L : Nat → Gl} {i : Int} : (r3T own n R m A na L i).go [true, false, false, false, false, false, false, false, false, false, false, true, true, false, false, true, false, false, true, true, true, true, true, true, true, true, true, true, true, false, false, false, false] =
  some
    ([decide (i < ((m : Nat) : Int)), !i == (0 : Int), true, true, true, true, true, !w64 (i + (1 : Int)) == ((m : Nat) : Int), true, true, true,
        decide ((0 : Int) ≤ w64 (i - (1 : Int))), decide (w64 (i - (1 : Int)) < ((m : Nat) : Int)), true, true,
        decide (0 + (w64 (i - (1 : Int))).toNat < m), true, true,
        (A (0 + (w64 (i - (1 : Int))).toNat)).k == (4 : Int), true, true, true, true, true, true, true,
        decide ((0 : Int) ≤ i), decide (i < ((m : Nat) : Int)), decide (0 + i.toNat < m),
        !!blk
              { k := (A (0 + i.toNat)).k, r := (A (0 + i.toNat)).r, a := (A (0 + i.toNat)).a,
                w := (A (0 + i.toNat)).w },
        true, true, true],
      Ex.normal,
      {
        sl :=
          slots 143
            [(5, AV.c (AC.sl 1 0 m)), (10, AV.c (AC.sl 2 0 na)),
              (11, I64 (w64 (i + (1 : Int))))],
        h :=
          [some
              { t := 83, own := own,
                c :=
                  Cont.row 4 n fun j =>
                    [Value.int IntKind.i64 (R j).n, Value.string (R j).s, Value.int IntKind.i64 (R j).v,
                      Value.int IntKind.i64 (R j).l] },
            some
              { t := 87, own := true,
                c :=
                  Cont.row 4 m fun j =>
                    [Value.int IntKind.i64 (A j).k, Value.int IntKind.i64 (A j).r, Value.int IntKind.i64 (A j).a,
                      Value.int IntKind.i64 (A j).w] },
            some
              { t := 87, own := true,
                c :=
                  Cont.row 4 na fun j =>
                    [Value.int IntKind.i64 (L j).k, Value.int IntKind.i64 (L j).r, Value.int IntKind.i64 (L j).a,
                      Value.int IntKind.i64 (L j).w] }] }) := by kernel_rfl
theorem r3_d_t {own : Bool} {n : Nat} {R : Nat → Rn} {m : Nat} {A : Nat → Gl} {na : Nat} {L : Nat → Gl} {i : Int} : (r3T own n R m A na L i).go [true, false, false, false, false, false, false, false, false, false, false, true, true, false, false, true, false, false, false, false, false, false, true, true, false, false, true, false, false] =
  some
    ([decide (i < ((m : Nat) : Int)), !i == (0 : Int), true, true, true, true, true, !w64 (i + (1 : Int)) == ((m : Nat) : Int), true, true, true,
        decide ((0 : Int) ≤ w64 (i - (1 : Int))), decide (w64 (i - (1 : Int)) < ((m : Nat) : Int)), true, true,
        decide (0 + (w64 (i - (1 : Int))).toNat < m), true, true,
        !(A (0 + (w64 (i - (1 : Int))).toNat)).k == (4 : Int), true, true, true,
        decide ((0 : Int) ≤ w64 (i + (1 : Int))), decide (w64 (i + (1 : Int)) < ((m : Nat) : Int)), true, true,
        decide (0 + (w64 (i + (1 : Int))).toNat < m), true, true, decide ((0 : Int) ≤ i), decide (i < ((m : Nat) : Int)),
        decide (0 + i.toNat < m),
        !blk
            { k := (A (0 + i.toNat)).k, r := (A (0 + i.toNat)).r, a := (A (0 + i.toNat)).a,
              w := (A (0 + i.toNat)).w },
        true, true, true, decide ((0 : Int) ≤ i), decide (i < ((m : Nat) : Int)), decide (0 + i.toNat < m), decide (na = na),
        true, decide ((na + 1) * 32 ≤ maxCells)],
      Ex.normal,
      {
        sl :=
          slots 143
            [(5, AV.c (AC.sl 1 0 m)),
              (10, AV.c (AC.sl 2 0 (na + 1))), (11, I64 (w64 (i + (1 : Int))))],
        h :=
          [some
              { t := 83, own := own,
                c :=
                  Cont.row 4 n fun j =>
                    [Value.int IntKind.i64 (R j).n, Value.string (R j).s, Value.int IntKind.i64 (R j).v,
                      Value.int IntKind.i64 (R j).l] },
            some
              { t := 87, own := true,
                c :=
                  Cont.row 4 m fun j =>
                    [Value.int IntKind.i64 (A j).k, Value.int IntKind.i64 (A j).r, Value.int IntKind.i64 (A j).a,
                      Value.int IntKind.i64 (A j).w] },
            some
              { t := 87, own := true,
                c :=
                  Cont.row 4 (na + 1) fun k =>
                    [Value.int IntKind.i64 (bif decide (k = na) then (A (0 + i.toNat)).k else (L k).k),
                      Value.int IntKind.i64 (bif decide (k = na) then (A (0 + i.toNat)).r else (L k).r),
                      Value.int IntKind.i64 (bif decide (k = na) then (A (0 + i.toNat)).a else (L k).a),
                      Value.int IntKind.i64 (bif decide (k = na) then (A (0 + i.toNat)).w else (L k).w)] }] }) := by kernel_rfl
theorem r3_d_ft {own : Bool} {n : Nat} {R : Nat → Rn} {m : Nat} {A : Nat → Gl} {na : Nat} {L : Nat → Gl} {i : Int} : (r3T own n R m A na L i).go [true, false, false, false, false, false, false, false, false, false, false, true, true, false, false, true, false, false, false, false, false, false, true, true, false, false, true, false, false, true, true, true, false, false, false] =
  some
    ([decide (i < ((m : Nat) : Int)), !i == (0 : Int), true, true, true, true, true, !w64 (i + (1 : Int)) == ((m : Nat) : Int), true, true, true,
        decide ((0 : Int) ≤ w64 (i - (1 : Int))), decide (w64 (i - (1 : Int)) < ((m : Nat) : Int)), true, true,
        decide (0 + (w64 (i - (1 : Int))).toNat < m), true, true,
        !(A (0 + (w64 (i - (1 : Int))).toNat)).k == (4 : Int), true, true, true,
        decide ((0 : Int) ≤ w64 (i + (1 : Int))), decide (w64 (i + (1 : Int)) < ((m : Nat) : Int)), true, true,
        decide (0 + (w64 (i + (1 : Int))).toNat < m), true, true, decide ((0 : Int) ≤ i), decide (i < ((m : Nat) : Int)),
        decide (0 + i.toNat < m),
        !!blk
              { k := (A (0 + i.toNat)).k, r := (A (0 + i.toNat)).r, a := (A (0 + i.toNat)).a,
                w := (A (0 + i.toNat)).w },
        true, true, !(A (0 + (w64 (i + (1 : Int))).toNat)).k == (4 : Int), decide ((0 : Int) ≤ i),
        decide (i < ((m : Nat) : Int)), decide (0 + i.toNat < m), decide (na = na), true,
        decide ((na + 1) * 32 ≤ maxCells)],
      Ex.normal,
      {
        sl :=
          slots 143
            [(5, AV.c (AC.sl 1 0 m)),
              (10, AV.c (AC.sl 2 0 (na + 1))), (11, I64 (w64 (i + (1 : Int))))],
        h :=
          [some
              { t := 83, own := own,
                c :=
                  Cont.row 4 n fun j =>
                    [Value.int IntKind.i64 (R j).n, Value.string (R j).s, Value.int IntKind.i64 (R j).v,
                      Value.int IntKind.i64 (R j).l] },
            some
              { t := 87, own := true,
                c :=
                  Cont.row 4 m fun j =>
                    [Value.int IntKind.i64 (A j).k, Value.int IntKind.i64 (A j).r, Value.int IntKind.i64 (A j).a,
                      Value.int IntKind.i64 (A j).w] },
            some
              { t := 87, own := true,
                c :=
                  Cont.row 4 (na + 1) fun k =>
                    [Value.int IntKind.i64 (bif decide (k = na) then (A (0 + i.toNat)).k else (L k).k),
                      Value.int IntKind.i64 (bif decide (k = na) then (A (0 + i.toNat)).r else (L k).r),
                      Value.int IntKind.i64 (bif decide (k = na) then (A (0 + i.toNat)).a else (L k).a),
                      Value.int IntKind.i64 (bif decide (k = na) then (A (0 + i.toNat)).w else (L k).w)] }] }) := by kernel_rfl
theorem r3_d_ff {own : Bool} {n : Nat} {R : Nat → Rn} {m : Nat} {A : Nat → Gl} {na : Nat} {L : Nat → Gl} {i : Int} : (r3T own n R m A na L i).go [true, false, false, false, false, false, false, false, false, false, false, true, true, false, false, true, false, false, false, false, false, false, true, true, false, false, true, false, false, true, true, true, false, false, false, false] =
  some
    ([decide (i < ((m : Nat) : Int)), !i == (0 : Int), true, true, true, true, true, !w64 (i + (1 : Int)) == ((m : Nat) : Int), true, true, true,
        decide ((0 : Int) ≤ w64 (i - (1 : Int))), decide (w64 (i - (1 : Int)) < ((m : Nat) : Int)), true, true,
        decide (0 + (w64 (i - (1 : Int))).toNat < m), true, true,
        !(A (0 + (w64 (i - (1 : Int))).toNat)).k == (4 : Int), true, true, true,
        decide ((0 : Int) ≤ w64 (i + (1 : Int))), decide (w64 (i + (1 : Int)) < ((m : Nat) : Int)), true, true,
        decide (0 + (w64 (i + (1 : Int))).toNat < m), true, true, decide ((0 : Int) ≤ i), decide (i < ((m : Nat) : Int)),
        decide (0 + i.toNat < m),
        !!blk
              { k := (A (0 + i.toNat)).k, r := (A (0 + i.toNat)).r, a := (A (0 + i.toNat)).a,
                w := (A (0 + i.toNat)).w },
        true, true, !!(A (0 + (w64 (i + (1 : Int))).toNat)).k == (4 : Int)],
      Ex.normal,
      {
        sl :=
          slots 143
            [(5, AV.c (AC.sl 1 0 m)), (10, AV.c (AC.sl 2 0 na)),
              (11, I64 (w64 (i + (1 : Int))))],
        h :=
          [some
              { t := 83, own := own,
                c :=
                  Cont.row 4 n fun j =>
                    [Value.int IntKind.i64 (R j).n, Value.string (R j).s, Value.int IntKind.i64 (R j).v,
                      Value.int IntKind.i64 (R j).l] },
            some
              { t := 87, own := true,
                c :=
                  Cont.row 4 m fun j =>
                    [Value.int IntKind.i64 (A j).k, Value.int IntKind.i64 (A j).r, Value.int IntKind.i64 (A j).a,
                      Value.int IntKind.i64 (A j).w] },
            some
              { t := 87, own := true,
                c :=
                  Cont.row 4 na fun j =>
                    [Value.int IntKind.i64 (L j).k, Value.int IntKind.i64 (L j).r, Value.int IntKind.i64 (L j).a,
                      Value.int IntKind.i64 (L j).w] }] }) := by kernel_rfl
noncomputable def roT (a : Nat → Int) (own : Bool) (o k n : Nat) (R : Nat → Rn) (na : Nat) (L : Nat → Gl) (na' : Nat) (L' : Nat → Gl) (r z : Int) : Tr (Ex × St) :=
  rT rgG (tell (bodyOf Try.f86 1) (riS a own o k n R na L (R (o + r.toNat)).s r 0) (.exit 2, riS a own o k n R na' L' (R (o + r.toNat)).s r z)) 1 54 (bodyOf Try.f86 0) rgK rgK (roS a own o k n R na L r)
theorem ro_go {a : Nat → Int} {own : Bool} {o k n : Nat} {R : Nat → Rn} {na : Nat} {L : Nat → Gl} {na' : Nat} {L' : Nat → Gl} {r z : Int} : (roT a own o k n R na L na' L' r z).go [] =
  some
    ([decide (r < ((k : Nat) : Int)), decide ((0 : Int) ≤ r), decide (r < ((k : Nat) : Int)), decide (o + r.toNat < n), yes (wasS (bodyOf Try.f86 1) (riS a own o k n R na L (R (o + r.toNat)).s r 0))], Ex.normal,
      {
        sl :=
          slots 143
            [(1, AV.c (AC.sl 0 o k)), (2, AV.c (AC.ptr 1 0 0)),
              (5, AV.c (AC.sl 2 0 na')), (6, I64 (w64 (r + (1 : Int))))],
        h :=
          [some
              { t := 83, own := own,
                c :=
                  Cont.row 4 n fun j =>
                    [Value.int IntKind.i64 (R j).n, Value.string (R j).s, Value.int IntKind.i64 (R j).v,
                      Value.int IntKind.i64 (R j).l] },
            some
              { t := 35, own := true,
                c := Cont.row 1 256 fun k => [Value.int IntKind.i64 (a k)] },
            some
              { t := 87, own := true,
                c :=
                  Cont.row 4 na' fun j =>
                    [Value.int IntKind.i64 (L' j).k, Value.int IntKind.i64 (L' j).r, Value.int IntKind.i64 (L' j).a,
                      Value.int IntKind.i64 (L' j).w] }] }) := by kernel_rfl
theorem ro_ex {a : Nat → Int} {own : Bool} {o k n : Nat} {R : Nat → Rn} {na : Nat} {L : Nat → Gl} {r : Int} : (rT rgG nol 1 54 (bodyOf Try.f86 0) rgK rgK (roS a own o k n R na L r)).go [false] =
  some
    ([!decide (r < ((k : Nat) : Int))], Ex.exit 0,
      {
        sl :=
          slots 143
            [(1, AV.c (AC.sl 0 o k)), (2, AV.c (AC.ptr 1 0 0)),
              (5, AV.c (AC.sl 2 0 na)), (6, I64 r)],
        h :=
          [some
              { t := 83, own := own,
                c :=
                  Cont.row 4 n fun j =>
                    [Value.int IntKind.i64 (R j).n, Value.string (R j).s, Value.int IntKind.i64 (R j).v,
                      Value.int IntKind.i64 (R j).l] },
            some
              { t := 35, own := true,
                c := Cont.row 1 256 fun k => [Value.int IntKind.i64 (a k)] },
            some
              { t := 87, own := true,
                c :=
                  Cont.row 4 na fun j =>
                    [Value.int IntKind.i64 (L j).k, Value.int IntKind.i64 (L j).r, Value.int IntKind.i64 (L j).a,
                      Value.int IntKind.i64 (L j).w] }] }) := by kernel_rfl
noncomputable def rgL (a : Nat → Int) (own : Bool) (o k n : Nat) (R : Nat → Rn) (m : Nat) (A : Nat → Gl) (na : Nat) (L : Nat → Gl) (z z' : Int) : Loops :=
  byReg 3 (tell (bodyOf Try.f86 0) (roS a own o k n R 0 (fun _ => zGl) 0) (.exit 0, roS a own o k n R m A z)) (tell (bodyOf Try.f86 2) (r3S own n R m A 0 (fun _ => zGl) 0) (.exit 5, r3S own n R m A na L z'))
theorem rg_w {a : Nat → Int} {own : Bool} {o k n : Nat} {R : Nat → Rn} {m : Nat} {A : Nat → Gl} {na : Nat} {L : Nat → Gl} {z z' : Int} : (lfun rgG (rgL a own o k n R m A na L z z') 60 Try.f86 [aA a, .c (.sl 0 o k)] [rowRn own n R]).go [] =
  some
    ([yes (wasS (bodyOf Try.f86 0) (roS a own o k n R 0 (fun _ => zGl) 0)), yes (wasS (bodyOf Try.f86 2) (r3S own n R m A 0 (fun _ => zGl) 0))], AV.c (AC.sl 1 0 na),
      [some
          { t := 83, own := own,
            c :=
              Cont.row 4 n fun j =>
                [Value.int IntKind.i64 (R j).n, Value.string (R j).s, Value.int IntKind.i64 (R j).v,
                  Value.int IntKind.i64 (R j).l] },
        some
          { t := 87, own := true,
            c :=
              Cont.row 4 na fun j =>
                [Value.int IntKind.i64 (L j).k, Value.int IntKind.i64 (L j).r, Value.int IntKind.i64 (L j).a,
                  Value.int IntKind.i64 (L j).w] }]) := by kernel_rfl
end Go.Proofs.Ytcpahifgdppkbaa.QAI
end
section
/- Glyphs: what the document's loops come to. -/
set_option linter.unusedVariables false
set_option linter.unusedSimpArgs false
namespace Go.Proofs.Ytcpahifgdppkbaa.QAI
open Go Go.RowKit
set_option maxRecDepth 100000
def riI (a : Nat → Int) (own : Bool) (o k n : Nat) (R : Nat → Rn) (acc : List Gl) (r : Nat) (j : Nat) : St :=
  riS a own o k n R (goB (Mt a) (R (o + r)).v r (R (o + r)).s acc j).length (at_ (goB (Mt a) (R (o + r)).v r (R (o + r)).s acc j)) (R (o + r)).s r j
theorem ri_step {a : Nat → Int} {own : Bool} {o k n : Nat} {R : Nat → Rn} {acc : List Gl} {r j : Nat} (hr : r < k) (hn : o + k ≤ n) (hj : j < (R (o + r)).s.size) (hb : acc.length + (R (o + r)).s.size < 2 ^ 40) :
    (rT rgG nol 1 47 (bodyOf Try.f86 1) rgKi rgKi (riI a own o k n R acc r j)).eval = some (.normal, riI a own o k n R acc r (j + 1)) := by
  have hl := goB_len (M := Mt a) (v := (R (o + r)).v) (r := r) (s := (R (o + r)).s) (acc := acc) j
  obtain ⟨b0, b1⟩ := bt_lt (R (o + r)).s j
  have h3 := succ64 (j := j) (by omega)
  have e1 : goB (Mt a) (R (o + r)).v r (R (o + r)).s acc (j + 1) = put blk (goB (Mt a) (R (o + r)).v r (R (o + r)).s acc j) (gl (Mt a) (R (o + r)).v r j (bt (R (o + r)).s j)) := rfl
  unfold riI
  rw [e1]
  generalize goB (Mt a) (R (o + r)).v r (R (o + r)).s acc j = A at hl ⊢
  have hyy : yes ((0 : Int) ≤ bt (R (o + r)).s j ∧ bt (R (o + r)).s j < (256 : Int) ∧ (fun k => (v1 (a k)).headD undef) = fun k => Value.int IntKind.i64 (dv ((v1 (a k)).headD undef))) = true := yes_of ⟨b0, b1, rfl⟩
  have hy3 : yes ((0 : Int) ≤ (32 : Int) ∧ (32 : Int) < (256 : Int) ∧ (fun k => (v1 (a k)).headD undef) = fun k => Value.int IntKind.i64 (dv ((v1 (a k)).headD undef))) = true := yes_of ⟨by omega, by omega, rfl⟩
  generalize hq : gl (Mt a) (R (o + r)).v r j (bt (R (o + r)).s j) = g
  have app : ∀ A : List Gl, put blk A g = A ++ [g] →
      some (Ex.normal, riS a own o k n R (A.length + 1) (at_ (A ++ [g])) (R (o + r)).s r ((j + 1 : Nat) : Int)) = some (Ex.normal, riS a own o k n R (put blk A g).length (at_ (put blk A g)) (R (o + r)).s r ((j + 1 : Nat) : Int)) := by
    intro A h
    rw [h]
    simp
  have fin : ∀ A : List Gl, (⟨slots 143 [(1, .c (.sl 0 o k)), (2, .c (.ptr 1 0 0)), (5, .c (.sl 2 0 (A.length + 1))), (6, I64 r), (7, .c (.v (.string (R (o + r)).s))), (8, I64 ((j + 1 : Nat) : Int))],
      [rowRn own n R, rowA a, some ⟨87, true, .row 4 (A.length + 1) (upd (fun j => encG (at_ A j)) A.length (encG g))⟩]⟩ : St) = riS a own o k n R (A.length + 1) (at_ (A ++ [g])) (R (o + r)).s r ((j + 1 : Nat) : Int) := by
    intro A
    rw [upd_at]
    rfl
  have hc := cells32 (n := A.length + 1) (by omega)
  by_cases hv : (R (o + r)).v = 2
  · by_cases h10 : bt (R (o + r)).s j = 10
    · have hg : g = ⟨4, r, j, 0⟩ := by rw [← hq]; simp [gl, gk, ga, hv, h10]
      have hgb : blk g = false := by rw [hg]; rfl
      refine (rT_go ri_A ?_).trans ?_
      · simp only [Int.toNat_natCast, Nat.zero_add]
        repeat' (first | exact AllT.nil | refine AllT.cons ?_ ?_)
        all_goals first | (with_reducible rfl) | assumption | exact decide_eq_true (by omega) | exact beq_iff_eq.2 (by omega) | (simp; done) | (simp; omega)
      · simp only [Int.toNat_natCast, h3]
        refine Eq.trans ?_ (app A (put_f hgb))
        rw [← fin A, hg]
        rfl
    · have hg : g = ⟨1, r, j, Mt a (bt (R (o + r)).s j)⟩ := by rw [← hq]; simp [gl, gk, ga, hv, h10]
      have hgb : blk g = false := by rw [hg]; rfl
      refine (rT_go ri_B ?_).trans ?_
      · simp only [Int.toNat_natCast, Nat.zero_add]
        repeat' (first | exact AllT.nil | refine AllT.cons ?_ ?_)
        all_goals first | (with_reducible rfl) | assumption | exact decide_eq_true (by omega) | exact beq_iff_eq.2 (by omega) | (simp; done) | (simp; omega)
      · simp only [Int.toNat_natCast, h3]
        refine Eq.trans ?_ (app A (put_f hgb))
        rw [← fin A, hg]
        rfl
  · have hv' : (!(R (o + r)).v == 2) = true := by simpa using hv
    by_cases hw : wht (bt (R (o + r)).s j) = true
    · by_cases hv1 : (R (o + r)).v = 1
      · have hg : g = ⟨3, r, j, Mt a 32⟩ := by rw [← hq]; simp [gl, gk, ga, hv, hv1, hw]
        have hgb : blk g = true := by rw [hg]; rfl
        by_cases h0 : 0 < A.length
        · have hw2 : w64 ((A.length : Int) - 1) = ((A.length - 1 : Nat) : Int) := by rw [w64_id (by omega) (by omega)]; omega
          have hlb := lastB_at (acc := A) h0
          by_cases hla : lastB blk A = true
          · have p7 : blk (at_ A (A.length - 1)) = true := by rw [← hlb]; exact hla
            refine (rT_go ri_Ct_tt ?_).trans ?_
            · simp only [Int.toNat_natCast, Nat.zero_add, hw2]
              repeat' (first | exact AllT.nil | refine AllT.cons ?_ ?_)
              all_goals first | (with_reducible rfl) | assumption | exact decide_eq_true (by omega) | exact beq_iff_eq.2 (by omega) | (simp; done) | (simp; omega)
            · simp only [Int.toNat_natCast, h3]
              rw [put_tt hgb hla]
              rfl
          · have hla' : lastB blk A = false := by simpa using hla
            have p7 : (!blk (at_ A (A.length - 1))) = true := by rw [← hlb, hla']; rfl
            refine (rT_go ri_Ct_tf ?_).trans ?_
            · simp only [Int.toNat_natCast, Nat.zero_add, hw2]
              repeat' (first | exact AllT.nil | refine AllT.cons ?_ ?_)
              all_goals first | (with_reducible rfl) | assumption | exact decide_eq_true (by omega) | exact beq_iff_eq.2 (by omega) | (simp; done) | (simp; omega)
            · simp only [Int.toNat_natCast, h3]
              refine Eq.trans ?_ (app A (put_tf hla'))
              rw [← fin A, hg]
              rfl
        · have hA : A = [] := List.length_eq_zero_iff.1 (by omega)
          refine (rT_go ri_Ct_f ?_).trans ?_
          · simp only [Int.toNat_natCast, Nat.zero_add]
            repeat' (first | exact AllT.nil | refine AllT.cons ?_ ?_)
            all_goals first | (with_reducible rfl) | assumption | exact decide_eq_true (by omega) | exact beq_iff_eq.2 (by omega) | (simp; done) | (simp; omega)
          · simp only [Int.toNat_natCast, h3]
            refine Eq.trans ?_ (app A (put_tf (by rw [hA]; rfl)))
            rw [← fin A, hg]
            rfl
      · have hg : g = ⟨2, r, j, Mt a 32⟩ := by rw [← hq]; simp [gl, gk, ga, hv, hv1, hw]
        have hgb : blk g = true := by rw [hg]; rfl
        by_cases h0 : 0 < A.length
        · have hw2 : w64 ((A.length : Int) - 1) = ((A.length - 1 : Nat) : Int) := by rw [w64_id (by omega) (by omega)]; omega
          have hlb := lastB_at (acc := A) h0
          by_cases hla : lastB blk A = true
          · have p7 : blk (at_ A (A.length - 1)) = true := by rw [← hlb]; exact hla
            refine (rT_go ri_Cf_tt ?_).trans ?_
            · simp only [Int.toNat_natCast, Nat.zero_add, hw2]
              repeat' (first | exact AllT.nil | refine AllT.cons ?_ ?_)
              all_goals first | (with_reducible rfl) | assumption | exact decide_eq_true (by omega) | exact beq_iff_eq.2 (by omega) | (simp; done) | (simp; omega)
            · simp only [Int.toNat_natCast, h3]
              rw [put_tt hgb hla]
              rfl
          · have hla' : lastB blk A = false := by simpa using hla
            have p7 : (!blk (at_ A (A.length - 1))) = true := by rw [← hlb, hla']; rfl
            refine (rT_go ri_Cf_tf ?_).trans ?_
            · simp only [Int.toNat_natCast, Nat.zero_add, hw2]
              repeat' (first | exact AllT.nil | refine AllT.cons ?_ ?_)
              all_goals first | (with_reducible rfl) | assumption | exact decide_eq_true (by omega) | exact beq_iff_eq.2 (by omega) | (simp; done) | (simp; omega)
            · simp only [Int.toNat_natCast, h3]
              refine Eq.trans ?_ (app A (put_tf hla'))
              rw [← fin A, hg]
              rfl
        · have hA : A = [] := List.length_eq_zero_iff.1 (by omega)
          refine (rT_go ri_Cf_f ?_).trans ?_
          · simp only [Int.toNat_natCast, Nat.zero_add]
            repeat' (first | exact AllT.nil | refine AllT.cons ?_ ?_)
            all_goals first | (with_reducible rfl) | assumption | exact decide_eq_true (by omega) | exact beq_iff_eq.2 (by omega) | (simp; done) | (simp; omega)
          · simp only [Int.toNat_natCast, h3]
            refine Eq.trans ?_ (app A (put_tf (by rw [hA]; rfl)))
            rw [← fin A, hg]
            rfl
    · have hw' : wht (bt (R (o + r)).s j) = false := by simpa using hw
      have hw2 : (!wht (bt (R (o + r)).s j)) = true := by rw [hw']; rfl
      have hg : g = ⟨1, r, j, Mt a (bt (R (o + r)).s j)⟩ := by rw [← hq]; simp [gl, gk, ga, hv, hw']
      have hgb : blk g = false := by rw [hg]; rfl
      refine (rT_go ri_D ?_).trans ?_
      · simp only [Int.toNat_natCast, Nat.zero_add]
        repeat' (first | exact AllT.nil | refine AllT.cons ?_ ?_)
        all_goals first | (with_reducible rfl) | assumption | exact decide_eq_true (by omega) | exact beq_iff_eq.2 (by omega) | (simp; done) | (simp; omega)
      · simp only [Int.toNat_natCast, h3]
        refine Eq.trans ?_ (app A (put_f hgb))
        rw [← fin A, hg]
        rfl
theorem ri_loop {a : Nat → Int} {own : Bool} {o k n : Nat} {R : Nat → Rn} {acc : List Gl} {r : Nat} (hr : r < k) (hn : o + k ≤ n) (hb : acc.length + (R (o + r)).s.size < 2 ^ 40) :
    CodeSem rgG 1 (.loop (bodyOf Try.f86 1)) (riS a own o k n R acc.length (at_ acc) (R (o + r)).s r 0) (.exit 2, riS a own o k n R (goB (Mt a) (R (o + r)).v r (R (o + r)).s acc (R (o + r)).s.size).length (at_ (goB (Mt a) (R (o + r)).v r (R (o + r)).s acc (R (o + r)).s.size)) (R (o + r)).s r (R (o + r)).s.size) := by
  refine loop_sem rgG_ok (ℓ := nol) (d := 47) (k := rgKi) (ka := rgKi) noLoopsS (fun j => riI a own o k n R acc r j) (R (o + r)).s.size (by simp) ?_ fun j hj => ri_step hr hn hj hb
  exact rT_go ri_ex ⟨by simp, trivial⟩
theorem ro_loop {a : Nat → Int} {own : Bool} {o k n : Nat} {R : Nat → Rn} (hn : o + k ≤ n) (hk : k < 2 ^ 40) (hb : lenR (fun i => R (o + i)) k < 2 ^ 39) :
    CodeSem rgG 1 (.loop (bodyOf Try.f86 0)) (roS a own o k n R 0 (fun _ => zGl) 0) (.exit 0, roS a own o k n R (goR (Mt a) (fun i => R (o + i)) k).length (at_ (goR (Mt a) (fun i => R (o + i)) k)) k) := by
  have hmono := lenR_le (R := fun i => R (o + i)) (k := k)
  let st : Nat → St := fun i => roS a own o k n R (goR (Mt a) (fun i => R (o + i)) i).length (at_ (goR (Mt a) (fun i => R (o + i)) i)) i
  have step : ∀ j, j < k → CodeSem rgG 1 (bodyOf Try.f86 0) (st j) (.normal, st (j + 1)) := by
    intro j hj
    have h1 := hmono j hj
    have h2 := goR_len (M := Mt a) (R := fun i => R (o + i)) j
    have hin := ri_loop (a := a) (own := own) (o := o) (k := k) (n := n) (R := R) (acc := goR (Mt a) (fun i => R (o + i)) j) (r := j) hj hn (by omega)
    have h3 := succ64 (j := j) (by omega)
    have hgo := ro_go (a := a) (own := own) (o := o) (k := k) (n := n) (R := R) (na := (goR (Mt a) (fun i => R (o + i)) j).length) (L := at_ (goR (Mt a) (fun i => R (o + i)) j))
      (na' := (goR (Mt a) (fun i => R (o + i)) (j + 1)).length) (L' := at_ (goR (Mt a) (fun i => R (o + i)) (j + 1))) (r := j) (z := (R (o + j)).s.size)
    refine rT_sem rgG_ok (tell_ok hin) ((rT_go hgo ?_).trans ?_)
    · simp only [Int.toNat_natCast]
      repeat' (first | exact AllT.nil | refine AllT.cons ?_ ?_)
      all_goals first | (with_reducible rfl) | exact decide_eq_true (by omega) | exact yes_of ⟨rfl, rfl⟩
    · rw [h3]
      rfl
  have stop : CodeSem rgG 1 (bodyOf Try.f86 0) (st k) (.exit 0, st k) := rT_sem rgG_ok noLoopsS (rT_go ro_ex ⟨by simp, trivial⟩)
  exact loop_of st k (by simp) stop step
def r3I (own : Bool) (n : Nat) (R : Nat → Rn) (m : Nat) (A : Nat → Gl) (i : Nat) : St := r3S own n R m A (trimN m A i).length (at_ (trimN m A i)) i
theorem r3_step {own : Bool} {n : Nat} {R : Nat → Rn} {m : Nat} {A : Nat → Gl} {i : Nat} (hi : i < m) (hm : m < 2 ^ 40) :
    (rT rgG nol 1 52 (bodyOf Try.f86 2) rgK3 rgK3 (r3I own n R m A i)).eval = some (.normal, r3I own n R m A (i + 1)) := by
  have hl := trimN_len (n := m) (g := A) i
  have e1 := succ64 (j := i) (by omega)
  have kt : keepAt m A i = true → some (Ex.normal, r3S own n R m A ((trimN m A i).length + 1) (at_ (trimN m A i ++ [A i])) ((i + 1 : Nat) : Int)) = some (Ex.normal, r3I own n R m A (i + 1)) := by
    intro h
    rw [r3I, trimN_t h]
    simp
  have kf : keepAt m A i = false → some (Ex.normal, r3S own n R m A (trimN m A i).length (at_ (trimN m A i)) ((i + 1 : Nat) : Int)) = some (Ex.normal, r3I own n R m A (i + 1)) := by
    intro h
    rw [r3I, trimN_f h]
  have fin : (⟨slots 143 [(5, .c (.sl 1 0 m)), (10, .c (.sl 2 0 ((trimN m A i).length + 1))), (11, I64 ((i + 1 : Nat) : Int))],
      [rowRn own n R, rowGl m A, some ⟨87, true, .row 4 ((trimN m A i).length + 1) (upd (fun j => encG (at_ (trimN m A i) j)) (trimN m A i).length (encG (A i)))⟩]⟩ : St) = r3S own n R m A ((trimN m A i).length + 1) (at_ (trimN m A i ++ [A i])) ((i + 1 : Nat) : Int) := by
    rw [upd_at]
    rfl
  have hc := cells32 (n := (trimN m A i).length + 1) (by omega)
  have keq : keepAt m A i = !(blk (A i) && ((decide (i = 0) || brk (A (i - 1))) || (decide (i + 1 = m) || brk (A (i + 1))))) := rfl
  have hbt : blk (A i) = true → (!(!blk (A i))) = true := fun h => by rw [h]; rfl
  have hbf : ¬ blk (A i) = true → (!blk (A i)) = true := fun h => by simpa using h
  by_cases hF : i = 0
  · have e3 : True := trivial
    by_cases hb : blk (A i) = true
    · have hbb := hbt hb
      refine (rT_go r3_a_f ?_).trans ?_
      · simp only [Int.toNat_natCast, Nat.zero_add, e1, e3]
        repeat' (first | exact AllT.nil | refine AllT.cons ?_ ?_)
        all_goals first | (with_reducible rfl) | assumption | exact decide_eq_true (by omega) | exact beq_iff_eq.2 (by omega) | (simp; done) | (simp; omega)
      · simp only [Int.toNat_natCast, Nat.zero_add, e1, e3]
        refine Eq.trans ?_ (kf (by rw [keq, hb]; simp [hF]))
        rfl
    · have hbb := hbf hb
      have hb2 : blk (A i) = false := by simpa using hb
      refine (rT_go r3_a_t ?_).trans ?_
      · simp only [Int.toNat_natCast, Nat.zero_add, e1, e3]
        repeat' (first | exact AllT.nil | refine AllT.cons ?_ ?_)
        all_goals first | (with_reducible rfl) | assumption | exact decide_eq_true (by omega) | exact beq_iff_eq.2 (by omega) | (simp; done) | (simp; omega)
      · simp only [Int.toNat_natCast, Nat.zero_add, e1, e3]
        refine Eq.trans ?_ (kt (by rw [keq, hb2]; simp))
        rw [← fin]
        rfl
  · have e3 : w64 ((i : Int) - 1) = ((i - 1 : Nat) : Int) := by rw [w64_id (by omega) (by omega)]; omega
    by_cases hL : i + 1 = m
    · by_cases hb : blk (A i) = true
      · have hbb := hbt hb
        refine (rT_go r3_b_f ?_).trans ?_
        · simp only [Int.toNat_natCast, Nat.zero_add, e1, e3]
          repeat' (first | exact AllT.nil | refine AllT.cons ?_ ?_)
          all_goals first | (with_reducible rfl) | assumption | exact decide_eq_true (by omega) | exact beq_iff_eq.2 (by omega) | (simp; done) | (simp; omega)
        · simp only [Int.toNat_natCast, Nat.zero_add, e1, e3]
          refine Eq.trans ?_ (kf (by rw [keq, hb]; simp [hF, hL]))
          rfl
      · have hbb := hbf hb
        have hb2 : blk (A i) = false := by simpa using hb
        refine (rT_go r3_b_t ?_).trans ?_
        · simp only [Int.toNat_natCast, Nat.zero_add, e1, e3]
          repeat' (first | exact AllT.nil | refine AllT.cons ?_ ?_)
          all_goals first | (with_reducible rfl) | assumption | exact decide_eq_true (by omega) | exact beq_iff_eq.2 (by omega) | (simp; done) | (simp; omega)
        · simp only [Int.toNat_natCast, Nat.zero_add, e1, e3]
          refine Eq.trans ?_ (kt (by rw [keq, hb2]; simp))
          rw [← fin]
          rfl
    · by_cases hp : brk (A (i - 1)) = true
      · have hp' : ((A (i - 1)).k == 4) = true := hp
        by_cases hb : blk (A i) = true
        · have hbb := hbt hb
          refine (rT_go r3_c_f ?_).trans ?_
          · simp only [Int.toNat_natCast, Nat.zero_add, e1, e3]
            repeat' (first | exact AllT.nil | refine AllT.cons ?_ ?_)
            all_goals first | (with_reducible rfl) | assumption | exact decide_eq_true (by omega) | exact beq_iff_eq.2 (by omega) | (simp; done) | (simp; omega)
          · simp only [Int.toNat_natCast, Nat.zero_add, e1, e3]
            refine Eq.trans ?_ (kf (by rw [keq, hb]; simp [hF, hp]))
            rfl
        · have hbb := hbf hb
          have hb2 : blk (A i) = false := by simpa using hb
          refine (rT_go r3_c_t ?_).trans ?_
          · simp only [Int.toNat_natCast, Nat.zero_add, e1, e3]
            repeat' (first | exact AllT.nil | refine AllT.cons ?_ ?_)
            all_goals first | (with_reducible rfl) | assumption | exact decide_eq_true (by omega) | exact beq_iff_eq.2 (by omega) | (simp; done) | (simp; omega)
          · simp only [Int.toNat_natCast, Nat.zero_add, e1, e3]
            refine Eq.trans ?_ (kt (by rw [keq, hb2]; simp))
            rw [← fin]
            rfl
      · have hpf : brk (A (i - 1)) = false := by simpa using hp
        have hp' : (!((A (i - 1)).k == 4)) = true := by have h : ((A (i - 1)).k == 4) = false := hpf; rw [h]; rfl
        by_cases hb : blk (A i) = true
        · have hbb := hbt hb
          by_cases hnx : brk (A (i + 1)) = true
          · have hn' : (!(!((A (i + 1)).k == 4))) = true := by have h : ((A (i + 1)).k == 4) = true := hnx; rw [h]; rfl
            refine (rT_go r3_d_ff ?_).trans ?_
            · simp only [Int.toNat_natCast, Nat.zero_add, e1, e3]
              repeat' (first | exact AllT.nil | refine AllT.cons ?_ ?_)
              all_goals first | (with_reducible rfl) | assumption | exact decide_eq_true (by omega) | exact beq_iff_eq.2 (by omega) | (simp; done) | (simp; omega)
            · simp only [Int.toNat_natCast, Nat.zero_add, e1, e3]
              refine Eq.trans ?_ (kf (by rw [keq, hb]; simp [hF, hpf, hL, hnx]))
              rfl
          · have hnf : brk (A (i + 1)) = false := by simpa using hnx
            have hn' : (!((A (i + 1)).k == 4)) = true := by have h : ((A (i + 1)).k == 4) = false := hnf; rw [h]; rfl
            refine (rT_go r3_d_ft ?_).trans ?_
            · simp only [Int.toNat_natCast, Nat.zero_add, e1, e3]
              repeat' (first | exact AllT.nil | refine AllT.cons ?_ ?_)
              all_goals first | (with_reducible rfl) | assumption | exact decide_eq_true (by omega) | exact beq_iff_eq.2 (by omega) | (simp; done) | (simp; omega)
            · simp only [Int.toNat_natCast, Nat.zero_add, e1, e3]
              refine Eq.trans ?_ (kt (by rw [keq, hb]; simp [hF, hpf, hL, hnf]))
              rw [← fin]
              rfl
        · have hbb := hbf hb
          have hb2 : blk (A i) = false := by simpa using hb
          refine (rT_go r3_d_t ?_).trans ?_
          · simp only [Int.toNat_natCast, Nat.zero_add, e1, e3]
            repeat' (first | exact AllT.nil | refine AllT.cons ?_ ?_)
            all_goals first | (with_reducible rfl) | assumption | exact decide_eq_true (by omega) | exact beq_iff_eq.2 (by omega) | (simp; done) | (simp; omega)
          · simp only [Int.toNat_natCast, Nat.zero_add, e1, e3]
            refine Eq.trans ?_ (kt (by rw [keq, hb2]; simp))
            rw [← fin]
            rfl
theorem r3_loop {own : Bool} {n : Nat} {R : Nat → Rn} {m : Nat} {A : Nat → Gl} (hm : m < 2 ^ 40) :
    CodeSem rgG 1 (.loop (bodyOf Try.f86 2)) (r3S own n R m A 0 (fun _ => zGl) 0) (.exit 5, r3S own n R m A (trimN m A m).length (at_ (trimN m A m)) m) := by
  refine loop_sem rgG_ok (ℓ := nol) (d := 52) (k := rgK3) (ka := rgK3) noLoopsS (fun i => r3I own n R m A i) m (by simp) ?_ fun j hj => r3_step hj hm
  exact rT_go r3_ex ⟨by simp, trivial⟩
theorem rgF_ok : SpecOk Try.prog 86 glF := by
  refine knownS KA4_ok Try.func86 fun args h r he => ?_
  unfold glF at he
  split at he
  · rename_i f o k own n q
    obtain ⟨⟨h1, h2, h3, h4, h5⟩, he⟩ := Tr.eval_ask.1 he
    cases he
    have hlen := goR_len (M := Mt fun k => dv (f k)) (R := fun i => decN (q (o + i))) k
    have hl1 := ro_loop (a := fun k => dv (f k)) (own := own) (R := fun j => decN (q j)) h1 h2 h3
    have hl := r3_loop (own := own) (n := n) (R := fun j => decN (q j)) (m := (goR (Mt fun k => dv (f k)) (fun i => decN (q (o + i))) k).length) (A := at_ (goR (Mt fun k => dv (f k)) (fun i => decN (q (o + i))) k)) (by omega)
    rw [trimN_eq] at hl
    refine ⟨_, [], 60, _, byReg_sem (r := 3) (tell_ok hl1) (tell_ok hl), ?_⟩
    have e1 : AV.arr 256 f = aA fun k => dv (f k) := by rw [aA, ← h4]
    have e2 : some ⟨83, own, .row 4 n q⟩ = rowRn own n fun j => decN (q j) := by rw [rowRn, ← h5]
    rw [e1, e2]
    refine Tr.go_eval rg_w ?_
    repeat' (first | exact AllT.nil | refine AllT.cons ?_ ?_)
    all_goals first | exact yes_of ⟨rfl, rfl⟩
  · cases he
end Go.Proofs.Ytcpahifgdppkbaa.QAI
end
section
/- Runs of numbers. -/
set_option linter.unusedVariables false
set_option linter.unusedSimpArgs false
namespace Go.Proofs.Ytcpahifgdppkbaa.QAI
open Go Go.RowKit
set_option maxRecDepth 100000
abbrev rnK : List (Nat × Option TypeId) := [(0,none),(3,some 83),(4,none)]
abbrev rnKi : List (Nat × Option TypeId) := [(0,none),(3,some 83),(4,none),(5,none),(6,none),(7,none)]
noncomputable def rnG : Ctx2 := GT [] (fun k => if k = 3 then rnK else if k = 8 then rnKi else []) 0 []
theorem rnG_ok : XOk rnG := GT_ok nilK _ _ _
def rowJ (own : Bool) (n : Nat) (g : Nat → Int) : Option ABlk := some ⟨2, own, .row 1 n fun j => v1 (g j)⟩
def rnS (own : Bool) (o K n : Nat) (g : Nat → Int) (na : Nat) (Q : Nat → Rn) (r : Rn) (i x q : Int) : St :=
  ⟨slots 58 [(0, .c (.sl 0 o K)), (3, .c (.sl 1 0 na)), (4, I64 i), (5, I64 x), (6, .c (.ptr 2 0 0)), (7, I64 q)], [rowJ own n g, rowRn true na Q, oneRn r]⟩
def rnO (own : Bool) (o K n : Nat) (g : Nat → Int) (na : Nat) (Q : Nat → Rn) (i : Int) : St :=
  ⟨slots 58 [(0, .c (.sl 0 o K)), (3, .c (.sl 1 0 na)), (4, I64 i)], [rowJ own n g, rowRn true na Q]⟩
def rnX (x q : Int) : Int := (and64 (x.fdiv (2 ^ min (u64 (w64 (16 + w64 (4 * q)))).toNat IntKind.i64.bits)) 15).tmod 12
def rnWs : List ByteArray := [{ data := #[(97)] }, { data := #[(98)] }, { data := #[(32)] }, { data := #[(32), (32)] }, { data := #[(10)] }, { data := #[(99)] }, { data := #[(97), (98)] }, { data := #[] }, { data := #[] }, { data := #[(97)] }, { data := #[(9)] }, { data := #[(97), (97), (32)] }]
def rnV (x : Int) : Int := (and64 x 255).tmod 3
def rnY (x : Int) : Int := (and64 (x.fdiv (2 ^ min (Int.toNat 8) IntKind.i64.bits)) 255).tmod 6
def rnLs : List Int := [1280, 1280, 640, 1281, 0, 2000]
def rnR1 (i x : Int) (s : ByteArray) : Rn := ⟨i, s, rnV x, rnLs.getD (0 + (rnY x).toNat) 0⟩
theorem rni_go {own : Bool} {o K n : Nat} {g : Nat → Int} {na : Nat} {Q : Nat → Rn} {r : Rn} {i x q : Int} : (rT rnG nol 1 45 (bodyOf Try.f81 1) rnKi rnKi (rnS own o K n g na Q r i x q)).go [] =
  some ([decide (q < (12 : Int)), decide ((0 : Int) ≤ u64 (w64 ((16 : Int) + w64 ((4 : Int) * q)))), true, decide ((0 : Int) ≤ rnX x q), decide (rnX x q < ((12 : Nat) : Int)), decide (0 + (rnX x q).toNat < 12), decide (((r.s.size + (rnWs.getD (0 + (rnX x q).toNat) { data := #[] }).size : Nat) : Int) ≤ IntKind.i64.max)], Ex.normal, { sl := slots 58 [(0, AV.c (AC.sl 0 o K)), (3, AV.c (AC.sl 1 0 na)), (4, I64 i), (5, I64 x), (6, AV.c (AC.ptr 2 0 0)), (7, I64 (w64 (q + (1 : Int))))], h := [some { t := 2, own := own, c := Cont.row 1 n fun j => [Value.int IntKind.i64 (g j)] }, some { t := 83, own := true, c := Cont.row 4 na fun j => [Value.int IntKind.i64 (Q j).n, Value.string (Q j).s, Value.int IntKind.i64 (Q j).v, Value.int IntKind.i64 (Q j).l] }, some { t := 83, own := true, c := Cont.one [i64 r.n, AC.v (Value.string (r.s ++ rnWs.getD (0 + (rnX x q).toNat) { data := #[] })), i64 r.v, i64 r.l] }] }) := by kernel_rfl
theorem rni_ex {own : Bool} {o K n : Nat} {g : Nat → Int} {na : Nat} {Q : Nat → Rn} {r : Rn} {i x q : Int} : (rT rnG nol 1 45 (bodyOf Try.f81 1) rnKi rnKi (rnS own o K n g na Q r i x q)).go [false] =
  some ([!decide (q < (12 : Int))], Ex.exit 2, { sl := slots 58 [(0, AV.c (AC.sl 0 o K)), (3, AV.c (AC.sl 1 0 na)), (4, I64 i), (5, I64 x), (6, AV.c (AC.ptr 2 0 0)), (7, I64 q)], h := [some { t := 2, own := own, c := Cont.row 1 n fun j => [Value.int IntKind.i64 (g j)] }, some { t := 83, own := true, c := Cont.row 4 na fun j => [Value.int IntKind.i64 (Q j).n, Value.string (Q j).s, Value.int IntKind.i64 (Q j).v, Value.int IntKind.i64 (Q j).l] }, some { t := 83, own := true, c := Cont.one [i64 r.n, AC.v (Value.string r.s), i64 r.v, i64 r.l] }] }) := by kernel_rfl
theorem rno_e1 {own : Bool} {o K n : Nat} {g : Nat → Int} {na : Nat} {Q : Nat → Rn} {i : Int} : (rT rnG nol 1 54 (bodyOf Try.f81 0) rnK rnK (rnO own o K n g na Q i)).go [false, false, false, false] =
  some
    ([!decide (i < ((K : Nat) : Int)), true, true, true], Ex.exit 0,
      {
        sl :=
          slots 58
            [(0, AV.c (AC.sl 0 o K)), (3, AV.c (AC.sl 1 0 na)),
              (4, I64 i)],
        h :=
          [some { t := 2, own := own, c := Cont.row 1 n fun j => [Value.int IntKind.i64 (g j)] },
            some
              { t := 83, own := true,
                c :=
                  Cont.row 4 na fun j =>
                    [Value.int IntKind.i64 (Q j).n, Value.string (Q j).s, Value.int IntKind.i64 (Q j).v,
                      Value.int IntKind.i64 (Q j).l] }] }) := by kernel_rfl
theorem rno_e2 {own : Bool} {o K n : Nat} {g : Nat → Int} {na : Nat} {Q : Nat → Rn} {i : Int} : (rT rnG nol 1 54 (bodyOf Try.f81 0) rnK rnK (rnO own o K n g na Q i)).go [true, true, true, false] =
  some
    ([decide (i < ((K : Nat) : Int)), true, true, !decide (i < (12 : Int))], Ex.exit 0,
      {
        sl :=
          slots 58
            [(0, AV.c (AC.sl 0 o K)), (3, AV.c (AC.sl 1 0 na)),
              (4, I64 i)],
        h :=
          [some { t := 2, own := own, c := Cont.row 1 n fun j => [Value.int IntKind.i64 (g j)] },
            some
              { t := 83, own := true,
                c :=
                  Cont.row 4 na fun j =>
                    [Value.int IntKind.i64 (Q j).n, Value.string (Q j).s, Value.int IntKind.i64 (Q j).v,
                      Value.int IntKind.i64 (Q j).l] }] }) := by kernel_rfl
noncomputable def rnoT (own : Bool) (o K n : Nat) (g : Nat → Int) (na : Nat) (Q : Nat → Rn) (i : Int) (s : ByteArray) : Tr (Ex × St) :=
  rT rnG (tell (bodyOf Try.f81 1) (rnS own o K n g na Q (rnR1 i (g (o + i.toNat)) ⟨#[]⟩) i (g (o + i.toNat)) 0) (.exit 2, rnS own o K n g na Q (rnR1 i (g (o + i.toNat)) s) i (g (o + i.toNat)) 12)) 1 54 (bodyOf Try.f81 0) rnK rnK (rnO own o K n g na Q i)
theorem rno_go {own : Bool} {o K n : Nat} {g : Nat → Int} {na : Nat} {Q : Nat → Rn} {i : Int} {s : ByteArray} : (rnoT own o K n g na Q i s).go [] =
  some
    ([decide (i < ((K : Nat) : Int)), true, true, decide (i < (12 : Int)), decide ((0 : Int) ≤ i), decide (i < ((K : Nat) : Int)),
        decide (o + i.toNat < n), true, true, true,
        decide
          ((0 : Int) ≤
            (and64 ((g (o + i.toNat)).fdiv ((2 : Int) ^ min 8 IntKind.i64.bits)) (255 : Int)).tmod (6 : Int)),
        decide
          ((and64 ((g (o + i.toNat)).fdiv ((2 : Int) ^ min 8 IntKind.i64.bits)) (255 : Int)).tmod (6 : Int) <
            ((6 : Nat) : Int)),
        decide
          (0 +
              ((and64 ((g (o + i.toNat)).fdiv ((2 : Int) ^ min 8 IntKind.i64.bits)) (255 : Int)).tmod
                  (6 : Int)).toNat <
            6),
        yes (wasS (bodyOf Try.f81 1) (rnS own o K n g na Q (rnR1 i (g (o + i.toNat)) ⟨#[]⟩) i (g (o + i.toNat)) 0)), decide (na = na), true, decide ((na + 1) * 40 ≤ maxCells)],
      Ex.normal,
      {
        sl :=
          slots 58
            [(0, AV.c (AC.sl 0 o K)), (3, AV.c (AC.sl 1 0 (na + 1))),
              (4, I64 (w64 (i + (1 : Int))))],
        h :=
          [some { t := 2, own := own, c := Cont.row 1 n fun j => [Value.int IntKind.i64 (g j)] },
            some
              { t := 83, own := true,
                c :=
                  Cont.row 4 (na + 1) fun k =>
                    [Value.int IntKind.i64 (bif decide (k = na) then (rnR1 i (g (o + i.toNat)) s).n else (Q k).n),
                      Value.string (bif decide (k = na) then (rnR1 i (g (o + i.toNat)) s).s else (Q k).s),
                      Value.int IntKind.i64 (bif decide (k = na) then (rnR1 i (g (o + i.toNat)) s).v else (Q k).v),
                      Value.int IntKind.i64
                        (bif decide (k = na) then (rnR1 i (g (o + i.toNat)) s).l else (Q k).l)] }] }) := by kernel_rfl
theorem rn_w {own : Bool} {o K n : Nat} {g : Nat → Int} {na : Nat} {Q : Nat → Rn} {z : Int} : (lfun rnG (tell (bodyOf Try.f81 0) (rnO own o K n g 0 (fun _ => zRn) 0) (.exit 0, rnO own o K n g na Q z)) 60 Try.f81 [.c (.sl 0 o K)] [rowJ own n g]).go [] =
  some
    ([yes (wasS (bodyOf Try.f81 0) (rnO own o K n g 0 (fun _ => zRn) 0))], AV.c (AC.sl 1 0 na),
      [some { t := 2, own := own, c := Cont.row 1 n fun j => [Value.int IntKind.i64 (g j)] },
        some
          { t := 83, own := true,
            c :=
              Cont.row 4 na fun j =>
                [Value.int IntKind.i64 (Q j).n, Value.string (Q j).s, Value.int IntKind.i64 (Q j).v,
                  Value.int IntKind.i64 (Q j).l] }]) := by kernel_rfl
end Go.Proofs.Ytcpahifgdppkbaa.QAI
end
section
/- Runs of numbers: what the loops come to. -/
set_option linter.unusedVariables false
set_option linter.unusedSimpArgs false
namespace Go.Proofs.Ytcpahifgdppkbaa.QAI
open Go Go.RowKit
set_option maxRecDepth 100000
theorem rnX_b (x q : Int) : 0 ≤ rnX x q ∧ rnX x q < 12 := by
  have e2 : ∀ y, and64 y 15 = y % 16 := fun y => and_mask 4 (by decide) y 15 rfl
  unfold rnX
  rw [e2, tmod_nn (by omega)]
  omega
theorem rnV_b (x : Int) : 0 ≤ rnV x ∧ rnV x < 3 := by
  have e2 : ∀ y, and64 y 255 = y % 256 := fun y => and_mask 8 (by decide) y 255 rfl
  unfold rnV
  rw [e2, tmod_nn (by omega)]
  omega
theorem rnY_b (x : Int) : 0 ≤ rnY x ∧ rnY x < 6 := by
  have e2 : ∀ y, and64 y 255 = y % 256 := fun y => and_mask 8 (by decide) y 255 rfl
  unfold rnY
  rw [e2, tmod_nn (by omega)]
  omega
/-- A run's text, out of a number. -/
def rnT (x : Int) : Nat → ByteArray
  | 0 => ⟨#[]⟩
  | q + 1 => rnT x q ++ rnWs.getD (0 + (rnX x q).toNat) ⟨#[]⟩
theorem rnWs_len : ∀ i, (rnWs.getD i ⟨#[]⟩).size ≤ 3
  | 0 | 1 | 2 | 3 | 4 | 5 | 6 | 7 | 8 | 9 | 10 | 11 => by decide
  | i + 12 => by
    rw [List.getD_eq_getElem?_getD, List.getElem?_eq_none (by show 12 ≤ i + 12; omega)]
    decide
theorem rnT_len (x : Int) : ∀ q, (rnT x q).size ≤ 3 * q
  | 0 => Nat.le_refl _
  | q + 1 => by
    have h1 := rnT_len x q
    have h2 := rnWs_len (0 + (rnX x q).toNat)
    have e : (rnT x (q + 1)).size = (rnT x q).size + (rnWs.getD (0 + (rnX x q).toNat) ⟨#[]⟩).size := ByteArray.size_append
    omega
def runOf (i : Nat) (x : Int) : Rn := rnR1 i x (rnT x 12)
theorem rni_loop {own : Bool} {o K n : Nat} {g : Nat → Int} {na : Nat} {Q : Nat → Rn} {i x : Int} :
    CodeSem rnG 1 (.loop (bodyOf Try.f81 1)) (rnS own o K n g na Q (rnR1 i x ⟨#[]⟩) i x 0) (.exit 2, rnS own o K n g na Q (rnR1 i x (rnT x 12)) i x 12) := by
  refine loop_sem rnG_ok (ℓ := nol) (d := 45) (k := rnKi) (ka := rnKi) noLoopsS (fun j => rnS own o K n g na Q (rnR1 i x (rnT x j)) i x (j : Int)) 12 (by simp) ?_ fun j hj => ?_
  · exact rT_go rni_ex ⟨by simp, trivial⟩
  · have h3 := succ64 (j := j) (by omega)
    obtain ⟨x0, x1⟩ := rnX_b x j
    have h1 := rnT_len x j
    have h2 := rnWs_len (0 + (rnX x j).toNat)
    have hu : 0 ≤ u64 (w64 (16 + w64 (4 * (j : Int)))) := by unfold u64; rw [IntKind.wrap_u64]; omega
    refine (rT_go rni_go ?_).trans ?_
    · repeat' (first | exact AllT.nil | refine AllT.cons ?_ ?_)
      all_goals first | (with_reducible rfl) | exact decide_eq_true (by omega) | exact decide_eq_true hu | skip
      refine decide_eq_true ?_
      have e : ∀ z : Int, z ≤ 1000 → z ≤ IntKind.i64.max := fun z hz => by
        have : IntKind.i64.max = 9223372036854775807 := by decide
        omega
      refine e _ ?_
      show (((rnT x j).size + (rnWs.getD (0 + (rnX x j).toNat) ⟨#[]⟩).size : Nat) : Int) ≤ 1000
      omega
    · rw [h3]
      rfl
def m12 (k : Nat) : Nat := if k ≤ 12 then k else 12
theorem m12_le (k : Nat) : m12 k ≤ 12 ∧ m12 k ≤ k := by unfold m12; split <;> omega
def runsL (g : Nat → Int) (i : Nat) : Nat → Rn := fun j => if j < i then runOf j (g j) else zRn
theorem upd_runs (g : Nat → Int) (i : Nat) : upd (fun j => encN (runsL g i j)) i (encN (runOf i (g i))) = fun j => encN (runsL g (i + 1) j) := by
  funext j
  simp only [upd_def]; unfold runsL
  by_cases h : j = i
  · subst h; simp
  · by_cases h2 : j < i
    · simp [h, h2, Nat.lt_succ_of_lt h2]
    · have : ¬ j < i + 1 := by omega
      simp [h, h2, this]
theorem rno_loop {own : Bool} {o K n : Nat} {g : Nat → Int} (hn : o + K ≤ n) :
    CodeSem rnG 1 (.loop (bodyOf Try.f81 0)) (rnO own o K n g 0 (fun _ => zRn) 0) (.exit 0, rnO own o K n g (m12 K) (runsL (fun j => g (o + j)) (m12 K)) (m12 K)) := by
  obtain ⟨hm1, hm2⟩ := m12_le K
  refine loop_of (fun i => rnO own o K n g i (runsL (fun j => g (o + j)) i) (i : Int)) (m12 K) (by simp) ?_ fun j hj => ?_
  · by_cases h : K ≤ 12
    · have e : m12 K = K := by simp [m12, h]
      rw [e]
      exact rT_sem rnG_ok noLoopsS (rT_go rno_e1 ⟨by simp, rfl, rfl, rfl, trivial⟩)
    · have e : m12 K = 12 := by simp [m12, h]
      rw [e]
      exact rT_sem rnG_ok noLoopsS (rT_go rno_e2 ⟨by simp; omega, rfl, rfl, by simp, trivial⟩)
  · have h3 := succ64 (j := j) (by omega)
    have hin := rni_loop (own := own) (o := o) (K := K) (n := n) (g := g) (na := j) (Q := runsL (fun j => g (o + j)) j) (i := j) (x := g (o + j))
    obtain ⟨y0, y1⟩ := rnY_b (g (o + j))
    refine rT_sem rnG_ok (tell_ok hin) ((rT_go (rno_go (own := own) (o := o) (K := K) (n := n) (g := g) (na := j) (Q := runsL (fun j => g (o + j)) j) (i := j) (s := rnT (g (o + j)) 12)) ?_).trans ?_)
    · simp only [Int.toNat_natCast]
      have y0' : (0 : Int) ≤ (and64 ((g (o + j)).fdiv ((2 : Int) ^ min 8 IntKind.i64.bits)) 255).tmod 6 := y0
      have y1' : (and64 ((g (o + j)).fdiv ((2 : Int) ^ min 8 IntKind.i64.bits)) 255).tmod 6 < 6 := y1
      repeat' (first | exact AllT.nil | refine AllT.cons ?_ ?_)
      all_goals first | (with_reducible rfl) | exact decide_eq_true (by omega) | exact yes_of ⟨rfl, rfl⟩ | exact decide_eq_true trivial | exact decide_eq_true (by unfold maxCells; omega)
    · rw [h3]
      refine Eq.trans ?_ (congrArg some (Prod.ext rfl ?_ : ((Ex.normal, (⟨slots 58 [(0, .c (.sl 0 o K)), (3, .c (.sl 1 0 (j + 1))), (4, I64 ((j + 1 : Nat) : Int))], [rowJ own n g, some ⟨83, true, .row 4 (j + 1) (upd (fun q => encN (runsL (fun j => g (o + j)) j q)) j (encN (runOf j (g (o + j)))))⟩]⟩ : St)) : Ex × St) = (Ex.normal, rnO own o K n g (j + 1) (runsL (fun j => g (o + j)) (j + 1)) ((j + 1 : Nat) : Int))))
      · rfl
      · show (_ : St) = _
        rw [upd_runs (fun j => g (o + j)) j]
        rfl
noncomputable def rnF : Spec := fun args h => match args, h with
  | [.c (.sl 0 o k)], [some ⟨2, own, .row 1 n f⟩] =>
    .need (yes (o + k ≤ n ∧ f = fun j => v1 (vd (f j)))) (.ret (.c (.sl 1 0 (m12 k)), [some ⟨2, own, .row 1 n f⟩, rowRn true (m12 k) (runsL (fun j => vd (f (o + j))) (m12 k))]))
  | _, _ => .fail
theorem rnF_ok : SpecOk Try.prog 81 rnF := by
  refine knownS nilK Try.func81 fun args h r he => ?_
  unfold rnF at he
  split at he
  · rename_i o k own n f
    obtain ⟨⟨h1, h2⟩, he⟩ := Tr.eval_ask.1 he
    cases he
    refine ⟨_, [], 60, _, tell_ok (rno_loop (own := own) (g := fun j => vd (f j)) h1), ?_⟩
    have e1 : some ⟨2, own, .row 1 n f⟩ = rowJ own n fun j => vd (f j) := by rw [rowJ, ← h2]
    rw [e1]
    exact Tr.go_eval rn_w ⟨yes_of ⟨rfl, rfl⟩, trivial⟩
  · cases he
end Go.Proofs.Ytcpahifgdppkbaa.QAI
end
section
/- gaug's awake; what the laws of layer 9 call. -/
set_option linter.unusedVariables false
set_option linter.unusedSimpArgs false
namespace Go.Proofs.Ytcpahifgdppkbaa.QAI
open Go Go.RowKit
set_option maxRecDepth 100000
theorem awakeG_eq : (afun (GK KG1 (fun _ => []) 0) 60 Try.f45 [] []).eval = some (Bo true, []) := by kernel_rfl
theorem awakeG_ok : SpecOk Try.prog 45 sAwakeG := by
  refine known' KG1_ok Try.func45 fun args h r he => ?_
  unfold sAwakeG at he
  split at he
  · cases he
    exact ⟨_, _, _, awakeG_eq⟩
  · cases he
noncomputable def KG2 : Known := [(45, sAwakeG), (46, tmF), (47, wdF fun _ _ => .fail), (51, afun (GK [] (fun _ => []) 0) 60 Try.f51)]
theorem KG2_ok : KnownOk KG2 := gKcons awakeG_ok (by kernel_rfl) (gKcons tmF_ok (by kernel_rfl) (gKcons wdF_ok (by kernel_rfl) (gKcons (known0 gKnil 60 Try.func51) (by kernel_rfl) gKnil)))
end Go.Proofs.Ytcpahifgdppkbaa.QAI
end
