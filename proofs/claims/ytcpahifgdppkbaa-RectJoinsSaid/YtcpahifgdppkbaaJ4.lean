/- RectJoins: the plain law. -/
import Derived.Test.YtcpahifgdppkbaaJ3
import Derived.Test.YtcpahifgdppkbaaT2
import Derived.Test.YtcpahifgdppkbaaC
set_option linter.unusedVariables false
set_option linter.unusedSimpArgs false
namespace Go.Proofs.Ytcpahifgdppkbaa.QAI
open Go Go.RowKit
set_option maxRecDepth 100000
theorem mnO_ge {x : Nat → Int} {o : Nat} {b : Int} : ∀ i, b ≤ mnO x o i ↔ ∀ j, j ≤ i → b ≤ x (o + j)
  | 0 => by
    simp only [mnO]
    exact ⟨fun h j hj => by rw [show j = 0 by omega]; exact h, fun h => h 0 (Nat.le_refl _)⟩
  | i + 1 => by
    simp only [mnO]
    have ih := mnO_ge (x := x) (o := o) (b := b) i
    have e : b ≤ mnI (x (o + 1 + i)) (mnO x o i) ↔ b ≤ x (o + 1 + i) ∧ b ≤ mnO x o i := by rw [mnI_eq]; omega
    rw [e, ih]
    constructor
    · rintro ⟨h1, h2⟩ j hj
      by_cases h : j ≤ i
      · exact h2 j h
      · rw [show o + j = o + 1 + i by omega]; exact h1
    · intro h
      refine ⟨?_, fun j hj => h j (by omega)⟩
      rw [show o + 1 + i = o + (i + 1) by omega]; exact h _ (Nat.le_refl _)
theorem mxO_le {x : Nat → Int} {o : Nat} {b : Int} : ∀ i, mxO x o i ≤ b ↔ ∀ j, j ≤ i → x (o + j) ≤ b
  | 0 => by
    simp only [mxO]
    exact ⟨fun h j hj => by rw [show j = 0 by omega]; exact h, fun h => h 0 (Nat.le_refl _)⟩
  | i + 1 => by
    simp only [mxO]
    have ih := mxO_le (x := x) (o := o) (b := b) i
    have e : mxI (x (o + 1 + i)) (mxO x o i) ≤ b ↔ x (o + 1 + i) ≤ b ∧ mxO x o i ≤ b := by rw [mxI_eq]; omega
    rw [e, ih]
    constructor
    · rintro ⟨h1, h2⟩ j hj
      by_cases h : j ≤ i
      · exact h2 j h
      · rw [show o + j = o + 1 + i by omega]; exact h1
    · intro h
      refine ⟨?_, fun j hj => h j (by omega)⟩
      rw [show o + 1 + i = o + (i + 1) by omega]; exact h _ (Nat.le_refl _)
theorem ge_ext {u v : Int} (h : ∀ b, b ≤ u ↔ b ≤ v) : u = v := by
  have h1 := (h u).1 (Int.le_refl _)
  have h2 := (h v).2 (Int.le_refl _)
  omega
theorem le_ext {u v : Int} (h : ∀ b, u ≤ b ↔ v ≤ b) : u = v := by
  have h1 := (h v).2 (Int.le_refl _)
  have h2 := (h u).1 (Int.le_refl _)
  omega
/-- The rows from C on, and the first again. -/
def wr (t : Nat → Rc) (C n : Nat) : Nat → Rc := fun j => if j < n then t (C + j) else if j = n then t 0 else ⟨0, 0, 0, 0⟩
theorem ti44_zero : ti44.zero = encR ⟨0, 0, 0, 0⟩ := rfl
theorem cat_eq (t : Nat → Rc) (C n : Nat) : updL (cat ti44.zero (fun i => ([] : List (List Value)).getD i ti44.zero) 0 (fun j => encR (t j)) C n) n [[Value.int IntKind.i64 (t 0).x, Value.int IntKind.i64 (t 0).y, Value.int IntKind.i64 (t 0).w, Value.int IntKind.i64 (t 0).h]] = fun j => encR (wr t C n j) := by
  funext j
  rw [ti44_zero]
  simp only [updL, upd, cat, wr, Nat.not_lt_zero, if_false, Nat.sub_zero, Nat.zero_add]
  by_cases h1 : j = n
  · subst h1
    simp [encR]
  · by_cases h2 : j < n
    · simp [h1, h2]
    · simp [h1, h2]
theorem dec_enc (t : Nat → Rc) : (fun i => decR (encR (t i))) = t := rfl
theorem mn_parts (x : Rc → Int) (t : Nat → Rc) {C m : Nat} (hC : C < m) :
    mnI (mnO (fun i => x (wr t C (m - C) i)) 0 (m - C)) (mnO (fun i => x (t i)) 0 C) = mnO (fun i => x (t i)) 0 (m - 1) := by
  refine ge_ext fun b => ?_
  have e : b ≤ mnI (mnO (fun i => x (wr t C (m - C) i)) 0 (m - C)) (mnO (fun i => x (t i)) 0 C) ↔ b ≤ mnO (fun i => x (wr t C (m - C) i)) 0 (m - C) ∧ b ≤ mnO (fun i => x (t i)) 0 C := by rw [mnI_eq]; omega
  rw [e, mnO_ge, mnO_ge, mnO_ge]
  simp only [Nat.zero_add]
  constructor
  · rintro ⟨h1, h2⟩ j hj
    by_cases h : j ≤ C
    · exact h2 j h
    · have := h1 (j - C) (by omega)
      unfold wr at this
      rw [if_pos (by omega), show C + (j - C) = j by omega] at this
      exact this
  · intro h
    refine ⟨fun j hj => ?_, fun j hj => h j (by omega)⟩
    unfold wr
    by_cases h1 : j < m - C
    · rw [if_pos h1]; exact h _ (by omega)
    · rw [if_neg h1, if_pos (by omega)]; exact h _ (by omega)
theorem mx_parts (x : Rc → Int) (t : Nat → Rc) {C m : Nat} (hC : C < m) :
    mxI (mxO (fun i => x (wr t C (m - C) i)) 0 (m - C)) (mxO (fun i => x (t i)) 0 C) = mxO (fun i => x (t i)) 0 (m - 1) := by
  refine le_ext fun b => ?_
  have e : mxI (mxO (fun i => x (wr t C (m - C) i)) 0 (m - C)) (mxO (fun i => x (t i)) 0 C) ≤ b ↔ mxO (fun i => x (wr t C (m - C) i)) 0 (m - C) ≤ b ∧ mxO (fun i => x (t i)) 0 C ≤ b := by rw [mxI_eq]; omega
  rw [e, mxO_le, mxO_le, mxO_le]
  simp only [Nat.zero_add]
  constructor
  · rintro ⟨h1, h2⟩ j hj
    by_cases h : j ≤ C
    · exact h2 j h
    · have := h1 (j - C) (by omega)
      unfold wr at this
      rw [if_pos (by omega), show C + (j - C) = j by omega] at this
      exact this
  · intro h
    refine ⟨fun j hj => ?_, fun j hj => h j (by omega)⟩
    unfold wr
    by_cases h1 : j < m - C
    · rw [if_pos h1]; exact h _ (by omega)
    · rw [if_neg h1, if_pos (by omega)]; exact h _ (by omega)
/-- Bounds of all: each within, the edges too. -/
def RcB (r : Rc) : Prop := -(2 ^ 43 : Int) ≤ r.x ∧ r.x ≤ 2 ^ 43 ∧ -(2 ^ 43 : Int) ≤ r.y ∧ r.y ≤ 2 ^ 43 ∧ 0 ≤ r.w ∧ r.w < 2 ^ 43 ∧ 0 ≤ r.h ∧ r.h < 2 ^ 43
theorem tm_b (z : Bool) (g : Nat → Rc) (m j : Nat) : RcB (trR z g m j) := by
  unfold trR
  split
  · have h1 := tX_wide z (g j).x
    have h2 := tX_wide z (g j).y
    have h3 := tW_wide z (g j).w
    have h4 := tW_wide z (g j).h
    simp only [RcB, tmR]
    omega
  · simp only [RcB]
    omega
end Go.Proofs.Ytcpahifgdppkbaa.QAI
