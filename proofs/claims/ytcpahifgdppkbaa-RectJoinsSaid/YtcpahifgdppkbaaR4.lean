/- Rectangles: bounds; what a point, a part are. -/
import Derived.Test.YtcpahifgdppkbaaR1
set_option linter.unusedVariables false
set_option linter.unusedSimpArgs false
namespace Go.Proofs.Ytcpahifgdppkbaa.QAI
open Go Go.RowKit
theorem w64_in {x : Int} (h : -(2 ^ 62 : Int) ≤ x ∧ x < (2 ^ 62 : Int)) : w64 x = x := w64_id h.1 h.2
theorem tX_small (v : Int) : -3 ≤ tX true v ∧ tX true v ≤ 4 := by
  have h := and_mask 3 (by decide) v 7 rfl
  simp only [tX, cond_true]
  rw [w64_in (by omega), h]
  omega
theorem tW_small (v : Int) : 0 ≤ tW true v ∧ tW true v ≤ 7 := by
  have h := and_mask 3 (by decide) v 7 rfl
  simp only [tW, cond_true]
  omega
theorem pt_small (v : Int) : -4 ≤ w64 (and64 v 15 - 4) ∧ w64 (and64 v 15 - 4) ≤ 11 := by
  have h := and_mask 4 (by decide) v 15 rfl
  rw [w64_in (by omega)]
  omega
theorem n1_b {v m : Int} (hm : 255 ≤ m ∧ m < 2 ^ 60) : -m ≤ n1 v m ∧ n1 v m ≤ m := by
  unfold n1
  split
  · rw [and_mask 8 (by decide) _ 255 rfl]
    omega
  · rw [w64_in (by omega)]
    by_cases hv : 0 ≤ v
    · rw [tmod_nn hv]
      have h1 := Int.emod_nonneg v (show m + 1 ≠ 0 by omega)
      have h2 := Int.emod_lt_of_pos v (show (0 : Int) < m + 1 by omega)
      omega
    · have e : v.tmod (m + 1) = -((-v).tmod (m + 1)) := by rw [Int.neg_tmod, Int.neg_neg]
      rw [e, tmod_nn (by omega)]
      have h1 := Int.emod_nonneg (-v) (show m + 1 ≠ 0 by omega)
      have h2 := Int.emod_lt_of_pos (-v) (show (0 : Int) < m + 1 by omega)
      omega
theorem hasB_iff {a b c d x y : Int} (ha : -(2 ^ 61 : Int) ≤ a + c ∧ a + c < 2 ^ 61) (hb : -(2 ^ 61 : Int) ≤ b + d ∧ b + d < 2 ^ 61) : hasB a b c d x y = true ↔ a ≤ x ∧ x < a + c ∧ b ≤ y ∧ y < b + d := by
  unfold hasB
  rw [w64_in (by omega), w64_in (by omega)]
  simp only [Bool.and_eq_true, decide_eq_true_eq, ge_iff_le, and_assoc]
theorem meetB_iff {a b c d e f g h : Int} (h1 : -(2 ^ 60 : Int) ≤ a ∧ a < 2 ^ 60) (h2 : -(2 ^ 60 : Int) ≤ b ∧ b < 2 ^ 60) (h3 : -(2 ^ 60 : Int) ≤ e ∧ e < 2 ^ 60) (h4 : -(2 ^ 60 : Int) ≤ f ∧ f < 2 ^ 60)
    (h5 : 0 ≤ c ∧ c < 2 ^ 60) (h6 : 0 ≤ d ∧ d < 2 ^ 60) (h7 : 0 ≤ g ∧ g < 2 ^ 60) (h8 : 0 ≤ h ∧ h < 2 ^ 60) :
    meetB a b c d e f g h = true ↔ e ≤ a + c ∧ a ≤ e + g ∧ f ≤ b + d ∧ b ≤ f + h := by
  unfold meetB
  simp only [mxI_eq, mnI_eq]
  rw [w64_in (x := e + g) (by omega), w64_in (x := a + c) (by omega), w64_in (x := f + h) (by omega), w64_in (x := b + d) (by omega)]
  rw [w64_in (x := min (e + g) (a + c) - max e a) (by omega), w64_in (x := min (f + h) (b + d) - max f b) (by omega)]
  simp only [Bool.and_eq_true, Bool.not_eq_true', decide_eq_false_iff_not]
  omega
theorem rmeetB_iff {a b c d e f g h : Int} (h1 : -(2 ^ 60 : Int) ≤ a ∧ a < 2 ^ 60) (h2 : -(2 ^ 60 : Int) ≤ b ∧ b < 2 ^ 60) (h3 : -(2 ^ 60 : Int) ≤ e ∧ e < 2 ^ 60) (h4 : -(2 ^ 60 : Int) ≤ f ∧ f < 2 ^ 60)
    (h5 : 0 ≤ c ∧ c < 2 ^ 60) (h6 : 0 ≤ d ∧ d < 2 ^ 60) (h7 : 0 ≤ g ∧ g < 2 ^ 60) (h8 : 0 ≤ h ∧ h < 2 ^ 60) :
    rmeetB a b c d e f g h = true ↔ e ≤ a + c ∧ a ≤ e + g ∧ f ≤ b + d ∧ b ≤ f + h := by
  unfold rmeetB
  simp only [mxI_eq, mnI_eq]
  rw [w64_in (x := e + g) (by omega), w64_in (x := a + c) (by omega), w64_in (x := f + h) (by omega), w64_in (x := b + d) (by omega)]
  simp only [Bool.and_eq_true, Bool.not_eq_true', decide_eq_false_iff_not]
  omega
theorem meet1 {A C E G X : Int} : (max E A ≤ X ∧ X < max E A + (min (E + G) (A + C) - max E A)) ↔ (A ≤ X ∧ X < A + C) ∧ (E ≤ X ∧ X < E + G) := by
  constructor
  · intro h; refine ⟨⟨?_, ?_⟩, ?_, ?_⟩ <;> omega
  · intro h; refine ⟨?_, ?_⟩ <;> omega
end Go.Proofs.Ytcpahifgdppkbaa.QAI
