/- More of loops: several, and within each other. -/
import Derived.Test.YtcpahifgdppkbaaA17
set_option linter.unusedVariables false
set_option linter.unusedSimpArgs false
namespace Go.Proofs.Ytcpahifgdppkbaa.QAI
open Go Go.RowKit

noncomputable def byReg (r : Nat) (a b : Loops) : Loops := fun d c S => if firstReg c = r then a d c S else b d c S
theorem byReg_ok {G : Ctx2} {n0 r : Nat} {a b : Loops} (ha : LoopsOk G n0 a) (hb : LoopsOk G n0 b) : LoopsOk G n0 (byReg r a b) := by
  intro d c S x h
  unfold byReg at h
  split at h
  · exact ha d c S x h
  · exact hb d c S x h
theorem noLoops {G : Ctx2} {n0 : Nat} : LoopsOk G n0 (fun _ _ _ => .fail) := fun _ _ _ _ h => by cases h
theorem round_l {G : Ctx2} {n0 d : Nat} {ℓ : Loops} {c : Code} {k : St → St} {S : St} {r : Ex × St} (hℓ : LoopsOk G n0 ℓ) (h : round (lrun G ℓ n0 d c) k S = some r) : round (arun G n0 d c) k S = some r := by
  rw [round_eq] at h ⊢
  cases h1 : (lrun G ℓ n0 d c S).eval with
  | none => rw [h1] at h; cases h
  | some x => rw [lrun_ok hℓ d c S x h1]; rw [h1] at h; exact h
end Go.Proofs.Ytcpahifgdppkbaa.QAI
