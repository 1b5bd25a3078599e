/- What is asked of FoldBounds's row. -/
import Derived.Test.YtcpahifgdppkbaaH
namespace Go.Proofs.Ytcpahifgdppkbaa.QAI
open Go Go.RowKit Go.ChangeShapes Go.WideShapes Go.ChangeAt
set_option maxRecDepth 100000
theorem liftsFinal_row : (Ytcpahifgdppkbaa.Rows.foldBoundsRow.lifted == Try.prog.liftsFinal) = true := by rw [liftsFinal_ok]; kernel_rfl
theorem make_row : (Try.prog.make == some Ytcpahifgdppkbaa.Rows.foldBoundsRow.make) = true := by rw [make_ok]; kernel_rfl
theorem joined3 : joinedFacts Try.prog 3 Try.f3 Ytcpahifgdppkbaa.Rows.foldBoundsSpec Ytcpahifgdppkbaa.Rows.foldBoundsRow = true := by
  delta joinedFacts
  repeat' (with_reducible refine Bool.and_eq_true_iff.2 ⟨?_, ?_⟩)
  all_goals first | (with_reducible exact mayEnter_ok) | (with_reducible exact liftsFinal_row) | (with_reducible exact make_row) | kernel_rfl
end Go.Proofs.Ytcpahifgdppkbaa.QAI
