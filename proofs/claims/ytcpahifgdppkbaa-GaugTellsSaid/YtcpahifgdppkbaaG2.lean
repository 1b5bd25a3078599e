/- gaug's awake; what the laws of layer 9 call. -/
import Derived.Test.YtcpahifgdppkbaaG1
set_option linter.unusedVariables false
set_option linter.unusedSimpArgs false
namespace Go.Proofs.Ytcpahifgdppkbaa.QAI
open Go Go.RowKit
set_option maxRecDepth 100000
theorem awakeG_eq : (afun (GK KG1 (fun _ => []) 0) 60 Try.f45 [] []).eval = some (Bo true, []) := by kernel_rfl
theorem awakeG_ok : SpecOk Try.prog 45 sAwakeG := by
  refine known' KG1_ok Try.func45 fun args h r he => ?_
  unfold sAwakeG at he
  split at he
  · cases he
    exact ⟨_, _, _, awakeG_eq⟩
  · cases he
noncomputable def KG2 : Known := [(45, sAwakeG), (46, tmF), (47, wdF fun _ _ => .fail), (51, afun (GK [] (fun _ => []) 0) 60 Try.f51)]
theorem KG2_ok : KnownOk KG2 := gKcons awakeG_ok (by kernel_rfl) (gKcons tmF_ok (by kernel_rfl) (gKcons wdF_ok (by kernel_rfl) (gKcons (known0 gKnil 60 Try.func51) (by kernel_rfl) gKnil)))
end Go.Proofs.Ytcpahifgdppkbaa.QAI
