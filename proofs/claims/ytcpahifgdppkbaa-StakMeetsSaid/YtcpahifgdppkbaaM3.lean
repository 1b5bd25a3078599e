/- StakMeets: the statement of the seat holds; no conditions. -/
import Derived.Test.YtcpahifgdppkbaaM2
import Derived.Test.YtcpahifgdppkbaaC
import Derived.Test.YtcpahifgdppkbaaRows
import Derived.ProofKit
import Derived.OpenShut
set_option linter.unusedVariables false
set_option linter.unusedSimpArgs false
namespace Go.Proofs.Ytcpahifgdppkbaa.QAI
open Go Go.RowKit Go.ChangeShapes Go.WideShapes Go.ChangeAt
set_option maxRecDepth 100000
theorem stakMeets_lr : (Ytcpahifgdppkbaa.Rows.stakMeetsRow.lifted == Try.prog.liftsFinal) = true := by rw [liftsFinal_ok]; kernel_rfl
theorem stakMeets_mr : (Try.prog.make == some Ytcpahifgdppkbaa.Rows.stakMeetsRow.make) = true := by rw [make_ok]; kernel_rfl
theorem stakMeets_joined : joinedFacts Try.prog 15 Try.f15 Ytcpahifgdppkbaa.Rows.stakMeetsSpec Ytcpahifgdppkbaa.Rows.stakMeetsRow = true := by
  delta joinedFacts
  repeat' (with_reducible refine Bool.and_eq_true_iff.2 ⟨?_, ?_⟩)
  all_goals first | (with_reducible exact mayEnter_ok) | (with_reducible exact stakMeets_lr) | (with_reducible exact stakMeets_mr) | kernel_rfl
theorem stakMeets_par : Try.f15.params.toList = [58, 4, 4] := rfl
theorem stakMeets_shp : shpsOk Try.prog [58, 4, 4] stakMeetsS = true := by kernel_rfl

theorem stakMeets_lifted (os : Os) (started : os.Started) (H : Type) (enc : TypeId × Value → H) :
    ReturnsInHanded {} Try.checked os 15 .any (Ytcpahifgdppkbaa.Rows.stakMeetsSpec.pre6 enc Try.prog Try.f15 Ytcpahifgdppkbaa.Rows.stakMeetsRow.domain false) (Ytcpahifgdppkbaa.Rows.stakMeetsSpec.post enc Try.prog Try.f15 false true false false) := by
  refine returnsInHanded_of_change (C := Try.checked) ownK started (by kernel_rfl) Try.func15
    (ChangeSpec.witness6 (enc := enc) (C := Try.checked) false ⟨#[], #[.slice none 0 0, .bool false, .bool false], []⟩ 8 (by kernel_rfl) (by kernel_rfl) (by kernel_rfl) (by kernel_rfl)) ?_
  intro W base args ds gs before hval0 hW hcnd _
  have hval1 : ∀ (j : Nat) t v, Try.f15.params[j]? = some t → args[j]? = some v → Value.okWide Try.prog W .any base t v := hval0
  have hW' := hW
  obtain ⟨p, q, hA0, hV, rfl, hfz, hnd⟩ := hW
  have hA : DataW.TrodAll enc Try.prog W 0 (fun _ => true) true Try.f15.params.toList args.toList ds p := hA0
  rw [stakMeets_par] at hA
  obtain ⟨rfl, rfl⟩ := trodVars_none hV
  clear hA0 hval0
  simp only [List.append_nil] at hW'
  have hlt : ∀ x ∈ p, x.block < W.heap.size := fun x hx => by simpa using hW'.lt x hx
  have hval : ∀ (j : Nat) t v, [58, 4, 4][j]? = some t → args.toList[j]? = some v → Value.okWide Try.prog W .any base t v := by
    intro j t v ht hv
    rw [← stakMeets_par] at ht
    exact hval1 j t v (by simpa using ht) (by simpa using hv)
  refine (law_calls KS_ok Try.func15 stakMeets_shp hval hA hlt stakMeets_core).mono fun e W' ⟨he, bel⟩ => ?_
  subst he
  obtain ⟨d0, d1, d2, rfl⟩ : ∃ d0 d1 d2, ds = [d0, d1, d2] := by
    have hl := trodAll_len hA
    match ds, hl with
    | [d0, d1, d2], _ => exact ⟨d0, d1, d2, rfl⟩
  refine ⟨_, rfl, _, _, _, [], p, [], hW', trodAll_mk1 (shut_bool un4 _), ?_, rfl, bel.frame _, fun h => by cases h⟩
  have := Below.trodAll' laidOut stakMeets_shp hA hlt bel
  rw [← stakMeets_par] at this
  exact this

theorem stakMeets_holds : Ytcpahifgdppkbaa.Rows.StakMeetsSaid :=
  OpenClaim.holds_of_wide 15 Try.f15 rfl rfl rfl rfl rfl rfl rfl ⟨rfl, rfl, rfl, rfl, rfl⟩ rfl rfl rfl rfl rfl (by kernel_rfl) Try.func15 stakMeets_joined
    (of_decide_eq_true (by kernel_rfl)) (by unfold Func.isWrapper; first | (rw [if_pos (by decide +kernel)]; kernel_rfl) | (rw [if_neg (by decide +kernel)]; exact ⟨rfl, rfl⟩))
    (fun os started H enc _ => stakMeets_lifted os started H enc)
#print axioms stakMeets_holds
end Go.Proofs.Ytcpahifgdppkbaa.QAI
