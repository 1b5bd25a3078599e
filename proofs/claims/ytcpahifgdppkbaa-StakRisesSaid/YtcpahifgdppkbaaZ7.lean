/- StakRises: the statement of the seat holds; no conditions. -/
import Derived.Test.YtcpahifgdppkbaaZ6
import Derived.Test.YtcpahifgdppkbaaC
import Derived.Test.YtcpahifgdppkbaaRows
import Derived.ProofKit
import Derived.OpenShut
set_option linter.unusedVariables false
set_option linter.unusedSimpArgs false
namespace Go.Proofs.Ytcpahifgdppkbaa.QAI
open Go Go.RowKit Go.ChangeShapes Go.WideShapes Go.ChangeAt
set_option maxRecDepth 100000
theorem stakRises_lr : (Ytcpahifgdppkbaa.Rows.stakRisesRow.lifted == Try.prog.liftsFinal) = true := by rw [liftsFinal_ok]; kernel_rfl
theorem stakRises_mr : (Try.prog.make == some Ytcpahifgdppkbaa.Rows.stakRisesRow.make) = true := by rw [make_ok]; kernel_rfl
theorem stakRises_joined : joinedFacts Try.prog 13 Try.f13 Ytcpahifgdppkbaa.Rows.stakRisesSpec Ytcpahifgdppkbaa.Rows.stakRisesRow = true := by
  delta joinedFacts
  repeat' (with_reducible refine Bool.and_eq_true_iff.2 ⟨?_, ?_⟩)
  all_goals first | (with_reducible exact mayEnter_ok) | (with_reducible exact stakRises_lr) | (with_reducible exact stakRises_mr) | kernel_rfl
theorem stakRises_par : Try.f13.params.toList = [58, 4, 4] := rfl
theorem stakRises_shp : shpsOk Try.prog [58, 4, 4] stakRisesS = true := by kernel_rfl

theorem stakRises_lifted (os : Os) (started : os.Started) (H : Type) (enc : TypeId × Value → H) :
    ReturnsInHanded {} Try.checked os 13 .any (Ytcpahifgdppkbaa.Rows.stakRisesSpec.pre6 enc Try.prog Try.f13 Ytcpahifgdppkbaa.Rows.stakRisesRow.domain false) (Ytcpahifgdppkbaa.Rows.stakRisesSpec.post enc Try.prog Try.f13 false true false false) := by
  refine returnsInHanded_of_change (C := Try.checked) ownK started (by kernel_rfl) Try.func13
    (ChangeSpec.witness6 (enc := enc) (C := Try.checked) false ⟨#[], #[.slice none 0 0, .bool false, .bool false], []⟩ 8 (by kernel_rfl) (by kernel_rfl) (by kernel_rfl) (by kernel_rfl)) ?_
  intro W base args ds gs before hval0 hW hcnd _
  have hval1 : ∀ (j : Nat) t v, Try.f13.params[j]? = some t → args[j]? = some v → Value.okWide Try.prog W .any base t v := hval0
  have hW' := hW
  obtain ⟨p, q, hA0, hV, rfl, hfz, hnd⟩ := hW
  have hA : DataW.TrodAll enc Try.prog W 0 (fun _ => true) true Try.f13.params.toList args.toList ds p := hA0
  rw [stakRises_par] at hA
  obtain ⟨rfl, rfl⟩ := trodVars_none hV
  clear hA0 hval0
  simp only [List.append_nil] at hW'
  have hlt : ∀ x ∈ p, x.block < W.heap.size := fun x hx => by simpa using hW'.lt x hx
  have hval : ∀ (j : Nat) t v, [58, 4, 4][j]? = some t → args.toList[j]? = some v → Value.okWide Try.prog W .any base t v := by
    intro j t v ht hv
    rw [← stakRises_par] at ht
    exact hval1 j t v (by simpa using ht) (by simpa using hv)
  refine (law_calls KS_ok Try.func13 stakRises_shp hval hA hlt stakRises_core).mono fun e W' ⟨he, bel⟩ => ?_
  subst he
  obtain ⟨d0, d1, d2, rfl⟩ : ∃ d0 d1 d2, ds = [d0, d1, d2] := by
    have hl := trodAll_len hA
    match ds, hl with
    | [d0, d1, d2], _ => exact ⟨d0, d1, d2, rfl⟩
  refine ⟨_, rfl, _, _, _, [], p, [], hW', trodAll_mk1 (shut_bool un4 _), ?_, rfl, bel.frame _, fun h => by cases h⟩
  have := Below.trodAll' laidOut stakRises_shp hA hlt bel
  rw [← stakRises_par] at this
  exact this

theorem stakRises_holds : Ytcpahifgdppkbaa.Rows.StakRisesSaid :=
  OpenClaim.holds_of_wide 13 Try.f13 rfl rfl rfl rfl rfl rfl rfl ⟨rfl, rfl, rfl, rfl, rfl⟩ rfl rfl rfl rfl rfl (by kernel_rfl) Try.func13 stakRises_joined
    (of_decide_eq_true (by kernel_rfl)) (by unfold Func.isWrapper; first | (rw [if_pos (by decide +kernel)]; kernel_rfl) | (rw [if_neg (by decide +kernel)]; exact ⟨rfl, rfl⟩))
    (fun os started H enc _ => stakRises_lifted os started H enc)
#print axioms stakRises_holds
end Go.Proofs.Ytcpahifgdppkbaa.QAI
