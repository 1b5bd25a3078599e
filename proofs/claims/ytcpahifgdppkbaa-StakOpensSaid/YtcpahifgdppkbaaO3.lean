/- StakOpens: the statement of the seat holds; no conditions. -/
import Derived.Test.YtcpahifgdppkbaaO2
import Derived.Test.YtcpahifgdppkbaaC
import Derived.Test.YtcpahifgdppkbaaRows
import Derived.ProofKit
import Derived.OpenShut
set_option linter.unusedVariables false
set_option linter.unusedSimpArgs false
namespace Go.Proofs.Ytcpahifgdppkbaa.QAI
open Go Go.RowKit Go.ChangeShapes Go.WideShapes Go.ChangeAt
set_option maxRecDepth 100000
theorem stakOpens_lr : (Ytcpahifgdppkbaa.Rows.stakOpensRow.lifted == Try.prog.liftsFinal) = true := by rw [liftsFinal_ok]; kernel_rfl
theorem stakOpens_mr : (Try.prog.make == some Ytcpahifgdppkbaa.Rows.stakOpensRow.make) = true := by rw [make_ok]; kernel_rfl
theorem stakOpens_joined : joinedFacts Try.prog 12 Try.f12 Ytcpahifgdppkbaa.Rows.stakOpensSpec Ytcpahifgdppkbaa.Rows.stakOpensRow = true := by
  delta joinedFacts
  repeat' (with_reducible refine Bool.and_eq_true_iff.2 ⟨?_, ?_⟩)
  all_goals first | (with_reducible exact mayEnter_ok) | (with_reducible exact stakOpens_lr) | (with_reducible exact stakOpens_mr) | kernel_rfl
theorem stakOpens_par : Try.f12.params.toList = [58, 4] := rfl
theorem stakOpens_shp : shpsOk Try.prog [58, 4] stakOpensS = true := by kernel_rfl

theorem stakOpens_lifted (os : Os) (started : os.Started) (H : Type) (enc : TypeId × Value → H) :
    ReturnsInHanded {} Try.checked os 12 .any (Ytcpahifgdppkbaa.Rows.stakOpensSpec.pre6 enc Try.prog Try.f12 Ytcpahifgdppkbaa.Rows.stakOpensRow.domain false) (Ytcpahifgdppkbaa.Rows.stakOpensSpec.post enc Try.prog Try.f12 false true false false) := by
  refine returnsInHanded_of_change (C := Try.checked) ownK started (by kernel_rfl) Try.func12
    (ChangeSpec.witness6 (enc := enc) (C := Try.checked) false ⟨#[], #[.slice none 0 0, .bool false], []⟩ 8 (by kernel_rfl) (by kernel_rfl) (by kernel_rfl) (by kernel_rfl)) ?_
  intro W base args ds gs before hval0 hW hcnd _
  have hval1 : ∀ (j : Nat) t v, Try.f12.params[j]? = some t → args[j]? = some v → Value.okWide Try.prog W .any base t v := hval0
  have hW' := hW
  obtain ⟨p, q, hA0, hV, rfl, hfz, hnd⟩ := hW
  have hA : DataW.TrodAll enc Try.prog W 0 (fun _ => true) true Try.f12.params.toList args.toList ds p := hA0
  rw [stakOpens_par] at hA
  obtain ⟨rfl, rfl⟩ := trodVars_none hV
  clear hA0 hval0
  simp only [List.append_nil] at hW'
  have hlt : ∀ x ∈ p, x.block < W.heap.size := fun x hx => by simpa using hW'.lt x hx
  have hval : ∀ (j : Nat) t v, [58, 4][j]? = some t → args.toList[j]? = some v → Value.okWide Try.prog W .any base t v := by
    intro j t v ht hv
    rw [← stakOpens_par] at ht
    exact hval1 j t v (by simpa using ht) (by simpa using hv)
  refine (law_calls KS_ok Try.func12 stakOpens_shp hval hA hlt stakOpens_core).mono fun e W' ⟨he, bel⟩ => ?_
  subst he
  obtain ⟨d0, d1, rfl⟩ : ∃ d0 d1, ds = [d0, d1] := by
    have hl := trodAll_len hA
    match ds, hl with
    | [d0, d1], _ => exact ⟨d0, d1, rfl⟩
  refine ⟨_, rfl, _, _, _, [], p, [], hW', trodAll_mk1 (shut_bool un4 _), ?_, rfl, bel.frame _, fun h => by cases h⟩
  have := Below.trodAll' laidOut stakOpens_shp hA hlt bel
  rw [← stakOpens_par] at this
  exact this

theorem stakOpens_holds : Ytcpahifgdppkbaa.Rows.StakOpensSaid :=
  OpenClaim.holds_of_wide 12 Try.f12 rfl rfl rfl rfl rfl rfl rfl ⟨rfl, rfl, rfl, rfl, rfl⟩ rfl rfl rfl rfl rfl (by kernel_rfl) Try.func12 stakOpens_joined
    (of_decide_eq_true (by kernel_rfl)) (by unfold Func.isWrapper; first | (rw [if_pos (by decide +kernel)]; kernel_rfl) | (rw [if_neg (by decide +kernel)]; exact ⟨rfl, rfl⟩))
    (fun os started H enc _ => stakOpens_lifted os started H enc)
#print axioms stakOpens_holds
end Go.Proofs.Ytcpahifgdppkbaa.QAI
