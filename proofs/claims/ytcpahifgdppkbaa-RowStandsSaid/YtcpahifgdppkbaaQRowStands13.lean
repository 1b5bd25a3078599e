/- RowStands: the statement of the seat holds; no conditions. -/
import Derived.Test.YtcpahifgdppkbaaQRowStands12
import Derived.Test.YtcpahifgdppkbaaRows
import Derived.ProofKit
import Derived.OpenShut
section
set_option linter.unusedVariables false
set_option linter.unusedSimpArgs false
namespace Go.Proofs.Ytcpahifgdppkbaa.QAI
open Go Go.RowKit Go.ChangeShapes Go.WideShapes Go.ChangeAt
set_option maxRecDepth 100000
theorem rowStands_lr : (Ytcpahifgdppkbaa.Rows.rowStandsRow.lifted == Try.prog.liftsFinal) = true := by rw [liftsFinal_ok]; kernel_rfl
theorem rowStands_mr : (Try.prog.make == some Ytcpahifgdppkbaa.Rows.rowStandsRow.make) = true := by rw [make_ok]; kernel_rfl
theorem rowStands_joined : joinedFacts Try.prog 35 Try.f35 Ytcpahifgdppkbaa.Rows.rowStandsSpec Ytcpahifgdppkbaa.Rows.rowStandsRow = true := by
  delta joinedFacts
  repeat' (with_reducible refine Bool.and_eq_true_iff.2 ⟨?_, ?_⟩)
  all_goals first | (with_reducible exact mayEnter_ok) | (with_reducible exact rowStands_lr) | (with_reducible exact rowStands_mr) | kernel_rfl
theorem rowStands_par : Try.f35.params.toList = [35, 22, 2, 3] := rfl
theorem rowStands_shp : shpsOk Try.prog [35, 22, 2, 3] rowStandsS = true := by kernel_rfl

theorem rowStands_lifted (os : Os) (started : os.Started) (H : Type) (enc : TypeId × Value → H) :
    ReturnsInHanded {} Try.checked os 35 .any (Ytcpahifgdppkbaa.Rows.rowStandsSpec.pre6 enc Try.prog Try.f35 Ytcpahifgdppkbaa.Rows.rowStandsRow.domain false) (Ytcpahifgdppkbaa.Rows.rowStandsSpec.post enc Try.prog Try.f35 false true false false) := by
  refine returnsInHanded_of_change_shaped (C := Try.checked) ownK started (by kernel_rfl) Try.func35
    (ChangeSpec.witness6 (enc := enc) (C := Try.checked) false ⟨#[], #[.agg (Array.replicate 256 (.int .i64 0)), .slice none 0 0, .int .i64 0, .int .i64 0], []⟩ 8 (by kernel_rfl) (by kernel_rfl) (by kernel_rfl) (by kernel_rfl)) ?_
  intro W base args ds gs before hval0 hW hcnd hwt0 _ _
  have hval1 : ∀ (j : Nat) t v, Try.f35.params[j]? = some t → args[j]? = some v → Value.okWide Try.prog W .any base t v := hval0
  have hW' := hW
  obtain ⟨p, q, hA0, hV, rfl, hfz, hnd⟩ := hW
  have hA : DataW.TrodAll enc Try.prog W 0 (fun _ => true) true Try.f35.params.toList args.toList ds p := hA0
  rw [rowStands_par] at hA
  obtain ⟨rfl, rfl⟩ := trodVars_none hV
  clear hA0 hval0
  have hwt : (DataW.weightsEach Try.prog [35, 22, 2, 3] ds).all (· ≤ reachBytes) = true := by
    rw [← rowStands_par]
    have e : (DataW.weightsEach Try.prog (Try.f35.params.toList ++ []) (ds ++ [])).all (· ≤ reachBytes) = true := hwt0
    rw [List.append_nil, List.append_nil] at e
    exact e
  simp only [List.append_nil] at hW'
  have hlt : ∀ x ∈ p, x.block < W.heap.size := fun x hx => by simpa using hW'.lt x hx
  have hval : ∀ (j : Nat) t v, [35, 22, 2, 3][j]? = some t → args.toList[j]? = some v → Value.okWide Try.prog W .any base t v := by
    intro j t v ht hv
    rw [← rowStands_par] at ht
    exact hval1 j t v (by simpa using ht) (by simpa using hv)
  refine (law_callsS KRS_ok Try.func35 rowStands_shp hval hA hlt hwt rowStands_core).mono fun e W' ⟨he, bel⟩ => ?_
  subst he
  obtain ⟨d0, d1, d2, d3, rfl⟩ : ∃ d0 d1 d2 d3, ds = [d0, d1, d2, d3] := by
    have hl := trodAll_len hA
    match ds, hl with
    | [d0, d1, d2, d3], _ => exact ⟨d0, d1, d2, d3, rfl⟩
  refine ⟨_, rfl, _, _, _, [], p, [], hW', trodAll_mk1 (shut_bool un4 _), ?_, rfl, bel.frame _, fun h => by cases h⟩
  have := Below.trodAll' laidOut rowStands_shp hA hlt bel
  rw [← rowStands_par] at this
  exact this

theorem rowStands_holds : Ytcpahifgdppkbaa.Rows.RowStandsSaid :=
  OpenClaim.holds_of_wide 35 Try.f35 rfl rfl rfl rfl rfl rfl rfl ⟨rfl, rfl, rfl, rfl, rfl⟩ rfl rfl rfl rfl rfl (by kernel_rfl) Try.func35 rowStands_joined
    (of_decide_eq_true (by kernel_rfl)) (by unfold Func.isWrapper; first | (rw [if_pos (by decide +kernel)]; kernel_rfl) | (rw [if_neg (by decide +kernel)]; exact ⟨rfl, rfl⟩))
    (fun os started H enc _ => rowStands_lifted os started H enc)
#print axioms rowStands_holds
end Go.Proofs.Ytcpahifgdppkbaa.QAI
end
