/- RowTells: the statement of the seat holds; no conditions. -/
import Derived.Test.YtcpahifgdppkbaaQRowTells11
import Derived.Test.YtcpahifgdppkbaaRows
import Derived.ProofKit
import Derived.OpenShut
section
set_option linter.unusedVariables false
set_option linter.unusedSimpArgs false
namespace Go.Proofs.Ytcpahifgdppkbaa.QAI
open Go Go.RowKit Go.ChangeShapes Go.WideShapes Go.ChangeAt
set_option maxRecDepth 100000
theorem rowTells_lr : (Ytcpahifgdppkbaa.Rows.rowTellsRow.lifted == Try.prog.liftsFinal) = true := by rw [liftsFinal_ok]; kernel_rfl
theorem rowTells_mr : (Try.prog.make == some Ytcpahifgdppkbaa.Rows.rowTellsRow.make) = true := by rw [make_ok]; kernel_rfl
theorem rowTells_joined : joinedFacts Try.prog 34 Try.f34 Ytcpahifgdppkbaa.Rows.rowTellsSpec Ytcpahifgdppkbaa.Rows.rowTellsRow = true := by
  delta joinedFacts
  repeat' (with_reducible refine Bool.and_eq_true_iff.2 ⟨?_, ?_⟩)
  all_goals first | (with_reducible exact mayEnter_ok) | (with_reducible exact rowTells_lr) | (with_reducible exact rowTells_mr) | kernel_rfl
theorem rowTells_par : Try.f34.params.toList = [35, 80, 22, 2, 2, 3] := rfl
theorem rowTells_shp : shpsOk Try.prog [35, 80, 22, 2, 2, 3] rowTellsS = true := by kernel_rfl

theorem rowTells_lifted (os : Os) (started : os.Started) (H : Type) (enc : TypeId × Value → H) :
    ReturnsInHanded {} Try.checked os 34 .any (Ytcpahifgdppkbaa.Rows.rowTellsSpec.pre6 enc Try.prog Try.f34 Ytcpahifgdppkbaa.Rows.rowTellsRow.domain false) (Ytcpahifgdppkbaa.Rows.rowTellsSpec.post enc Try.prog Try.f34 false true false false) := by
  refine returnsInHanded_of_change_shaped (C := Try.checked) ownK started (by kernel_rfl) Try.func34
    (ChangeSpec.witness6 (enc := enc) (C := Try.checked) false ⟨#[], #[.agg (Array.replicate 256 (.int .i64 0)), .slice none 0 0, .slice none 0 0, .int .i64 0, .int .i64 0, .int .i64 0], []⟩ 8 (by kernel_rfl) (by kernel_rfl) (by kernel_rfl) (by kernel_rfl)) ?_
  intro W base args ds gs before hval0 hW hcnd hwt0 _ _
  have hval1 : ∀ (j : Nat) t v, Try.f34.params[j]? = some t → args[j]? = some v → Value.okWide Try.prog W .any base t v := hval0
  have hW' := hW
  obtain ⟨p, q, hA0, hV, rfl, hfz, hnd⟩ := hW
  have hA : DataW.TrodAll enc Try.prog W 0 (fun _ => true) true Try.f34.params.toList args.toList ds p := hA0
  rw [rowTells_par] at hA
  obtain ⟨rfl, rfl⟩ := trodVars_none hV
  clear hA0 hval0
  have hwt : (DataW.weightsEach Try.prog [35, 80, 22, 2, 2, 3] ds).all (· ≤ reachBytes) = true := by
    rw [← rowTells_par]
    have e : (DataW.weightsEach Try.prog (Try.f34.params.toList ++ []) (ds ++ [])).all (· ≤ reachBytes) = true := hwt0
    rw [List.append_nil, List.append_nil] at e
    exact e
  simp only [List.append_nil] at hW'
  have hlt : ∀ x ∈ p, x.block < W.heap.size := fun x hx => by simpa using hW'.lt x hx
  have hval : ∀ (j : Nat) t v, [35, 80, 22, 2, 2, 3][j]? = some t → args.toList[j]? = some v → Value.okWide Try.prog W .any base t v := by
    intro j t v ht hv
    rw [← rowTells_par] at ht
    exact hval1 j t v (by simpa using ht) (by simpa using hv)
  refine (law_callsS KRT_ok Try.func34 rowTells_shp hval hA hlt hwt rowTells_core).mono fun e W' ⟨he, bel⟩ => ?_
  subst he
  obtain ⟨d0, d1, d2, d3, d4, d5, rfl⟩ : ∃ d0 d1 d2 d3 d4 d5, ds = [d0, d1, d2, d3, d4, d5] := by
    have hl := trodAll_len hA
    match ds, hl with
    | [d0, d1, d2, d3, d4, d5], _ => exact ⟨d0, d1, d2, d3, d4, d5, rfl⟩
  refine ⟨_, rfl, _, _, _, [], p, [], hW', trodAll_mk1 (shut_bool un4 _), ?_, rfl, bel.frame _, fun h => by cases h⟩
  have := Below.trodAll' laidOut rowTells_shp hA hlt bel
  rw [← rowTells_par] at this
  exact this

theorem rowTells_holds : Ytcpahifgdppkbaa.Rows.RowTellsSaid :=
  OpenClaim.holds_of_wide 34 Try.f34 rfl rfl rfl rfl rfl rfl rfl ⟨rfl, rfl, rfl, rfl, rfl⟩ rfl rfl rfl rfl rfl (by kernel_rfl) Try.func34 rowTells_joined
    (of_decide_eq_true (by kernel_rfl)) (by unfold Func.isWrapper; first | (rw [if_pos (by decide +kernel)]; kernel_rfl) | (rw [if_neg (by decide +kernel)]; exact ⟨rfl, rfl⟩))
    (fun os started H enc _ => rowTells_lifted os started H enc)
#print axioms rowTells_holds
end Go.Proofs.Ytcpahifgdppkbaa.QAI
end
