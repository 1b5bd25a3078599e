/- WhitRows: the statement of the seat holds; no conditions. -/
import Derived.Test.YtcpahifgdppkbaaQWhitRows13
import Derived.Test.YtcpahifgdppkbaaRows
import Derived.ProofKit
import Derived.OpenShut
section
set_option linter.unusedVariables false
set_option linter.unusedSimpArgs false
namespace Go.Proofs.Ytcpahifgdppkbaa.QAI
open Go Go.RowKit Go.ChangeShapes Go.WideShapes Go.ChangeAt
set_option maxRecDepth 100000
theorem whitRows_lr : (Ytcpahifgdppkbaa.Rows.whitRowsRow.lifted == Try.prog.liftsFinal) = true := by rw [liftsFinal_ok]; kernel_rfl
theorem whitRows_mr : (Try.prog.make == some Ytcpahifgdppkbaa.Rows.whitRowsRow.make) = true := by rw [make_ok]; kernel_rfl
theorem whitRows_joined : joinedFacts Try.prog 24 Try.f24 Ytcpahifgdppkbaa.Rows.whitRowsSpec Ytcpahifgdppkbaa.Rows.whitRowsRow = true := by
  delta joinedFacts
  repeat' (with_reducible refine Bool.and_eq_true_iff.2 ⟨?_, ?_⟩)
  all_goals first | (with_reducible exact mayEnter_ok) | (with_reducible exact whitRows_lr) | (with_reducible exact whitRows_mr) | kernel_rfl
theorem whitRows_par : Try.f24.params.toList = [35, 22] := rfl
theorem whitRows_shp : shpsOk Try.prog [35, 22] whitRowsS = true := by kernel_rfl

theorem whitRows_lifted (os : Os) (started : os.Started) (H : Type) (enc : TypeId × Value → H) :
    ReturnsInHanded {} Try.checked os 24 .any (Ytcpahifgdppkbaa.Rows.whitRowsSpec.pre6 enc Try.prog Try.f24 Ytcpahifgdppkbaa.Rows.whitRowsRow.domain false) (Ytcpahifgdppkbaa.Rows.whitRowsSpec.post enc Try.prog Try.f24 false true false false) := by
  refine returnsInHanded_of_change_shaped (C := Try.checked) ownK started (by kernel_rfl) Try.func24
    (ChangeSpec.witness6 (enc := enc) (C := Try.checked) false ⟨#[], #[.agg (Array.replicate 256 (.int .i64 0)), .slice none 0 0], []⟩ 8 (by kernel_rfl) (by kernel_rfl) (by kernel_rfl) (by kernel_rfl)) ?_
  intro W base args ds gs before hval0 hW hcnd hwt0 _ _
  have hval1 : ∀ (j : Nat) t v, Try.f24.params[j]? = some t → args[j]? = some v → Value.okWide Try.prog W .any base t v := hval0
  have hW' := hW
  obtain ⟨p, q, hA0, hV, rfl, hfz, hnd⟩ := hW
  have hA : DataW.TrodAll enc Try.prog W 0 (fun _ => true) true Try.f24.params.toList args.toList ds p := hA0
  rw [whitRows_par] at hA
  obtain ⟨rfl, rfl⟩ := trodVars_none hV
  clear hA0 hval0
  have hwt : (DataW.weightsEach Try.prog [35, 22] ds).all (· ≤ reachBytes) = true := by
    rw [← whitRows_par]
    have e : (DataW.weightsEach Try.prog (Try.f24.params.toList ++ []) (ds ++ [])).all (· ≤ reachBytes) = true := hwt0
    rw [List.append_nil, List.append_nil] at e
    exact e
  simp only [List.append_nil] at hW'
  have hlt : ∀ x ∈ p, x.block < W.heap.size := fun x hx => by simpa using hW'.lt x hx
  have hval : ∀ (j : Nat) t v, [35, 22][j]? = some t → args.toList[j]? = some v → Value.okWide Try.prog W .any base t v := by
    intro j t v ht hv
    rw [← whitRows_par] at ht
    exact hval1 j t v (by simpa using ht) (by simpa using hv)
  refine (law_callsS KWT_ok Try.func24 whitRows_shp hval hA hlt hwt whitRows_core).mono fun e W' ⟨he, bel⟩ => ?_
  subst he
  obtain ⟨d0, d1, rfl⟩ : ∃ d0 d1, ds = [d0, d1] := by
    have hl := trodAll_len hA
    match ds, hl with
    | [d0, d1], _ => exact ⟨d0, d1, rfl⟩
  refine ⟨_, rfl, _, _, _, [], p, [], hW', trodAll_mk1 (shut_bool un4 _), ?_, rfl, bel.frame _, fun h => by cases h⟩
  have := Below.trodAll' laidOut whitRows_shp hA hlt bel
  rw [← whitRows_par] at this
  exact this

theorem whitRows_holds : Ytcpahifgdppkbaa.Rows.WhitRowsSaid :=
  OpenClaim.holds_of_wide 24 Try.f24 rfl rfl rfl rfl rfl rfl rfl ⟨rfl, rfl, rfl, rfl, rfl⟩ rfl rfl rfl rfl rfl (by kernel_rfl) Try.func24 whitRows_joined
    (of_decide_eq_true (by kernel_rfl)) (by unfold Func.isWrapper; first | (rw [if_pos (by decide +kernel)]; kernel_rfl) | (rw [if_neg (by decide +kernel)]; exact ⟨rfl, rfl⟩))
    (fun os started H enc _ => whitRows_lifted os started H enc)
#print axioms whitRows_holds
end Go.Proofs.Ytcpahifgdppkbaa.QAI
end
