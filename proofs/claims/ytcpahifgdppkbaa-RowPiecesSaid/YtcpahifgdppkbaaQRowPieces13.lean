/- RowPieces: the statement of the seat holds; no conditions. -/
import Derived.Test.YtcpahifgdppkbaaQRowPieces12
import Derived.Test.YtcpahifgdppkbaaRows
import Derived.ProofKit
import Derived.OpenShut
section
set_option linter.unusedVariables false
set_option linter.unusedSimpArgs false
namespace Go.Proofs.Ytcpahifgdppkbaa.QAI
open Go Go.RowKit Go.ChangeShapes Go.WideShapes Go.ChangeAt
set_option maxRecDepth 100000
theorem rowPieces_lr : (Ytcpahifgdppkbaa.Rows.rowPiecesRow.lifted == Try.prog.liftsFinal) = true := by rw [liftsFinal_ok]; kernel_rfl
theorem rowPieces_mr : (Try.prog.make == some Ytcpahifgdppkbaa.Rows.rowPiecesRow.make) = true := by rw [make_ok]; kernel_rfl
theorem rowPieces_joined : joinedFacts Try.prog 33 Try.f33 Ytcpahifgdppkbaa.Rows.rowPiecesSpec Ytcpahifgdppkbaa.Rows.rowPiecesRow = true := by
  delta joinedFacts
  repeat' (with_reducible refine Bool.and_eq_true_iff.2 ⟨?_, ?_⟩)
  all_goals first | (with_reducible exact mayEnter_ok) | (with_reducible exact rowPieces_lr) | (with_reducible exact rowPieces_mr) | kernel_rfl
theorem rowPieces_par : Try.f33.params.toList = [35, 22, 2] := rfl
theorem rowPieces_shp : shpsOk Try.prog [35, 22, 2] rowPiecesS = true := by kernel_rfl

theorem rowPieces_lifted (os : Os) (started : os.Started) (H : Type) (enc : TypeId × Value → H) :
    ReturnsInHanded {} Try.checked os 33 .any (Ytcpahifgdppkbaa.Rows.rowPiecesSpec.pre6 enc Try.prog Try.f33 Ytcpahifgdppkbaa.Rows.rowPiecesRow.domain false) (Ytcpahifgdppkbaa.Rows.rowPiecesSpec.post enc Try.prog Try.f33 false true false false) := by
  refine returnsInHanded_of_change_shaped (C := Try.checked) ownK started (by kernel_rfl) Try.func33
    (ChangeSpec.witness6 (enc := enc) (C := Try.checked) false ⟨#[], #[.agg (Array.replicate 256 (.int .i64 0)), .slice none 0 0, .int .i64 0], []⟩ 8 (by kernel_rfl) (by kernel_rfl) (by kernel_rfl) (by kernel_rfl)) ?_
  intro W base args ds gs before hval0 hW hcnd hwt0 _ _
  have hval1 : ∀ (j : Nat) t v, Try.f33.params[j]? = some t → args[j]? = some v → Value.okWide Try.prog W .any base t v := hval0
  have hW' := hW
  obtain ⟨p, q, hA0, hV, rfl, hfz, hnd⟩ := hW
  have hA : DataW.TrodAll enc Try.prog W 0 (fun _ => true) true Try.f33.params.toList args.toList ds p := hA0
  rw [rowPieces_par] at hA
  obtain ⟨rfl, rfl⟩ := trodVars_none hV
  clear hA0 hval0
  have hwt : (DataW.weightsEach Try.prog [35, 22, 2] ds).all (· ≤ reachBytes) = true := by
    rw [← rowPieces_par]
    have e : (DataW.weightsEach Try.prog (Try.f33.params.toList ++ []) (ds ++ [])).all (· ≤ reachBytes) = true := hwt0
    rw [List.append_nil, List.append_nil] at e
    exact e
  simp only [List.append_nil] at hW'
  have hlt : ∀ x ∈ p, x.block < W.heap.size := fun x hx => by simpa using hW'.lt x hx
  have hval : ∀ (j : Nat) t v, [35, 22, 2][j]? = some t → args.toList[j]? = some v → Value.okWide Try.prog W .any base t v := by
    intro j t v ht hv
    rw [← rowPieces_par] at ht
    exact hval1 j t v (by simpa using ht) (by simpa using hv)
  refine (law_callsS KRT_ok Try.func33 rowPieces_shp hval hA hlt hwt rowPieces_core).mono fun e W' ⟨he, bel⟩ => ?_
  subst he
  obtain ⟨d0, d1, d2, rfl⟩ : ∃ d0 d1 d2, ds = [d0, d1, d2] := by
    have hl := trodAll_len hA
    match ds, hl with
    | [d0, d1, d2], _ => exact ⟨d0, d1, d2, rfl⟩
  refine ⟨_, rfl, _, _, _, [], p, [], hW', trodAll_mk1 (shut_bool un4 _), ?_, rfl, bel.frame _, fun h => by cases h⟩
  have := Below.trodAll' laidOut rowPieces_shp hA hlt bel
  rw [← rowPieces_par] at this
  exact this

theorem rowPieces_holds : Ytcpahifgdppkbaa.Rows.RowPiecesSaid :=
  OpenClaim.holds_of_wide 33 Try.f33 rfl rfl rfl rfl rfl rfl rfl ⟨rfl, rfl, rfl, rfl, rfl⟩ rfl rfl rfl rfl rfl (by kernel_rfl) Try.func33 rowPieces_joined
    (of_decide_eq_true (by kernel_rfl)) (by unfold Func.isWrapper; first | (rw [if_pos (by decide +kernel)]; kernel_rfl) | (rw [if_neg (by decide +kernel)]; exact ⟨rfl, rfl⟩))
    (fun os started H enc _ => rowPieces_lifted os started H enc)
#print axioms rowPieces_holds
end Go.Proofs.Ytcpahifgdppkbaa.QAI
end
