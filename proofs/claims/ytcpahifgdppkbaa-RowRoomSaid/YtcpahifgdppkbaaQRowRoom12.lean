/- RowRoom: the statement of the seat holds; no conditions. -/
import Derived.Test.YtcpahifgdppkbaaQRowRoom11
import Derived.Test.YtcpahifgdppkbaaRows
import Derived.ProofKit
import Derived.OpenShut
section
set_option linter.unusedVariables false
set_option linter.unusedSimpArgs false
namespace Go.Proofs.Ytcpahifgdppkbaa.QAI
open Go Go.RowKit Go.ChangeShapes Go.WideShapes Go.ChangeAt
set_option maxRecDepth 100000
theorem rowRoom_lr : (Ytcpahifgdppkbaa.Rows.rowRoomRow.lifted == Try.prog.liftsFinal) = true := by rw [liftsFinal_ok]; kernel_rfl
theorem rowRoom_mr : (Try.prog.make == some Ytcpahifgdppkbaa.Rows.rowRoomRow.make) = true := by rw [make_ok]; kernel_rfl
theorem rowRoom_joined : joinedFacts Try.prog 32 Try.f32 Ytcpahifgdppkbaa.Rows.rowRoomSpec Ytcpahifgdppkbaa.Rows.rowRoomRow = true := by
  delta joinedFacts
  repeat' (with_reducible refine Bool.and_eq_true_iff.2 ⟨?_, ?_⟩)
  all_goals first | (with_reducible exact mayEnter_ok) | (with_reducible exact rowRoom_lr) | (with_reducible exact rowRoom_mr) | kernel_rfl
theorem rowRoom_par : Try.f32.params.toList = [35, 22, 2] := rfl
theorem rowRoom_shp : shpsOk Try.prog [35, 22, 2] rowRoomS = true := by kernel_rfl

theorem rowRoom_lifted (os : Os) (started : os.Started) (H : Type) (enc : TypeId × Value → H) :
    ReturnsInHanded {} Try.checked os 32 .any (Ytcpahifgdppkbaa.Rows.rowRoomSpec.pre6 enc Try.prog Try.f32 Ytcpahifgdppkbaa.Rows.rowRoomRow.domain false) (Ytcpahifgdppkbaa.Rows.rowRoomSpec.post enc Try.prog Try.f32 false true false false) := by
  refine returnsInHanded_of_change_shaped (C := Try.checked) ownK started (by kernel_rfl) Try.func32
    (ChangeSpec.witness6 (enc := enc) (C := Try.checked) false ⟨#[], #[.agg (Array.replicate 256 (.int .i64 0)), .slice none 0 0, .int .i64 0], []⟩ 8 (by kernel_rfl) (by kernel_rfl) (by kernel_rfl) (by kernel_rfl)) ?_
  intro W base args ds gs before hval0 hW hcnd hwt0 _ _
  have hval1 : ∀ (j : Nat) t v, Try.f32.params[j]? = some t → args[j]? = some v → Value.okWide Try.prog W .any base t v := hval0
  have hW' := hW
  obtain ⟨p, q, hA0, hV, rfl, hfz, hnd⟩ := hW
  have hA : DataW.TrodAll enc Try.prog W 0 (fun _ => true) true Try.f32.params.toList args.toList ds p := hA0
  rw [rowRoom_par] at hA
  obtain ⟨rfl, rfl⟩ := trodVars_none hV
  clear hA0 hval0
  have hwt : (DataW.weightsEach Try.prog [35, 22, 2] ds).all (· ≤ reachBytes) = true := by
    rw [← rowRoom_par]
    have e : (DataW.weightsEach Try.prog (Try.f32.params.toList ++ []) (ds ++ [])).all (· ≤ reachBytes) = true := hwt0
    rw [List.append_nil, List.append_nil] at e
    exact e
  simp only [List.append_nil] at hW'
  have hlt : ∀ x ∈ p, x.block < W.heap.size := fun x hx => by simpa using hW'.lt x hx
  have hval : ∀ (j : Nat) t v, [35, 22, 2][j]? = some t → args.toList[j]? = some v → Value.okWide Try.prog W .any base t v := by
    intro j t v ht hv
    rw [← rowRoom_par] at ht
    exact hval1 j t v (by simpa using ht) (by simpa using hv)
  refine (law_callsS KRT_ok Try.func32 rowRoom_shp hval hA hlt hwt rowRoom_core).mono fun e W' ⟨he, bel⟩ => ?_
  subst he
  obtain ⟨d0, d1, d2, rfl⟩ : ∃ d0 d1 d2, ds = [d0, d1, d2] := by
    have hl := trodAll_len hA
    match ds, hl with
    | [d0, d1, d2], _ => exact ⟨d0, d1, d2, rfl⟩
  refine ⟨_, rfl, _, _, _, [], p, [], hW', trodAll_mk1 (shut_bool un4 _), ?_, rfl, bel.frame _, fun h => by cases h⟩
  have := Below.trodAll' laidOut rowRoom_shp hA hlt bel
  rw [← rowRoom_par] at this
  exact this

theorem rowRoom_holds : Ytcpahifgdppkbaa.Rows.RowRoomSaid :=
  OpenClaim.holds_of_wide 32 Try.f32 rfl rfl rfl rfl rfl rfl rfl ⟨rfl, rfl, rfl, rfl, rfl⟩ rfl rfl rfl rfl rfl (by kernel_rfl) Try.func32 rowRoom_joined
    (of_decide_eq_true (by kernel_rfl)) (by unfold Func.isWrapper; first | (rw [if_pos (by decide +kernel)]; kernel_rfl) | (rw [if_neg (by decide +kernel)]; exact ⟨rfl, rfl⟩))
    (fun os started H enc _ => rowRoom_lifted os started H enc)
#print axioms rowRoom_holds
end Go.Proofs.Ytcpahifgdppkbaa.QAI
end
