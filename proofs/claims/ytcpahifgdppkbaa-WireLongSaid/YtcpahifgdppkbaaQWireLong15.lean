/- WireLong: the statement of the seat holds; no conditions. -/
import Derived.Test.YtcpahifgdppkbaaQWireLong14
import Derived.Test.YtcpahifgdppkbaaRows
import Derived.ProofKit
import Derived.OpenShut
set_option linter.unusedVariables false
set_option linter.unusedSimpArgs false
set_option maxRecDepth 100000
namespace Go.Proofs.Ytcpahifgdppkbaa.QAI
section
open Go Go.RowKit Go.ChangeShapes Go.WideShapes Go.ChangeAt
theorem wireLong_lr : (Ytcpahifgdppkbaa.Rows.wireLongRow.lifted == Try.prog.liftsFinal) = true := by rw [liftsFinal_ok]; kernel_rfl
theorem wireLong_mr : (Try.prog.make == some Ytcpahifgdppkbaa.Rows.wireLongRow.make) = true := by rw [make_ok]; kernel_rfl
theorem wireLong_joined : joinedFacts Try.prog 37 Try.f37 Ytcpahifgdppkbaa.Rows.wireLongSpec Ytcpahifgdppkbaa.Rows.wireLongRow = true := by
  delta joinedFacts
  repeat' (with_reducible refine Bool.and_eq_true_iff.2 ⟨?_, ?_⟩)
  all_goals first | (with_reducible exact mayEnter_ok) | (with_reducible exact wireLong_lr) | (with_reducible exact wireLong_mr) | kernel_rfl
theorem wireLong_par : Try.f37.params.toList = [22, 3] := rfl
theorem wireLong_shp : shpsOk Try.prog [22, 3] wireLongS = true := by kernel_rfl

theorem wireLong_lifted (os : Os) (started : os.Started) (H : Type) (enc : TypeId × Value → H) :
    ReturnsInHanded {} Try.checked os 37 .any (Ytcpahifgdppkbaa.Rows.wireLongSpec.pre6 enc Try.prog Try.f37 Ytcpahifgdppkbaa.Rows.wireLongRow.domain false) (Ytcpahifgdppkbaa.Rows.wireLongSpec.post enc Try.prog Try.f37 false true false false) := by
  refine returnsInHanded_of_change_shaped (C := Try.checked) ownK started (by kernel_rfl) Try.func37
    (ChangeSpec.witness6 (enc := enc) (C := Try.checked) false ⟨#[], #[.slice none 0 0, .int .i64 0], []⟩ 8 (by kernel_rfl) (by kernel_rfl) (by kernel_rfl) (by kernel_rfl)) ?_
  intro W base args ds gs before hval0 hW hcnd hwt0 _ _
  have hval1 : ∀ (j : Nat) t v, Try.f37.params[j]? = some t → args[j]? = some v → Value.okWide Try.prog W .any base t v := hval0
  have hW' := hW
  obtain ⟨p, q, hA0, hV, rfl, hfz, hnd⟩ := hW
  have hA : DataW.TrodAll enc Try.prog W 0 (fun _ => true) true Try.f37.params.toList args.toList ds p := hA0
  rw [wireLong_par] at hA
  obtain ⟨rfl, rfl⟩ := trodVars_none hV
  clear hA0 hval0
  have hwt : (DataW.weightsEach Try.prog [22, 3] ds).all (· ≤ reachBytes) = true := by
    rw [← wireLong_par]
    have e : (DataW.weightsEach Try.prog (Try.f37.params.toList ++ []) (ds ++ [])).all (· ≤ reachBytes) = true := hwt0
    rw [List.append_nil, List.append_nil] at e
    exact e
  simp only [List.append_nil] at hW'
  have hlt : ∀ x ∈ p, x.block < W.heap.size := fun x hx => by simpa using hW'.lt x hx
  have hval : ∀ (j : Nat) t v, [22, 3][j]? = some t → args.toList[j]? = some v → Value.okWide Try.prog W .any base t v := by
    intro j t v ht hv
    rw [← wireLong_par] at ht
    exact hval1 j t v (by simpa using ht) (by simpa using hv)
  refine (law_callsS KWL_ok Try.func37 wireLong_shp hval hA hlt hwt wireLong_core).mono fun e W' ⟨he, bel⟩ => ?_
  subst he
  obtain ⟨d0, d1, rfl⟩ : ∃ d0 d1, ds = [d0, d1] := by
    have hl := trodAll_len hA
    match ds, hl with
    | [d0, d1], _ => exact ⟨d0, d1, rfl⟩
  refine ⟨_, rfl, _, _, _, [], p, [], hW', trodAll_mk1 (shut_bool un4 _), ?_, rfl, bel.frame _, fun h => by cases h⟩
  have := Below.trodAll' laidOut wireLong_shp hA hlt bel
  rw [← wireLong_par] at this
  exact this

theorem wireLong_holds : Ytcpahifgdppkbaa.Rows.WireLongSaid :=
  OpenClaim.holds_of_wide 37 Try.f37 rfl rfl rfl rfl rfl rfl rfl ⟨rfl, rfl, rfl, rfl, rfl⟩ rfl rfl rfl rfl rfl (by kernel_rfl) Try.func37 wireLong_joined
    (of_decide_eq_true (by kernel_rfl)) (by unfold Func.isWrapper; first | (rw [if_pos (by decide +kernel)]; kernel_rfl) | (rw [if_neg (by decide +kernel)]; exact ⟨rfl, rfl⟩))
    (fun os started H enc _ => wireLong_lifted os started H enc)
#print axioms wireLong_holds
end
end Go.Proofs.Ytcpahifgdppkbaa.QAI
