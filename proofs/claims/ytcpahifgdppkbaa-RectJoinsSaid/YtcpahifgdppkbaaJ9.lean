/- RectJoins: the statement of the seat holds; no conditions. -/
import Derived.Test.YtcpahifgdppkbaaJ8
import Derived.Test.YtcpahifgdppkbaaC
import Derived.Test.YtcpahifgdppkbaaRows
import Derived.ProofKit
import Derived.OpenShut
set_option linter.unusedVariables false
set_option linter.unusedSimpArgs false
namespace Go.Proofs.Ytcpahifgdppkbaa.QAI
open Go Go.RowKit Go.ChangeShapes Go.WideShapes Go.ChangeAt
set_option maxRecDepth 100000
theorem rectJoins_lr : (Ytcpahifgdppkbaa.Rows.rectJoinsRow.lifted == Try.prog.liftsFinal) = true := by rw [liftsFinal_ok]; kernel_rfl
theorem rectJoins_mr : (Try.prog.make == some Ytcpahifgdppkbaa.Rows.rectJoinsRow.make) = true := by rw [make_ok]; kernel_rfl
theorem rectJoins_joined : joinedFacts Try.prog 9 Try.f9 Ytcpahifgdppkbaa.Rows.rectJoinsSpec Ytcpahifgdppkbaa.Rows.rectJoinsRow = true := by
  delta joinedFacts
  repeat' (with_reducible refine Bool.and_eq_true_iff.2 ⟨?_, ?_⟩)
  all_goals first | (with_reducible exact mayEnter_ok) | (with_reducible exact rectJoins_lr) | (with_reducible exact rectJoins_mr) | kernel_rfl
theorem rectJoins_par : Try.f9.params.toList = [48, 3, 4] := rfl
theorem rectJoins_shp : shpsOk Try.prog [48, 3, 4] rectJoinsS = true := by kernel_rfl

theorem rectJoins_lifted (os : Os) (started : os.Started) (H : Type) (enc : TypeId × Value → H) :
    ReturnsInHanded {} Try.checked os 9 .any (Ytcpahifgdppkbaa.Rows.rectJoinsSpec.pre6 enc Try.prog Try.f9 Ytcpahifgdppkbaa.Rows.rectJoinsRow.domain false) (Ytcpahifgdppkbaa.Rows.rectJoinsSpec.post enc Try.prog Try.f9 false true false false) := by
  refine returnsInHanded_of_change_shaped (C := Try.checked) ownK started (by kernel_rfl) Try.func9
    (ChangeSpec.witness6 (enc := enc) (C := Try.checked) false ⟨#[], #[.slice none 0 0, .int .i64 0, .bool false], []⟩ 8 (by kernel_rfl) (by kernel_rfl) (by kernel_rfl) (by kernel_rfl)) ?_
  intro W base args ds gs before hval0 hW hcnd hwt0 _ _
  have hval1 : ∀ (j : Nat) t v, Try.f9.params[j]? = some t → args[j]? = some v → Value.okWide Try.prog W .any base t v := hval0
  have hW' := hW
  obtain ⟨p, q, hA0, hV, rfl, hfz, hnd⟩ := hW
  have hA : DataW.TrodAll enc Try.prog W 0 (fun _ => true) true Try.f9.params.toList args.toList ds p := hA0
  rw [rectJoins_par] at hA
  obtain ⟨rfl, rfl⟩ := trodVars_none hV
  clear hA0 hval0
  have hwt : (DataW.weightsEach Try.prog [48, 3, 4] ds).all (· ≤ reachBytes) = true := by
    rw [← rectJoins_par]
    have e : (DataW.weightsEach Try.prog (Try.f9.params.toList ++ []) (ds ++ [])).all (· ≤ reachBytes) = true := hwt0
    rw [List.append_nil, List.append_nil] at e
    exact e
  simp only [List.append_nil] at hW'
  have hlt : ∀ x ∈ p, x.block < W.heap.size := fun x hx => by simpa using hW'.lt x hx
  have hval : ∀ (j : Nat) t v, [48, 3, 4][j]? = some t → args.toList[j]? = some v → Value.okWide Try.prog W .any base t v := by
    intro j t v ht hv
    rw [← rectJoins_par] at ht
    exact hval1 j t v (by simpa using ht) (by simpa using hv)
  refine (law_callsT rKJ_ok Try.func9 rectJoins_shp hval hA hlt hwt rectJoins_core).mono fun e W' ⟨he, bel⟩ => ?_
  subst he
  obtain ⟨d0, d1, d2, rfl⟩ : ∃ d0 d1 d2, ds = [d0, d1, d2] := by
    have hl := trodAll_len hA
    match ds, hl with
    | [d0, d1, d2], _ => exact ⟨d0, d1, d2, rfl⟩
  refine ⟨_, rfl, _, _, _, [], p, [], hW', trodAll_mk1 (shut_bool un4 _), ?_, rfl, bel.frame _, fun h => by cases h⟩
  have := Below.trodAll' laidOut rectJoins_shp hA hlt bel
  rw [← rectJoins_par] at this
  exact this

theorem rectJoins_holds : Ytcpahifgdppkbaa.Rows.RectJoinsSaid :=
  OpenClaim.holds_of_wide 9 Try.f9 rfl rfl rfl rfl rfl rfl rfl ⟨rfl, rfl, rfl, rfl, rfl⟩ rfl rfl rfl rfl rfl (by kernel_rfl) Try.func9 rectJoins_joined
    (of_decide_eq_true (by kernel_rfl)) (by unfold Func.isWrapper; first | (rw [if_pos (by decide +kernel)]; kernel_rfl) | (rw [if_neg (by decide +kernel)]; exact ⟨rfl, rfl⟩))
    (fun os started H enc _ => rectJoins_lifted os started H enc)
#print axioms rectJoins_holds
end Go.Proofs.Ytcpahifgdppkbaa.QAI
