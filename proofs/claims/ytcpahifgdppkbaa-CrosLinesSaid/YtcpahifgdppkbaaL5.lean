/- CrosLines: the statement of the seat holds; no conditions. -/
import Derived.Test.YtcpahifgdppkbaaL4
import Derived.Test.YtcpahifgdppkbaaC
import Derived.Test.YtcpahifgdppkbaaRows
import Derived.ProofKit
import Derived.OpenShut
set_option linter.unusedVariables false
set_option linter.unusedSimpArgs false
namespace Go.Proofs.Ytcpahifgdppkbaa.QAI
open Go Go.RowKit Go.ChangeShapes Go.WideShapes Go.ChangeAt
set_option maxRecDepth 100000
theorem crosLines_lr : (Ytcpahifgdppkbaa.Rows.crosLinesRow.lifted == Try.prog.liftsFinal) = true := by rw [liftsFinal_ok]; kernel_rfl
theorem crosLines_mr : (Try.prog.make == some Ytcpahifgdppkbaa.Rows.crosLinesRow.make) = true := by rw [make_ok]; kernel_rfl
theorem crosLines_joined : joinedFacts Try.prog 18 Try.f18 Ytcpahifgdppkbaa.Rows.crosLinesSpec Ytcpahifgdppkbaa.Rows.crosLinesRow = true := by
  delta joinedFacts
  repeat' (with_reducible refine Bool.and_eq_true_iff.2 ⟨?_, ?_⟩)
  all_goals first | (with_reducible exact mayEnter_ok) | (with_reducible exact crosLines_lr) | (with_reducible exact crosLines_mr) | kernel_rfl
theorem crosLines_par : Try.f18.params.toList = [22] := rfl
theorem crosLines_shp : shpsOk Try.prog [22] crosLinesS = true := by kernel_rfl

theorem crosLines_lifted (os : Os) (started : os.Started) (H : Type) (enc : TypeId × Value → H) :
    ReturnsInHanded {} Try.checked os 18 .any (Ytcpahifgdppkbaa.Rows.crosLinesSpec.pre6 enc Try.prog Try.f18 Ytcpahifgdppkbaa.Rows.crosLinesRow.domain false) (Ytcpahifgdppkbaa.Rows.crosLinesSpec.post enc Try.prog Try.f18 false true false false) := by
  refine returnsInHanded_of_change (C := Try.checked) ownK started (by kernel_rfl) Try.func18
    (ChangeSpec.witness6 (enc := enc) (C := Try.checked) false ⟨#[], #[.slice none 0 0], []⟩ 8 (by kernel_rfl) (by kernel_rfl) (by kernel_rfl) (by kernel_rfl)) ?_
  intro W base args ds gs before hval0 hW hcnd _
  have hval1 : ∀ (j : Nat) t v, Try.f18.params[j]? = some t → args[j]? = some v → Value.okWide Try.prog W .any base t v := hval0
  have hW' := hW
  obtain ⟨p, q, hA0, hV, rfl, hfz, hnd⟩ := hW
  have hA : DataW.TrodAll enc Try.prog W 0 (fun _ => true) true Try.f18.params.toList args.toList ds p := hA0
  rw [crosLines_par] at hA
  obtain ⟨rfl, rfl⟩ := trodVars_none hV
  clear hA0 hval0
  simp only [List.append_nil] at hW'
  have hlt : ∀ x ∈ p, x.block < W.heap.size := fun x hx => by simpa using hW'.lt x hx
  have hval : ∀ (j : Nat) t v, [22][j]? = some t → args.toList[j]? = some v → Value.okWide Try.prog W .any base t v := by
    intro j t v ht hv
    rw [← crosLines_par] at ht
    exact hval1 j t v (by simpa using ht) (by simpa using hv)
  refine (law_calls KY_ok Try.func18 crosLines_shp hval hA hlt crosLines_core).mono fun e W' ⟨he, bel⟩ => ?_
  subst he
  obtain ⟨d0, rfl⟩ : ∃ d0, ds = [d0] := by
    have hl := trodAll_len hA
    match ds, hl with
    | [d0], _ => exact ⟨d0, rfl⟩
  refine ⟨_, rfl, _, _, _, [], p, [], hW', trodAll_mk1 (shut_bool un4 _), ?_, rfl, bel.frame _, fun h => by cases h⟩
  have := Below.trodAll' laidOut crosLines_shp hA hlt bel
  rw [← crosLines_par] at this
  exact this

theorem crosLines_holds : Ytcpahifgdppkbaa.Rows.CrosLinesSaid :=
  OpenClaim.holds_of_wide 18 Try.f18 rfl rfl rfl rfl rfl rfl rfl ⟨rfl, rfl, rfl, rfl, rfl⟩ rfl rfl rfl rfl rfl (by kernel_rfl) Try.func18 crosLines_joined
    (of_decide_eq_true (by kernel_rfl)) (by unfold Func.isWrapper; first | (rw [if_pos (by decide +kernel)]; kernel_rfl) | (rw [if_neg (by decide +kernel)]; exact ⟨rfl, rfl⟩))
    (fun os started H enc _ => crosLines_lifted os started H enc)
#print axioms crosLines_holds
end Go.Proofs.Ytcpahifgdppkbaa.QAI
