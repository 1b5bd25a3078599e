/- CrosWithin: the statement of the seat holds; no conditions. -/
import Derived.Test.YtcpahifgdppkbaaW2
import Derived.Test.YtcpahifgdppkbaaC
import Derived.Test.YtcpahifgdppkbaaRows
import Derived.ProofKit
import Derived.OpenShut
set_option linter.unusedVariables false
set_option linter.unusedSimpArgs false
namespace Go.Proofs.Ytcpahifgdppkbaa.QAI
open Go Go.RowKit Go.ChangeShapes Go.WideShapes Go.ChangeAt
set_option maxRecDepth 100000
theorem crosWithin_lr : (Ytcpahifgdppkbaa.Rows.crosWithinRow.lifted == Try.prog.liftsFinal) = true := by rw [liftsFinal_ok]; kernel_rfl
theorem crosWithin_mr : (Try.prog.make == some Ytcpahifgdppkbaa.Rows.crosWithinRow.make) = true := by rw [make_ok]; kernel_rfl
theorem crosWithin_joined : joinedFacts Try.prog 20 Try.f20 Ytcpahifgdppkbaa.Rows.crosWithinSpec Ytcpahifgdppkbaa.Rows.crosWithinRow = true := by
  delta joinedFacts
  repeat' (with_reducible refine Bool.and_eq_true_iff.2 ⟨?_, ?_⟩)
  all_goals first | (with_reducible exact mayEnter_ok) | (with_reducible exact crosWithin_lr) | (with_reducible exact crosWithin_mr) | kernel_rfl
theorem crosWithin_par : Try.f20.params.toList = [2, 2, 4, 4, 3, 22] := rfl
theorem crosWithin_shp : shpsOk Try.prog [2, 2, 4, 4, 3, 22] crosWithinS = true := by kernel_rfl

theorem crosWithin_lifted (os : Os) (started : os.Started) (H : Type) (enc : TypeId × Value → H) :
    ReturnsInHanded {} Try.checked os 20 .any (Ytcpahifgdppkbaa.Rows.crosWithinSpec.pre6 enc Try.prog Try.f20 Ytcpahifgdppkbaa.Rows.crosWithinRow.domain false) (Ytcpahifgdppkbaa.Rows.crosWithinSpec.post enc Try.prog Try.f20 false true false false) := by
  refine returnsInHanded_of_change (C := Try.checked) ownK started (by kernel_rfl) Try.func20
    (ChangeSpec.witness6 (enc := enc) (C := Try.checked) false ⟨#[], #[.int .i64 0, .int .i64 0, .bool false, .bool false, .int .i64 0, .slice none 0 0], []⟩ 8 (by kernel_rfl) (by kernel_rfl) (by kernel_rfl) (by kernel_rfl)) ?_
  intro W base args ds gs before hval0 hW hcnd _
  have hval1 : ∀ (j : Nat) t v, Try.f20.params[j]? = some t → args[j]? = some v → Value.okWide Try.prog W .any base t v := hval0
  have hW' := hW
  obtain ⟨p, q, hA0, hV, rfl, hfz, hnd⟩ := hW
  have hA : DataW.TrodAll enc Try.prog W 0 (fun _ => true) true Try.f20.params.toList args.toList ds p := hA0
  rw [crosWithin_par] at hA
  obtain ⟨rfl, rfl⟩ := trodVars_none hV
  clear hA0 hval0
  simp only [List.append_nil] at hW'
  have hlt : ∀ x ∈ p, x.block < W.heap.size := fun x hx => by simpa using hW'.lt x hx
  have hval : ∀ (j : Nat) t v, [2, 2, 4, 4, 3, 22][j]? = some t → args.toList[j]? = some v → Value.okWide Try.prog W .any base t v := by
    intro j t v ht hv
    rw [← crosWithin_par] at ht
    exact hval1 j t v (by simpa using ht) (by simpa using hv)
  refine (law_calls KY_ok Try.func20 crosWithin_shp hval hA hlt crosWithin_core).mono fun e W' ⟨he, bel⟩ => ?_
  subst he
  obtain ⟨d0, d1, d2, d3, d4, d5, rfl⟩ : ∃ d0 d1 d2 d3 d4 d5, ds = [d0, d1, d2, d3, d4, d5] := by
    have hl := trodAll_len hA
    match ds, hl with
    | [d0, d1, d2, d3, d4, d5], _ => exact ⟨d0, d1, d2, d3, d4, d5, rfl⟩
  refine ⟨_, rfl, _, _, _, [], p, [], hW', trodAll_mk1 (shut_bool un4 _), ?_, rfl, bel.frame _, fun h => by cases h⟩
  have := Below.trodAll' laidOut crosWithin_shp hA hlt bel
  rw [← crosWithin_par] at this
  exact this

theorem crosWithin_holds : Ytcpahifgdppkbaa.Rows.CrosWithinSaid :=
  OpenClaim.holds_of_wide 20 Try.f20 rfl rfl rfl rfl rfl rfl rfl ⟨rfl, rfl, rfl, rfl, rfl⟩ rfl rfl rfl rfl rfl (by kernel_rfl) Try.func20 crosWithin_joined
    (of_decide_eq_true (by kernel_rfl)) (by unfold Func.isWrapper; first | (rw [if_pos (by decide +kernel)]; kernel_rfl) | (rw [if_neg (by decide +kernel)]; exact ⟨rfl, rfl⟩))
    (fun os started H enc _ => crosWithin_lifted os started H enc)
#print axioms crosWithin_holds
end Go.Proofs.Ytcpahifgdppkbaa.QAI
