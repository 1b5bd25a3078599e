/- CrosFills: the statement of the seat holds; no conditions. -/
import Derived.Test.YtcpahifgdppkbaaX2
import Derived.Test.YtcpahifgdppkbaaC
import Derived.Test.YtcpahifgdppkbaaRows
import Derived.ProofKit
import Derived.OpenShut
namespace Go.Proofs.Ytcpahifgdppkbaa.QAI
open Go Go.RowKit Go.ChangeShapes Go.WideShapes Go.ChangeAt
set_option maxRecDepth 100000
theorem crosFills_lr : (Ytcpahifgdppkbaa.Rows.crosFillsRow.lifted == Try.prog.liftsFinal) = true := by rw [liftsFinal_ok]; kernel_rfl
theorem crosFills_mr : (Try.prog.make == some Ytcpahifgdppkbaa.Rows.crosFillsRow.make) = true := by rw [make_ok]; kernel_rfl
theorem crosFills_joined : joinedFacts Try.prog 17 Try.f17 Ytcpahifgdppkbaa.Rows.crosFillsSpec Ytcpahifgdppkbaa.Rows.crosFillsRow = true := by
  delta joinedFacts
  repeat' (with_reducible refine Bool.and_eq_true_iff.2 ⟨?_, ?_⟩)
  all_goals first | (with_reducible exact mayEnter_ok) | (with_reducible exact crosFills_lr) | (with_reducible exact crosFills_mr) | kernel_rfl
theorem crosFills_par : Try.f17.params.toList = [2, 2, 2, 2, 2] := rfl
theorem crosFills_shp : shpsOk Try.prog [2, 2, 2, 2, 2] crosFillsS = true := by kernel_rfl

theorem crosFills_lifted (os : Os) (started : os.Started) (H : Type) (enc : TypeId × Value → H) :
    ReturnsInHanded {} Try.checked os 17 .any (Ytcpahifgdppkbaa.Rows.crosFillsSpec.pre6 enc Try.prog Try.f17 Ytcpahifgdppkbaa.Rows.crosFillsRow.domain false) (Ytcpahifgdppkbaa.Rows.crosFillsSpec.post enc Try.prog Try.f17 false true false false) := by
  refine returnsInHanded_of_change (C := Try.checked) ownK started (by kernel_rfl) Try.func17
    (ChangeSpec.witness6 (enc := enc) (C := Try.checked) false ⟨#[], #[.int .i64 0, .int .i64 0, .int .i64 0, .int .i64 0, .int .i64 0], []⟩ 8 (by kernel_rfl) (by kernel_rfl) (by kernel_rfl) (by kernel_rfl)) ?_
  intro W base args ds gs before hval0 hW hcnd _
  have hval1 : ∀ (j : Nat) t v, Try.f17.params[j]? = some t → args[j]? = some v → Value.okWide Try.prog W .any base t v := hval0
  have hW' := hW
  obtain ⟨p, q, hA0, hV, rfl, hfz, hnd⟩ := hW
  have hA : DataW.TrodAll enc Try.prog W 0 (fun _ => true) true Try.f17.params.toList args.toList ds p := hA0
  rw [crosFills_par] at hA
  obtain ⟨rfl, rfl⟩ := trodVars_none hV
  clear hA0 hval0
  simp only [List.append_nil] at hW'
  have hlt : ∀ x ∈ p, x.block < W.heap.size := fun x hx => by simpa using hW'.lt x hx
  have hval : ∀ (j : Nat) t v, [2, 2, 2, 2, 2][j]? = some t → args.toList[j]? = some v → Value.okWide Try.prog W .any base t v := by
    intro j t v ht hv
    rw [← crosFills_par] at ht
    exact hval1 j t v (by simpa using ht) (by simpa using hv)
  refine (law_calls KX2_ok Try.func17 crosFills_shp hval hA hlt crosFills_core).mono fun e W' ⟨he, bel⟩ => ?_
  subst he
  obtain ⟨d0, d1, d2, d3, d4, rfl⟩ : ∃ d0 d1 d2 d3 d4, ds = [d0, d1, d2, d3, d4] := by
    have hl := trodAll_len hA
    match ds, hl with
    | [d0, d1, d2, d3, d4], _ => exact ⟨d0, d1, d2, d3, d4, rfl⟩
  refine ⟨_, rfl, _, _, _, [], p, [], hW', trodAll_mk1 (shut_bool un4 _), ?_, rfl, bel.frame _, fun h => by cases h⟩
  have := Below.trodAll' laidOut crosFills_shp hA hlt bel
  rw [← crosFills_par] at this
  exact this

theorem crosFills_holds : Ytcpahifgdppkbaa.Rows.CrosFillsSaid :=
  OpenClaim.holds_of_wide 17 Try.f17 rfl rfl rfl rfl rfl rfl rfl ⟨rfl, rfl, rfl, rfl, rfl⟩ rfl rfl rfl rfl rfl (by kernel_rfl) Try.func17 crosFills_joined
    (of_decide_eq_true (by kernel_rfl)) (by unfold Func.isWrapper; first | (rw [if_pos (by decide +kernel)]; kernel_rfl) | (rw [if_neg (by decide +kernel)]; exact ⟨rfl, rfl⟩))
    (fun os started H enc _ => crosFills_lifted os started H enc)
#print axioms crosFills_holds
end Go.Proofs.Ytcpahifgdppkbaa.QAI
