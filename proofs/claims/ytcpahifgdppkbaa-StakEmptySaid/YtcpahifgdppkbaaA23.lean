/- A law that gives back 'true', its loops being told. -/
import Derived.Test.YtcpahifgdppkbaaA22
import Derived.Test.YtcpahifgdppkbaaC
set_option linter.unusedVariables false
set_option linter.unusedSimpArgs false
namespace Go.Proofs.Ytcpahifgdppkbaa.QAI
set_option maxRecDepth 100000
open Go Go.RowKit
theorem law_callsS {H : Type} {enc : TypeId × Value → H} {W : World} {base : Nat} {K : Known} (hK : KnownOk K) {f : Nat} {fn : Func} (hf : Try.prog.funcs[f]? = some fn) {ts : List TypeId} {ss : List Shp} {args : Array Value} {ds : List (DataW H)} {p : List MemPlace} (hs : shpsOk Try.prog ts ss = true)
    (hval : ∀ (j : Nat) t v, ts[j]? = some t → args.toList[j]? = some v → Value.okWide Try.prog W .any base t v) (hA : DataW.TrodAll enc Try.prog W 0 (fun _ => true) true ts args.toList ds p) (hlt : ∀ x ∈ p, x.block < W.heap.size) (hwt : (DataW.weightsEach Try.prog ts ds).all (· ≤ reachBytes) = true)
    (he : ∀ is, InsOk ss is → ∃ keep tm d ℓ, LoopsSem (GT K keep 0 tm) (blksIn ss is).length ℓ ∧ (lfun (GT K keep 0 tm) ℓ d fn (avsIn 0 ss is) (blksIn ss is)).eval = some (Bo true, blksIn ss is)) :
    Calls Try.prog f args W fun e w' => e = .returned (.bool true) ∧ Below W.heap.size W w' := by
  obtain ⟨is, ml, h1, h2, h3⟩ := came_all hs hval hA hlt hwt
  obtain ⟨hH, ho⟩ := came_hr h2
  have hv : VRs ml (avsIn 0 ss is) args.toList := by simpa using h3 [] []
  have he' : (trueS K fn (avsIn 0 ss is) (blksIn ss is)).eval = some (Bo true, blksIn ss is) := Tr.eval_ask.2 ⟨he is h1, rfl⟩
  refine (trueS_ok hK hf _ _ _ _ _ he' ml W args hH (Nat.le_refl _) hv).mono fun e w' h => ?_
  obtain ⟨m', x, rfl, hst, hr⟩ := h
  have : x = .bool true := hr
  subst this
  refine ⟨rfl, hst.fr.below fun k _ => ?_⟩
  rintro ⟨id, b, p, A, hb, hown, _⟩
  rw [ho id b hb] at hown
  cases hown
end Go.Proofs.Ytcpahifgdppkbaa.QAI
