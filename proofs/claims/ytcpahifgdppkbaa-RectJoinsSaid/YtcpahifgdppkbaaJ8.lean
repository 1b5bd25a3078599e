/- RectJoins: what comes in. -/
import Derived.Test.YtcpahifgdppkbaaJ7
set_option linter.unusedVariables false
set_option linter.unusedSimpArgs false
namespace Go.Proofs.Ytcpahifgdppkbaa.QAI
open Go Go.RowKit
set_option maxRecDepth 100000
theorem ins_rects {e : TypeId} {ss : List Shp} {is : List In} (h : InsOk (.rows e [.int .i64, .int .i64, .int .i64, .int .i64] :: ss) is) :
    ∃ (k : Nat) (g : Nat → Rc) (is' : List In), is = .rows k (fun i => encR (g i)) :: is' ∧ InsOk ss is' ∧ k ≤ maxLen := by
  obtain ⟨i, is', rfl, h1, h2⟩ := ins_cons h
  cases i with
  | rows k f =>
    obtain ⟨hk, h1⟩ := h1
    have : ∀ i, ∃ b, f i = encR b := fun i => by
      have hl := (h1 i).length
      obtain ⟨b0, hb0, a0, rfl, _⟩ := (h1 i).get 0 _ rfl
      obtain ⟨b1, hb1, a1, rfl, _⟩ := (h1 i).get 1 _ rfl
      obtain ⟨b2, hb2, a2, rfl, _⟩ := (h1 i).get 2 _ rfl
      obtain ⟨b3, hb3, a3, rfl, _⟩ := (h1 i).get 3 _ rfl
      match hf : f i, hl with
      | [x0, x1, x2, x3], _ =>
        rw [hf] at hb0 hb1 hb2 hb3
        simp only [List.getElem?_cons_zero, List.getElem?_cons_succ, Option.some.injEq] at hb0 hb1 hb2 hb3
        subst hb0; subst hb1; subst hb2; subst hb3
        exact ⟨⟨a0, a1, a2, a3⟩, rfl⟩
    refine ⟨k, fun i => (this i).choose, is', ?_, h2, hk⟩
    congr 2
    funext i
    exact (this i).choose_spec
  | _ => cases h1
def rectJoinsS : List Shp := [.rows 44 [.int .i64, .int .i64, .int .i64, .int .i64], .one (.int .i64), .one .bool]
theorem rectJoins_core : ∀ is, InsOk rectJoinsS is → ∃ keep L d tm, (afun (GT rKJ keep L tm) d Try.f9 (avsIn 0 rectJoinsS is) (blksIn rectJoinsS is)).eval = some (Bo true, blksIn rectJoinsS is) := by
  intro is0 h0
  obtain ⟨k, g, is1, rfl, h1, _⟩ := ins_rects h0
  obtain ⟨c, is2, rfl, h2⟩ := ins_i64 h1
  obtain ⟨z, is3, rfl, h3⟩ := ins_bool h2
  obtain rfl := ins_nil h3
  exact ⟨_, _, 60, _, rectJoins_true k g c z⟩
end Go.Proofs.Ytcpahifgdppkbaa.QAI
