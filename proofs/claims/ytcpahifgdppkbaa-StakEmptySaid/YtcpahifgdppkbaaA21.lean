/- One way through a tree of tests: what is asked on it, and what stands at its end. -/
import Derived.Test.YtcpahifgdppkbaaA20
set_option linter.unusedVariables false
set_option linter.unusedSimpArgs false
namespace Go.Proofs.Ytcpahifgdppkbaa.QAI
open Go Go.RowKit

def Tr.go {α : Type} : Tr α → List Bool → Option (List Bool × α)
  | .ret a, _ => some ([], a)
  | .ite b t e, [] => (t.go []).map fun r => (b :: r.1, r.2)
  | .ite b t e, true :: ds => (t.go ds).map fun r => (b :: r.1, r.2)
  | .ite b t e, false :: ds => (e.go ds).map fun r => ((!b) :: r.1, r.2)
  | .fail, _ => none
def AllT : List Bool → Prop
  | [] => True
  | c :: cs => c = true ∧ AllT cs
theorem AllT.nil : AllT [] := trivial
theorem AllT.cons {c : Bool} {cs : List Bool} (h : c = true) (h' : AllT cs) : AllT (c :: cs) := ⟨h, h'⟩
theorem Tr.go_eval {α : Type} : ∀ {t : Tr α} {ds cs : List Bool} {a : α}, t.go ds = some (cs, a) → AllT cs → t.eval = some a
  | .ret a, ds, cs, a', h, _ => by
    simp only [Tr.go, Option.some.injEq, Prod.mk.injEq] at h
    rw [Tr.eval_ret, h.2]
  | .ite b t e, [], cs, a, h, hc => by
    simp only [Tr.go, Option.map_eq_some_iff] at h
    obtain ⟨r, hr, h⟩ := h
    cases h
    rw [Tr.eval_ite, if_pos hc.1]
    exact Tr.go_eval hr hc.2
  | .ite b t e, true :: ds, cs, a, h, hc => by
    simp only [Tr.go, Option.map_eq_some_iff] at h
    obtain ⟨r, hr, h⟩ := h
    cases h
    rw [Tr.eval_ite, if_pos hc.1]
    exact Tr.go_eval hr hc.2
  | .ite b t e, false :: ds, cs, a, h, hc => by
    simp only [Tr.go, Option.map_eq_some_iff] at h
    obtain ⟨r, hr, h⟩ := h
    cases h
    rw [Tr.eval_ite, if_neg (by have := hc.1; simp at this; simp [this])]
    exact Tr.go_eval hr hc.2
  | .fail, ds, cs, a, h, _ => by cases h

/-- One round as a tree. -/
noncomputable def roundT (f : St → Tr (Ex × St)) (k : St → St) (S : St) : Tr (Ex × St) := (f S).bind fun r => .ret (r.1, match r.1 with | .normal => k r.2 | _ => r.2)
theorem round_go {f : St → Tr (Ex × St)} {k : St → St} {S : St} {ds cs : List Bool} {r : Ex × St} (h : (roundT f k S).go ds = some (cs, r)) (hc : AllT cs) : round f k S = some r := Tr.go_eval h hc
theorem lfun_go {G : Ctx2} {ℓ : Loops} {d : Nat} {fn : Func} {args : List AV} {h : AHeap} (hℓ : LoopsOk G h.length ℓ) {ds cs : List Bool} {r} (hg : (lfun G ℓ d fn args h).go ds = some (cs, r)) (hc : AllT cs) : (afun G d fn args h).eval = some r :=
  lfun_ok hℓ (Tr.go_eval hg hc)
end Go.Proofs.Ytcpahifgdppkbaa.QAI
