/- A round that goes on. -/
import Derived.Test.YtcpahifgdppkbaaA19
set_option linter.unusedVariables false
set_option linter.unusedSimpArgs false
namespace Go.Proofs.Ytcpahifgdppkbaa.QAI
open Go Go.RowKit
noncomputable def rnd (f : St → Tr (Ex × St)) (k : St → St) (S : St) : Option St := ((f S).bind fun r => match r.1 with | .normal => .ret (k r.2) | _ => .fail).eval
theorem rnd_ok {f : St → Tr (Ex × St)} {k : St → St} {S S' : St} (h : rnd f k S = some S') : round f k S = some (.normal, S') := by
  unfold rnd at h
  rw [Tr.eval_bind] at h
  rw [round_eq]
  cases h1 : (f S).eval with
  | none => rw [h1] at h; cases h
  | some r =>
    obtain ⟨e, S1⟩ := r
    rw [h1] at h
    cases e with
    | normal =>
      simp only [Option.bind_some, Tr.eval, Option.some.injEq] at h
      subst h
      rfl
    | exit i => simp [Tr.eval] at h
    | ret => simp [Tr.eval] at h
/-- What a loop leaves, where it ends. -/
noncomputable def rndE (f : St → Tr (Ex × St)) (S : St) : Option (Ex × St) := ((f S).bind fun r => match r.1 with | .normal => .fail | e => .ret (e, r.2)).eval
theorem rndE_ok {f : St → Tr (Ex × St)} {k : St → St} {S : St} {r : Ex × St} (h : rndE f S = some r) : round f k S = some r ∧ r.1 ≠ .normal := by
  unfold rndE at h
  rw [Tr.eval_bind] at h
  rw [round_eq]
  cases h1 : (f S).eval with
  | none => rw [h1] at h; cases h
  | some x =>
    obtain ⟨e, S1⟩ := x
    rw [h1] at h
    cases e with
    | normal => simp [Tr.eval] at h
    | exit i =>
      simp only [Option.bind_some, Tr.eval, Option.some.injEq] at h
      subst h
      exact ⟨rfl, by simp⟩
    | ret =>
      simp only [Option.bind_some, Tr.eval, Option.some.injEq] at h
      subst h
      exact ⟨rfl, by simp⟩
noncomputable def rndX (f : St → Tr (Ex × St)) (S : St) : Option (Ex × St) := ((f S).bind fun r => match r.1 with | .exit i => .ret (.exit i, r.2) | _ => .fail).eval
theorem rndX_ok {f : St → Tr (Ex × St)} {k : St → St} {S : St} {r : Ex × St} (h : rndX f S = some r) : round f k S = some r := by
  unfold rndX at h
  rw [Tr.eval_bind] at h
  rw [round_eq]
  cases h1 : (f S).eval with
  | none => rw [h1] at h; cases h
  | some x =>
    obtain ⟨e, S1⟩ := x
    rw [h1] at h
    cases e with
    | normal => simp [Tr.eval] at h
    | exit i =>
      simp only [Option.bind_some, Tr.eval, Option.some.injEq] at h
      subst h
      rfl
    | ret => simp [Tr.eval] at h
end Go.Proofs.Ytcpahifgdppkbaa.QAI
