/- Loops told from outside: what is shown of a loop stands in for it; questions. -/
import Derived.Test.YtcpahifgdppkbaaI
set_option linter.unusedVariables false
set_option linter.unusedSimpArgs false
namespace Go.Proofs.Ytcpahifgdppkbaa.QAI
open Go Go.RowKit

abbrev Loops := Nat → Code → St → Tr (Ex × St)

noncomputable def lrun (G : Ctx2) (ℓ : Loops) (n0 : Nat) : Nat → Code → St → Tr (Ex × St)
  | 0, _, _ => .fail
  | _ + 1, .skip, S => .ret (.normal, S)
  | _ + 1, .region _ ops draw, S => (if draw then regDraw G ops S else regSeq G ops ops.toList S).bind fun S' => .ret (.normal, S')
  | d + 1, .seq a b, S => (lrun G ℓ n0 d a S).bind fun (e, S') => match e with
    | .normal => lrun G ℓ n0 d b S'
    | e => .ret (e, S')
  | d + 1, .cond c a b, S =>
    match c with
    | .tmp t =>
      match S.sl.getD t (.c .any) with
      | .c (.v (.bool x)) => .ite x (lrun G ℓ n0 d a (litB S t true)) (lrun G ℓ n0 d b (litB S t false))
      | _ => .fail
    | _ => .fail
  | d + 1, .block id b, S => (lrun G ℓ n0 d b S).bind fun (e, S') => match e with
    | .exit k => if k = id then .ret (.normal, S') else .ret (.exit k, S')
    | e => .ret (e, S')
  | d + 1, .loop b, S => ℓ d b (canon G.T n0 (G.keep (firstReg b)) S)
  | _ + 1, .exit id, S => .ret (.exit id, S)
  | _ + 1, .ret, S => .ret (.ret, S)
  | _ + 1, _, _ => .fail

noncomputable def lfun (G : Ctx2) (ℓ : Loops) (d : Nat) (fn : Func) : Spec := fun args h =>
  match fn.body with
  | none => .fail
  | some c => (lrun G ℓ h.length d c ⟨args ++ List.replicate (fn.ntmps - args.length) (.c .any), h⟩).bind fun (e, S) =>
    match e with
    | .exit _ => .fail
    | _ => (resL G.T S fn.results.toList).bind fun l =>
      let r := oneRes l
      let R := closeOf S.h 10000 (refsOf S.h h.length ++ refAV r) (List.range h.length)
      .ret (renAV (idxIn R) r, subHeap S.h R)

def LoopsOk (G : Ctx2) (n0 : Nat) (ℓ : Loops) : Prop :=
  ∀ d b S r, (ℓ d b S).eval = some r → (iter (arun G n0 d b) (canon G.T n0 (G.keep (firstReg b))) G.L S).eval = some r

theorem lrun_ok {G : Ctx2} {ℓ : Loops} {n0 : Nat} (hℓ : LoopsOk G n0 ℓ) : ∀ (d : Nat) (c : Code) (S : St) r, (lrun G ℓ n0 d c S).eval = some r → (arun G n0 d c S).eval = some r
  | 0, c, S, r, h => by cases c <;> exact absurd h (by simp [lrun, Tr.eval])
  | d + 1, c, S, r, h => by
    cases c with
    | skip => exact h
    | region id ops draw => exact h
    | exit id => exact h
    | ret => exact h
    | seq a b =>
      simp only [lrun, Tr.eval_bind] at h
      simp only [arun, Tr.eval_bind]
      cases h1 : (lrun G ℓ n0 d a S).eval with
      | none => simp [h1] at h
      | some r1 =>
        obtain ⟨e, S1⟩ := r1
        rw [lrun_ok hℓ d a S _ h1]
        rw [h1] at h
        simp only [Option.bind_some] at h ⊢
        cases e with
        | normal => exact lrun_ok hℓ d b S1 r h
        | exit k => exact h
        | ret => exact h
    | cond c a b =>
      cases c with
      | tmp t =>
        simp only [lrun] at h
        simp only [arun]
        split at h
        · rename_i x hx
          simp only [hx]
          simp only [Tr.eval_ite] at h ⊢
          split at h
          · rw [if_pos ‹_›]; exact lrun_ok hℓ d a _ r h
          · rw [if_neg ‹_›]; exact lrun_ok hℓ d b _ r h
        · cases h
      | const v => simp [lrun, Tr.eval] at h
      | global v => simp [lrun, Tr.eval] at h
      | func v => simp [lrun, Tr.eval] at h
    | block id b =>
      simp only [lrun, Tr.eval_bind] at h
      simp only [arun, Tr.eval_bind]
      cases h1 : (lrun G ℓ n0 d b S).eval with
      | none => simp [h1] at h
      | some r1 =>
        obtain ⟨e, S1⟩ := r1
        rw [lrun_ok hℓ d b S _ h1]
        rw [h1] at h
        simp only [Option.bind_some] at h ⊢
        cases e with
        | normal => exact h
        | exit k => exact h
        | ret => exact h
    | loop b => exact hℓ d b _ r h
    | _ => exact absurd h (by simp [lrun, Tr.eval])

theorem lfun_ok {G : Ctx2} {ℓ : Loops} {d : Nat} {fn : Func} {args : List AV} {h : AHeap} (hℓ : LoopsOk G h.length ℓ) {r} (he : (lfun G ℓ d fn args h).eval = some r) : (afun G d fn args h).eval = some r := by
  unfold lfun at he
  unfold afun
  split at he
  · cases he
  · rename_i c hc
    simp only [hc]
    rw [Tr.eval_bind] at he ⊢
    cases h1 : (lrun G ℓ h.length d c ⟨args ++ List.replicate (fn.ntmps - args.length) (.c .any), h⟩).eval with
    | none => simp [h1] at he
    | some r1 =>
      rw [lrun_ok hℓ d c _ _ h1]
      rw [h1] at he
      exact he

/-- One round, and what it leaves for the next. -/
noncomputable def round (f : St → Tr (Ex × St)) (k : St → St) (S : St) : Option (Ex × St) := ((f S).bind fun r => .ret (r.1, match r.1 with | .normal => k r.2 | _ => r.2)).eval
theorem round_eq {f : St → Tr (Ex × St)} {k : St → St} {S : St} : round f k S = (f S).eval.map fun r => (r.1, match r.1 with | .normal => k r.2 | _ => r.2) := by
  unfold round
  rw [Tr.eval_bind]
  cases (f S).eval <;> rfl

theorem iter_upto {f : St → Tr (Ex × St)} {k : St → St} (st : Nat → St) {N : Nat} {e : Ex} (he : e ≠ .normal) {Se : St} (hN : round f k (st N) = some (e, Se)) :
    ∀ (L i : Nat), i ≤ N → N < L + i → (∀ j, i ≤ j → j < N → round f k (st j) = some (.normal, st (j + 1))) → (iter f k L (st i)).eval = some (e, Se)
  | 0, i, hi, hL, _ => by omega
  | L + 1, i, hi, hL, h => by
    simp only [iter, Tr.eval_bind]
    rcases Nat.lt_or_ge i N with hlt | hge
    · have h1 := h i (Nat.le_refl _) hlt
      rw [round_eq] at h1
      cases h2 : (f (st i)).eval with
      | none => rw [h2] at h1; cases h1
      | some r =>
        obtain ⟨e1, S1⟩ := r
        rw [h2] at h1
        simp only [Option.map_some, Option.some.injEq, Prod.mk.injEq] at h1
        obtain ⟨rfl, h3⟩ := h1
        simp only [Option.bind_some]
        simp only at h3
        rw [h3]
        exact iter_upto st he hN L (i + 1) (by omega) (by omega) fun j hj hjN => h j (by omega) hjN
    · have : i = N := by omega
      subst this
      rw [round_eq] at hN
      cases h2 : (f (st i)).eval with
      | none => rw [h2] at hN; cases hN
      | some r =>
        obtain ⟨e1, S1⟩ := r
        rw [h2] at hN
        simp only [Option.map_some, Option.some.injEq, Prod.mk.injEq] at hN
        obtain ⟨rfl, h3⟩ := hN
        simp only [Option.bind_some]
        cases e1 with
        | normal => exact absurd rfl he
        | exit k => simp only at h3; rw [h3]; rfl
        | ret => simp only at h3; rw [h3]; rfl

theorem yes_of {p : Prop} (h : p) : yes p = true := by simp [yes, h]
/-- What one loop comes to. -/
noncomputable def told (d0 : Nat) (b0 : Code) (S0 : St) (r : Ex × St) : Loops := fun d b S => .need (yes (d = d0 ∧ b = b0 ∧ S = S0)) (.ret r)
abbrev was (d0 : Nat) (b0 : Code) (S0 : St) : Prop := d0 = d0 ∧ b0 = b0 ∧ S0 = S0
theorem told_ok {G : Ctx2} {n0 d0 : Nat} {b0 : Code} {S0 : St} {r : Ex × St} (h : (iter (arun G n0 d0 b0) (canon G.T n0 (G.keep (firstReg b0))) G.L S0).eval = some r) : LoopsOk G n0 (told d0 b0 S0 r) := by
  intro d b S r' he
  obtain ⟨h1, h2⟩ := Tr.eval_need.1 he
  have : d = d0 ∧ b = b0 ∧ S = S0 := by simpa [yes] using h1
  obtain ⟨rfl, rfl, rfl⟩ := this
  cases h2
  exact h
theorem Tr.eval_ask {α : Type} {p : Prop} {t : Tr α} {v : α} : (Tr.need (yes p) t).eval = some v ↔ p ∧ t.eval = some v := by
  rw [Tr.eval_need]
  simp [yes]

def loopsOf : Code → List Code
  | .seq a b => loopsOf a ++ loopsOf b
  | .block _ b => loopsOf b
  | .loop b => b :: loopsOf b
  | .cond _ a b => loopsOf a ++ loopsOf b
  | _ => []
def bodyOf (fn : Func) (n : Nat) : Code := (loopsOf (fn.body.getD .skip)).getD n .skip
/-- Slots of which some are told. -/
def slots (n : Nat) (l : List (Nat × AV)) : List AV := l.foldl (fun s p => s.set p.1 p.2) (List.replicate n (.c .any))
abbrev I64 (x : Int) : AV := .c (.v (.int .i64 x))
abbrev i64 (x : Int) : AC := .v (.int .i64 x)
abbrev Bo (x : Bool) : AV := .c (.v (.bool x))
theorem knownT {K : Known} (hK : KnownOk K) {f : Nat} {fn : Func} (hf : Try.prog.funcs[f]? = some fn) {F : Spec}
    (h : ∀ args h r, (F args h).eval = some r → ∃ keep L d ts, (afun (GT K keep L ts) d fn args h).eval = some r) : SpecOk Try.prog f F :=
  fun B args h' r H' he => by
    obtain ⟨keep, L, d, ts, h1⟩ := h _ _ _ he
    exact afun_ok (GT_ok hK keep L ts) hf d B args h' r H' h1
theorem known' {K : Known} (hK : KnownOk K) {f : Nat} {fn : Func} (hf : Try.prog.funcs[f]? = some fn) {F : Spec}
    (h : ∀ args h r, (F args h).eval = some r → ∃ keep L d, (afun (GK K keep L) d fn args h).eval = some r) : SpecOk Try.prog f F :=
  fun B args h' r H' he => by
    obtain ⟨keep, L, d, h1⟩ := h _ _ _ he
    exact afun_ok (GK_ok hK keep L) hf d B args h' r H' h1
theorem known0 {K : Known} (hK : KnownOk K) (d : Nat) {f : Nat} {fn : Func} (hf : Try.prog.funcs[f]? = some fn) : SpecOk Try.prog f (afun (GK K (fun _ => []) 0) d fn) :=
  known' hK hf fun _ _ _ h => ⟨_, _, _, h⟩
end Go.Proofs.Ytcpahifgdppkbaa.QAI
