/- Loops told by what their rounds show: what stands at a loop's end is forgotten but for some slots. -/
import Derived.Test.YtcpahifgdppkbaaA21
set_option linter.unusedVariables false
set_option linter.unusedSimpArgs false
namespace Go.Proofs.Ytcpahifgdppkbaa.QAI
open Go Go.RowKit

/-- What a piece of code comes to, from a state on. -/
def CodeSem (G : Ctx2) (n0 : Nat) (c : Code) (S : St) (r : Ex × St) : Prop :=
  ∀ (B : Nat) (m0 : List Pl) (h0 : AHeap) (w0 : World) (a : Act) (w : World), h0.length = n0 → m0.length = h0.length → RI B m0 h0 w0 S a w →
    ∀ Q, (∀ a' w', RI B m0 h0 w0 r.2 a' w' → Q (toExit r.1) a' w') → c.wp G.P Q a w

def LoopsSem (G : Ctx2) (n0 : Nat) (ℓ : Loops) : Prop := ∀ d b S r, (ℓ d b S).eval = some r → CodeSem G n0 (.loop b) S r

theorem CodeSem.canon {G : Ctx2} {n0 : Nat} {c : Code} {S : St} {r : Ex × St} (T : List TI) (k : List (Nat × Option TypeId)) (h : CodeSem G n0 c S r) : CodeSem G n0 c S (r.1, canon T n0 k r.2) := by
  intro B m0 h0 w0 a w hn H0 hI Q hQ
  refine h B m0 h0 w0 a w hn H0 hI Q fun a' w' hI' => hQ a' w' ?_
  subst hn
  exact canon_ok H0 hI'

theorem lrun_sem {G : Ctx2} (hG : XOk G) {ℓ : Loops} {n0 : Nat} (hℓ : LoopsSem G n0 ℓ) : ∀ (d : Nat) (c : Code) (S : St) (e : Ex) (S' : St), (lrun G ℓ n0 d c S).eval = some (e, S') → CodeSem G n0 c S (e, S')
  | 0, c, S, e, S', he => by simp [lrun, Tr.eval] at he
  | d + 1, c, S, e, S', he => by
    have ih := lrun_sem hG hℓ d
    intro B m0 h0 w0 a w hn H0 hI Q hQ
    cases c with
    | skip =>
      simp only [lrun, Tr.eval, Option.some.injEq, Prod.mk.injEq] at he
      obtain ⟨rfl, rfl⟩ := he
      exact wp_skip (hQ a w hI)
    | region id ops draw =>
      simp only [lrun, Tr.eval_bind] at he
      cases draw with
      | false =>
        simp only [Bool.false_eq_true, if_false] at he
        cases h1 : (regSeq G ops ops.toList S).eval with
        | none => simp [h1] at he
        | some S1 =>
          rw [h1] at he
          simp only [Option.bind_some, Tr.eval, Option.some.injEq, Prod.mk.injEq] at he
          obtain ⟨rfl, rfl⟩ := he
          exact wp_region_list (regSeq_ok hG ops.toList S a w hI h1 hQ)
      | true =>
        simp only [if_true] at he
        cases h1 : (regDraw G ops S).eval with
        | none => simp [h1] at he
        | some S1 =>
          rw [h1] at he
          simp only [Option.bind_some, Tr.eval, Option.some.injEq, Prod.mk.injEq] at he
          obtain ⟨rfl, rfl⟩ := he
          exact regDraw_ok hG hI h1 Q hQ
    | seq x y =>
      simp only [lrun, Tr.eval_bind] at he
      cases h1 : (lrun G ℓ n0 d x S).eval with
      | none => simp [h1] at he
      | some r =>
        obtain ⟨e1, S1⟩ := r
        rw [h1] at he
        simp only [Option.bind_some] at he
        refine wp_seq (ih x S e1 S1 h1 B m0 h0 w0 a w hn H0 hI _ ?_)
        intro a' w' hI'
        cases e1 with
        | normal => exact ih y S1 e S' he B m0 h0 w0 a' w' hn H0 hI' Q hQ
        | exit id =>
          simp only [Tr.eval, Option.some.injEq, Prod.mk.injEq] at he
          obtain ⟨rfl, rfl⟩ := he
          exact hQ a' w' hI'
        | ret =>
          simp only [Tr.eval, Option.some.injEq, Prod.mk.injEq] at he
          obtain ⟨rfl, rfl⟩ := he
          exact hQ a' w' hI'
    | cond c x y =>
      simp only [lrun] at he
      split at he
      · rename_i t
        split at he
        · rename_i b hb
          rw [Tr.eval_ite] at he
          have hbv := hI.bool hb
          have hev : a.eval (.tmp t) = .bool b := by
            simp [Act.eval, Array.getD_eq_getD_getElem?, hbv]
          cases b with
          | true =>
            rw [if_pos rfl] at he
            exact wp_cond_true hev (ih x _ e S' he B m0 h0 w0 a w hn H0 (hI.lit hb) Q hQ)
          | false =>
            rw [if_neg (by simp)] at he
            exact wp_cond_false hev (ih y _ e S' he B m0 h0 w0 a w hn H0 (hI.lit hb) Q hQ)
        · cases he
      · cases he
    | block id x =>
      simp only [lrun, Tr.eval_bind] at he
      cases h1 : (lrun G ℓ n0 d x S).eval with
      | none => simp [h1] at he
      | some r =>
        obtain ⟨e1, S1⟩ := r
        rw [h1] at he
        simp only [Option.bind_some] at he
        refine wp_block (ih x S e1 S1 h1 B m0 h0 w0 a w hn H0 hI _ ?_)
        intro a' w' hI'
        cases e1 with
        | normal =>
          simp only [Tr.eval, Option.some.injEq, Prod.mk.injEq] at he
          obtain ⟨rfl, rfl⟩ := he
          exact hQ a' w' hI'
        | exit k =>
          simp only at he
          split at he
          · rename_i hk
            simp only [Tr.eval, Option.some.injEq, Prod.mk.injEq] at he
            obtain ⟨rfl, rfl⟩ := he
            show (if k = id then Q .normal a' w' else Q (.exit k) a' w')
            rw [if_pos hk]
            exact hQ a' w' hI'
          · rename_i hk
            simp only [Tr.eval, Option.some.injEq, Prod.mk.injEq] at he
            obtain ⟨rfl, rfl⟩ := he
            show (if k = id then Q .normal a' w' else Q (.exit k) a' w')
            rw [if_neg hk]
            exact hQ a' w' hI'
        | ret =>
          simp only [Tr.eval, Option.some.injEq, Prod.mk.injEq] at he
          obtain ⟨rfl, rfl⟩ := he
          exact hQ a' w' hI'
    | loop x =>
      simp only [lrun] at he
      refine hℓ d x _ (e, S') he B m0 h0 w0 a w hn H0 ?_ Q hQ
      subst hn
      exact canon_ok H0 hI
    | exit id =>
      simp only [lrun, Tr.eval, Option.some.injEq, Prod.mk.injEq] at he
      obtain ⟨rfl, rfl⟩ := he
      exact wp_exit (hQ a w hI)
    | ret =>
      simp only [lrun, Tr.eval, Option.some.injEq, Prod.mk.injEq] at he
      obtain ⟨rfl, rfl⟩ := he
      exact wp_ret (hQ a w hI)
    | rangeFunc _ _ _ _ => simp [lrun, Tr.eval] at he
    | scope _ => simp [lrun, Tr.eval] at he
    | label _ => simp [lrun, Tr.eval] at he
    | goto _ => simp [lrun, Tr.eval] at he
    | refuse _ => simp [lrun, Tr.eval] at he

/-- One round of a loop, as a tree: what it leaves is forgotten but for some slots, the same or others where the loop ends. -/
noncomputable def rT (G : Ctx2) (ℓ : Loops) (n0 d : Nat) (b : Code) (k ka : List (Nat × Option TypeId)) (S : St) : Tr (Ex × St) :=
  (lrun G ℓ n0 d b S).bind fun r => .ret (r.1, match r.1 with | .normal => canon G.T n0 k r.2 | _ => canon G.T n0 ka r.2)
theorem rT_sem {G : Ctx2} (hG : XOk G) {ℓ : Loops} {n0 d : Nat} (hℓ : LoopsSem G n0 ℓ) {b : Code} {k ka : List (Nat × Option TypeId)} {S : St} {r : Ex × St} (h : (rT G ℓ n0 d b k ka S).eval = some r) : CodeSem G n0 b S r := by
  unfold rT at h
  rw [Tr.eval_bind] at h
  cases h1 : (lrun G ℓ n0 d b S).eval with
  | none => rw [h1] at h; cases h
  | some x =>
    obtain ⟨e, S1⟩ := x
    rw [h1] at h
    simp only [Option.bind_some, Tr.eval, Option.some.injEq] at h
    subst h
    have hs := lrun_sem hG hℓ d b S e S1 h1
    cases e with
    | normal => exact hs.canon G.T k
    | exit i => exact hs.canon G.T ka
    | ret => exact hs.canon G.T ka
theorem rounds_sem {G : Ctx2} {n0 : Nat} {b : Code} (st : Nat → St) {N : Nat} {e : Ex} {Se : St} (he : e ≠ .normal) (hN : CodeSem G n0 b (st N) (e, Se)) :
    ∀ (L i : Nat), i ≤ N → N < L + i → (∀ j, i ≤ j → j < N → CodeSem G n0 b (st j) (.normal, st (j + 1))) →
      ∀ (B : Nat) (m0 : List Pl) (h0 : AHeap) (w0 : World) (a : Act) (w : World), h0.length = n0 → m0.length = h0.length → RI B m0 h0 w0 (st i) a w →
        ∀ Q, (∀ a' w', RI B m0 h0 w0 Se a' w' → Q (toExit e) a' w') → Code.rounds G.P b Q L a w
  | 0, i, hi, hL, _ => by omega
  | L + 1, i, hi, hL, h => by
    intro B m0 h0 w0 a w hn H0 hI Q hQ
    rw [rounds_succ]
    rcases Nat.lt_or_ge i N with hlt | hge
    · refine h i (Nat.le_refl _) hlt B m0 h0 w0 a w hn H0 hI _ ?_
      intro a' w' hI'
      show Code.rounds G.P b Q L a' w'
      exact rounds_sem st he hN L (i + 1) (by omega) (by omega) (fun j hj hjN => h j (by omega) hjN) B m0 h0 w0 a' w' hn H0 hI' Q hQ
    · have : i = N := by omega
      subst this
      refine hN B m0 h0 w0 a w hn H0 hI _ ?_
      intro a' w' hI'
      cases e with
      | normal => exact absurd rfl he
      | exit id => exact hQ a' w' hI'
      | ret => exact hQ a' w' hI'
/-- A loop by its rounds. -/
theorem loop_sem {G : Ctx2} (hG : XOk G) {ℓ : Loops} {n0 d : Nat} (hℓ : LoopsSem G n0 ℓ) {b : Code} {k ka : List (Nat × Option TypeId)} (st : Nat → St) (N : Nat) {e : Ex} {Se : St} (he : e ≠ .normal)
    (hN : (rT G ℓ n0 d b k ka (st N)).eval = some (e, Se)) (hs : ∀ j, j < N → (rT G ℓ n0 d b k ka (st j)).eval = some (.normal, st (j + 1))) : CodeSem G n0 (.loop b) (st 0) (e, Se) := by
  intro B m0 h0 w0 a w hn H0 hI Q hQ
  exact wp_loop_rounds (N + 1) (rounds_sem st he (rT_sem hG hℓ hN) (N + 1) 0 (Nat.zero_le _) (by omega) (fun j _ hj => rT_sem hG hℓ (hs j hj)) B m0 h0 w0 a w hn H0 hI Q hQ)

theorem noLoopsS {G : Ctx2} {n0 : Nat} : LoopsSem G n0 (fun _ _ _ => .fail) := fun _ _ _ _ h => by cases h
noncomputable def nol : Loops := fun _ _ _ => .fail
/-- A loop told: its body, the state in which it begins, what it comes to. -/
noncomputable def tell (b0 : Code) (S0 : St) (r : Ex × St) : Loops := fun d b S => .need (yes (b = b0 ∧ S = S0)) (.ret r)
abbrev wasS (b0 : Code) (S0 : St) : Prop := b0 = b0 ∧ S0 = S0
theorem tell_ok {G : Ctx2} {n0 : Nat} {b0 : Code} {S0 : St} {r : Ex × St} (h : CodeSem G n0 (.loop b0) S0 r) : LoopsSem G n0 (tell b0 S0 r) := by
  intro d b S r' he
  obtain ⟨h1, h2⟩ := Tr.eval_need.1 he
  have : b = b0 ∧ S = S0 := by simpa [yes] using h1
  obtain ⟨rfl, rfl⟩ := this
  cases h2
  exact h
theorem byReg_sem {G : Ctx2} {n0 r : Nat} {a b : Loops} (ha : LoopsSem G n0 a) (hb : LoopsSem G n0 b) : LoopsSem G n0 (byReg r a b) := by
  intro d c S x h
  unfold byReg at h
  split at h
  · exact ha d c S x h
  · exact hb d c S x h
theorem rT_go {G : Ctx2} {ℓ : Loops} {n0 d : Nat} {b : Code} {k ka : List (Nat × Option TypeId)} {S : St} {ds cs : List Bool} {r : Ex × St} (h : (rT G ℓ n0 d b k ka S).go ds = some (cs, r)) (hc : AllT cs) : (rT G ℓ n0 d b k ka S).eval = some r := Tr.go_eval h hc

theorem lfun_spec {G : Ctx2} (hG : XOk G) {f : FuncId} {fn : Func} (hf : G.P.funcs[f]? = some fn) {F : Spec}
    (hF : ∀ args h r, (F args h).eval = some r → ∃ d ℓ, LoopsSem G h.length ℓ ∧ (lfun G ℓ d fn args h).eval = some r) : SpecOk G.P f F := by
  intro B args H r H' hF' m w vals hH hB hv
  obtain ⟨d, ℓ, hℓ, he⟩ := hF args H (r, H') hF'
  unfold lfun at he
  split at he
  · cases he
  · rename_i c hc
    refine calls_of_wp hf hc ?_
    rw [Tr.eval_bind] at he
    cases h1 : (lrun G ℓ H.length d c ⟨args ++ List.replicate (fn.ntmps - args.length) (.c .any), H⟩).eval with
    | none => simp [h1] at he
    | some rS =>
      obtain ⟨e, S⟩ := rS
      rw [h1] at he
      simp only [Option.bind_some] at he
      have hlen : args.length = vals.size := by simpa using hv.length
      have hI0 : RI B m H w ⟨args ++ List.replicate (fn.ntmps - args.length) (.c .any), H⟩ { tmps := vals ++ Array.replicate (fn.ntmps - vals.size) undef, defers := [] } w := by
        refine ⟨hB, ⟨m, Step.refl hH, ?_⟩, rfl⟩
        refine ⟨by simp [hlen], fun t v ht => ?_⟩
        rcases Nat.lt_or_ge t args.length with hl | hl
        · simp only at ht
          rw [List.getElem?_append_left hl] at ht
          obtain ⟨y, hy, hr⟩ := hv.get t v ht
          refine ⟨y, ?_, hr⟩
          rw [Array.getElem?_append_left (by rw [← hlen]; exact hl)]
          simpa using hy
        · simp only at ht
          rw [List.getElem?_append_right hl, List.getElem?_replicate] at ht
          split at ht
          · rename_i hlt
            cases ht
            refine ⟨undef, ?_, by simp [VR, CR]⟩
            rw [Array.getElem?_append_right (by rw [← hlen]; exact hl), Array.getElem?_replicate, if_pos (by rw [← hlen]; exact hlt)]
          · cases ht
      have fin : ∀ (e : Ex), ((resL G.T S fn.results.toList).bind fun l => (.ret (renAV (idxIn (closeOf S.h 10000 (refsOf S.h H.length ++ refAV (oneRes l)) (List.range H.length))) (oneRes l), subHeap S.h (closeOf S.h 10000 (refsOf S.h H.length ++ refAV (oneRes l)) (List.range H.length))) : Tr (AV × AHeap))).eval = some (r, H') →
          ∀ a' w', RI B m H w S a' w' → a'.defers = [] ∧ ∃ v, (results fn a'.tmps).run G.P w' = .ok v w' ∧ ∃ m' x, Ending.returned v = .returned x ∧ Step B m H w m' H' w' ∧ VR m' r x := by
        intro _ he a' w' hI
        obtain ⟨_, ⟨mf, hst, hs⟩, hd⟩ := hI
        refine ⟨hd, ?_⟩
        rw [Tr.eval_bind] at he
        cases h2 : (resL G.T S fn.results.toList).eval with
        | none => simp [h2] at he
        | some l =>
          rw [h2] at he
          simp only [Option.bind_some, Tr.eval, Option.some.injEq, Prod.mk.injEq] at he
          obtain ⟨rfl, rfl⟩ := he
          obtain ⟨vs, hr, hvs⟩ := resL_ok hG ⟨hB, ⟨mf, hst, hs⟩, hd⟩ hst hs _ l h2
          refine ⟨_, ?_, _, _, rfl, hst.sub hH.len, VR.ren (subPl_ren _) (oneRes_ok hvs)⟩
          rw [results_eq]
          simp only [Sem.run_bind, Array.mapM_eq_mapM_toList]
          have hmap : (List.toArray <$> (fn.results.toList.mapM (resRun a'.tmps))).run G.P w' = .ok vs.toArray w' := by
            rw [← bind_pure_comp, Sem.run_bind, hr]
            rfl
          rw [hmap]
          rfl
      have hfin := lrun_sem hG hℓ d c _ e S h1 B m H w _ w rfl hH.len hI0
      cases e with
      | normal => exact hfin _ fun a' w' hI => fin .normal he a' w' hI
      | exit id => cases he
      | ret => exact hfin _ fun a' w' hI => fin .ret he a' w' hI

/-- A spec of a function out of what its code comes to, its loops being told. -/
theorem knownS {K : Known} (hK : KnownOk K) {f : Nat} {fn : Func} (hf : Try.prog.funcs[f]? = some fn) {F : Spec}
    (h : ∀ args h r, (F args h).eval = some r → ∃ keep ts d ℓ, LoopsSem (GT K keep 0 ts) h.length ℓ ∧ (lfun (GT K keep 0 ts) ℓ d fn args h).eval = some r) : SpecOk Try.prog f F :=
  fun B args h' r H' he => by
    obtain ⟨keep, ts, d, ℓ, hℓ, he'⟩ := h _ _ _ he
    exact lfun_spec (F := fun a hh => .need (yes (a = args ∧ hh = h')) (.ret (r, H'))) (GT_ok hK keep 0 ts) hf (fun a hh r' hr => by
      obtain ⟨⟨e1, e2⟩, e3⟩ := (Tr.eval_ask (p := a = args ∧ hh = h') (t := .ret (r, H'))).1 hr
      subst e1 e2
      rw [Tr.eval_ret] at e3
      cases e3
      exact ⟨d, ℓ, hℓ, he'⟩) B args h' r H' (Tr.eval_ask.2 ⟨⟨rfl, rfl⟩, rfl⟩)

noncomputable def trueS (K : Known) (fn : Func) : Spec := fun args h => .need (yes (∃ keep ts d ℓ, LoopsSem (GT K keep 0 ts) h.length ℓ ∧ (lfun (GT K keep 0 ts) ℓ d fn args h).eval = some (Bo true, h))) (.ret (Bo true, h))
theorem trueS_ok {K : Known} (hK : KnownOk K) {f : Nat} {fn : Func} (hf : Try.prog.funcs[f]? = some fn) : SpecOk Try.prog f (trueS K fn) := by
  refine knownS hK hf fun args h r he => ?_
  obtain ⟨h1, he⟩ := Tr.eval_ask.1 he
  cases he
  exact h1
end Go.Proofs.Ytcpahifgdppkbaa.QAI
