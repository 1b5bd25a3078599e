/- Loops told by what their rounds show: what stands at a loop's end is forgotten but for some slots. -/
import Derived.Test.YtcpahifgdppkbaaQWireBack4
import Derived.Laws.Externs
import Derived.WalkKit
import Derived.BigCall
import Derived.BigGuard
import Derived.Test.YtcpahifgdppkbaaRows
import Derived.ProofKit
import Derived.KernelRfl
import Derived.OpenShut
import Derived.HandedShaped
set_option linter.unusedVariables false
set_option linter.unusedSimpArgs false
set_option maxRecDepth 100000
namespace Go.Proofs.Ytcpahifgdppkbaa.QAI
section
open Go Go.RowKit

/-- What a piece of code comes to, from a state on. -/
def CodeSem (G : Ctx2) (n0 : Nat) (c : Code) (S : St) (r : Ex × St) : Prop :=
  ∀ (B : Nat) (m0 : List Pl) (h0 : AHeap) (w0 : World) (a : Act) (w : World), h0.length = n0 → m0.length = h0.length → RI B m0 h0 w0 S a w →
    ∀ Q, (∀ a' w', RI B m0 h0 w0 r.2 a' w' → Q (toExit r.1) a' w') → c.wp G.P Q a w

def LoopsSem (G : Ctx2) (n0 : Nat) (ℓ : Loops) : Prop := ∀ d b S r, (ℓ d b S).eval = some r → CodeSem G n0 (.loop b) S r

theorem CodeSem.canon {G : Ctx2} {n0 : Nat} {c : Code} {S : St} {r : Ex × St} (T : List TI) (k : List (Nat × Option TypeId)) (h : CodeSem G n0 c S r) : CodeSem G n0 c S (r.1, canon T n0 k r.2) := by
  intro B m0 h0 w0 a w hn H0 hI Q hQ
  refine h B m0 h0 w0 a w hn H0 hI Q fun a' w' hI' => hQ a' w' ?_
  subst hn
  exact canon_ok H0 hI'

theorem lrun_sem {G : Ctx2} (hG : XOk G) {ℓ : Loops} {n0 : Nat} (hℓ : LoopsSem G n0 ℓ) : ∀ (d : Nat) (c : Code) (S : St) (e : Ex) (S' : St), (lrun G ℓ n0 d c S).eval = some (e, S') → CodeSem G n0 c S (e, S')
  | 0, c, S, e, S', he => by simp [lrun, Tr.eval] at he
  | d + 1, c, S, e, S', he => by
    have ih := lrun_sem hG hℓ d
    intro B m0 h0 w0 a w hn H0 hI Q hQ
    cases c with
    | skip =>
      simp only [lrun, Tr.eval, Option.some.injEq, Prod.mk.injEq] at he
      obtain ⟨rfl, rfl⟩ := he
      exact wp_skip (hQ a w hI)
    | region id ops draw =>
      simp only [lrun, Tr.eval_bind] at he
      cases draw with
      | false =>
        simp only [Bool.false_eq_true, if_false] at he
        cases h1 : (regSeq G ops ops.toList S).eval with
        | none => simp [h1] at he
        | some S1 =>
          rw [h1] at he
          simp only [Option.bind_some, Tr.eval, Option.some.injEq, Prod.mk.injEq] at he
          obtain ⟨rfl, rfl⟩ := he
          exact wp_region_list (regSeq_ok hG ops.toList S a w hI h1 hQ)
      | true =>
        simp only [if_true] at he
        cases h1 : (regDraw G ops S).eval with
        | none => simp [h1] at he
        | some S1 =>
          rw [h1] at he
          simp only [Option.bind_some, Tr.eval, Option.some.injEq, Prod.mk.injEq] at he
          obtain ⟨rfl, rfl⟩ := he
          exact regDraw_ok hG hI h1 Q hQ
    | seq x y =>
      simp only [lrun, Tr.eval_bind] at he
      cases h1 : (lrun G ℓ n0 d x S).eval with
      | none => simp [h1] at he
      | some r =>
        obtain ⟨e1, S1⟩ := r
        rw [h1] at he
        simp only [Option.bind_some] at he
        refine wp_seq (ih x S e1 S1 h1 B m0 h0 w0 a w hn H0 hI _ ?_)
        intro a' w' hI'
        cases e1 with
        | normal => exact ih y S1 e S' he B m0 h0 w0 a' w' hn H0 hI' Q hQ
        | exit id =>
          simp only [Tr.eval, Option.some.injEq, Prod.mk.injEq] at he
          obtain ⟨rfl, rfl⟩ := he
          exact hQ a' w' hI'
        | ret =>
          simp only [Tr.eval, Option.some.injEq, Prod.mk.injEq] at he
          obtain ⟨rfl, rfl⟩ := he
          exact hQ a' w' hI'
    | cond c x y =>
      simp only [lrun] at he
      split at he
      · rename_i t
        split at he
        · rename_i b hb
          rw [Tr.eval_ite] at he
          have hbv := hI.bool hb
          have hev : a.eval (.tmp t) = .bool b := by
            simp [Act.eval, Array.getD_eq_getD_getElem?, hbv]
          cases b with
          | true =>
            rw [if_pos rfl] at he
            exact wp_cond_true hev (ih x _ e S' he B m0 h0 w0 a w hn H0 (hI.lit hb) Q hQ)
          | false =>
            rw [if_neg (by simp)] at he
            exact wp_cond_false hev (ih y _ e S' he B m0 h0 w0 a w hn H0 (hI.lit hb) Q hQ)
        · cases he
      · cases he
    | block id x =>
      simp only [lrun, Tr.eval_bind] at he
      cases h1 : (lrun G ℓ n0 d x S).eval with
      | none => simp [h1] at he
      | some r =>
        obtain ⟨e1, S1⟩ := r
        rw [h1] at he
        simp only [Option.bind_some] at he
        refine wp_block (ih x S e1 S1 h1 B m0 h0 w0 a w hn H0 hI _ ?_)
        intro a' w' hI'
        cases e1 with
        | normal =>
          simp only [Tr.eval, Option.some.injEq, Prod.mk.injEq] at he
          obtain ⟨rfl, rfl⟩ := he
          exact hQ a' w' hI'
        | exit k =>
          simp only at he
          split at he
          · rename_i hk
            simp only [Tr.eval, Option.some.injEq, Prod.mk.injEq] at he
            obtain ⟨rfl, rfl⟩ := he
            show (if k = id then Q .normal a' w' else Q (.exit k) a' w')
            rw [if_pos hk]
            exact hQ a' w' hI'
          · rename_i hk
            simp only [Tr.eval, Option.some.injEq, Prod.mk.injEq] at he
            obtain ⟨rfl, rfl⟩ := he
            show (if k = id then Q .normal a' w' else Q (.exit k) a' w')
            rw [if_neg hk]
            exact hQ a' w' hI'
        | ret =>
          simp only [Tr.eval, Option.some.injEq, Prod.mk.injEq] at he
          obtain ⟨rfl, rfl⟩ := he
          exact hQ a' w' hI'
    | loop x =>
      simp only [lrun] at he
      refine hℓ d x _ (e, S') he B m0 h0 w0 a w hn H0 ?_ Q hQ
      subst hn
      exact canon_ok H0 hI
    | exit id =>
      simp only [lrun, Tr.eval, Option.some.injEq, Prod.mk.injEq] at he
      obtain ⟨rfl, rfl⟩ := he
      exact wp_exit (hQ a w hI)
    | ret =>
      simp only [lrun, Tr.eval, Option.some.injEq, Prod.mk.injEq] at he
      obtain ⟨rfl, rfl⟩ := he
      exact wp_ret (hQ a w hI)
    | rangeFunc _ _ _ _ => simp [lrun, Tr.eval] at he
    | scope _ => simp [lrun, Tr.eval] at he
    | label _ => simp [lrun, Tr.eval] at he
    | goto _ => simp [lrun, Tr.eval] at he
    | refuse _ => simp [lrun, Tr.eval] at he

/-- One round of a loop, as a tree: what it leaves is forgotten but for some slots, the same or others where the loop ends. -/
noncomputable def rT (G : Ctx2) (ℓ : Loops) (n0 d : Nat) (b : Code) (k ka : List (Nat × Option TypeId)) (S : St) : Tr (Ex × St) :=
  (lrun G ℓ n0 d b S).bind fun r => .ret (r.1, match r.1 with | .normal => canon G.T n0 k r.2 | _ => canon G.T n0 ka r.2)
theorem rT_sem {G : Ctx2} (hG : XOk G) {ℓ : Loops} {n0 d : Nat} (hℓ : LoopsSem G n0 ℓ) {b : Code} {k ka : List (Nat × Option TypeId)} {S : St} {r : Ex × St} (h : (rT G ℓ n0 d b k ka S).eval = some r) : CodeSem G n0 b S r := by
  unfold rT at h
  rw [Tr.eval_bind] at h
  cases h1 : (lrun G ℓ n0 d b S).eval with
  | none => rw [h1] at h; cases h
  | some x =>
    obtain ⟨e, S1⟩ := x
    rw [h1] at h
    simp only [Option.bind_some, Tr.eval, Option.some.injEq] at h
    subst h
    have hs := lrun_sem hG hℓ d b S e S1 h1
    cases e with
    | normal => exact hs.canon G.T k
    | exit i => exact hs.canon G.T ka
    | ret => exact hs.canon G.T ka
theorem rounds_sem {G : Ctx2} {n0 : Nat} {b : Code} (st : Nat → St) {N : Nat} {e : Ex} {Se : St} (he : e ≠ .normal) (hN : CodeSem G n0 b (st N) (e, Se)) :
    ∀ (L i : Nat), i ≤ N → N < L + i → (∀ j, i ≤ j → j < N → CodeSem G n0 b (st j) (.normal, st (j + 1))) →
      ∀ (B : Nat) (m0 : List Pl) (h0 : AHeap) (w0 : World) (a : Act) (w : World), h0.length = n0 → m0.length = h0.length → RI B m0 h0 w0 (st i) a w →
        ∀ Q, (∀ a' w', RI B m0 h0 w0 Se a' w' → Q (toExit e) a' w') → Code.rounds G.P b Q L a w
  | 0, i, hi, hL, _ => by omega
  | L + 1, i, hi, hL, h => by
    intro B m0 h0 w0 a w hn H0 hI Q hQ
    rw [rounds_succ]
    rcases Nat.lt_or_ge i N with hlt | hge
    · refine h i (Nat.le_refl _) hlt B m0 h0 w0 a w hn H0 hI _ ?_
      intro a' w' hI'
      show Code.rounds G.P b Q L a' w'
      exact rounds_sem st he hN L (i + 1) (by omega) (by omega) (fun j hj hjN => h j (by omega) hjN) B m0 h0 w0 a' w' hn H0 hI' Q hQ
    · have : i = N := by omega
      subst this
      refine hN B m0 h0 w0 a w hn H0 hI _ ?_
      intro a' w' hI'
      cases e with
      | normal => exact absurd rfl he
      | exit id => exact hQ a' w' hI'
      | ret => exact hQ a' w' hI'
/-- A loop by its rounds. -/
theorem loop_sem {G : Ctx2} (hG : XOk G) {ℓ : Loops} {n0 d : Nat} (hℓ : LoopsSem G n0 ℓ) {b : Code} {k ka : List (Nat × Option TypeId)} (st : Nat → St) (N : Nat) {e : Ex} {Se : St} (he : e ≠ .normal)
    (hN : (rT G ℓ n0 d b k ka (st N)).eval = some (e, Se)) (hs : ∀ j, j < N → (rT G ℓ n0 d b k ka (st j)).eval = some (.normal, st (j + 1))) : CodeSem G n0 (.loop b) (st 0) (e, Se) := by
  intro B m0 h0 w0 a w hn H0 hI Q hQ
  exact wp_loop_rounds (N + 1) (rounds_sem st he (rT_sem hG hℓ hN) (N + 1) 0 (Nat.zero_le _) (by omega) (fun j _ hj => rT_sem hG hℓ (hs j hj)) B m0 h0 w0 a w hn H0 hI Q hQ)

theorem loop_of {G : Ctx2} {n0 : Nat} {b : Code} (st : Nat → St) (N : Nat) {e : Ex} {Se : St} (he : e ≠ .normal) (hN : CodeSem G n0 b (st N) (e, Se)) (hs : ∀ j, j < N → CodeSem G n0 b (st j) (.normal, st (j + 1))) : CodeSem G n0 (.loop b) (st 0) (e, Se) := by
  intro B m0 h0 w0 a w hn H0 hI Q hQ
  exact wp_loop_rounds (N + 1) (rounds_sem st he hN (N + 1) 0 (Nat.zero_le _) (by omega) (fun j _ hj => hs j hj) B m0 h0 w0 a w hn H0 hI Q hQ)

theorem noLoopsS {G : Ctx2} {n0 : Nat} : LoopsSem G n0 (fun _ _ _ => .fail) := fun _ _ _ _ h => by cases h
noncomputable def nol : Loops := fun _ _ _ => .fail
/-- A loop told: its body, the state in which it begins, what it comes to. -/
noncomputable def tell (b0 : Code) (S0 : St) (r : Ex × St) : Loops := fun d b S => .need (yes (b = b0 ∧ S = S0)) (.ret r)
abbrev wasS (b0 : Code) (S0 : St) : Prop := b0 = b0 ∧ S0 = S0
theorem tell_ok {G : Ctx2} {n0 : Nat} {b0 : Code} {S0 : St} {r : Ex × St} (h : CodeSem G n0 (.loop b0) S0 r) : LoopsSem G n0 (tell b0 S0 r) := by
  intro d b S r' he
  obtain ⟨h1, h2⟩ := Tr.eval_need.1 he
  have : b = b0 ∧ S = S0 := by simpa [yes] using h1
  obtain ⟨rfl, rfl⟩ := this
  cases h2
  exact h
theorem byReg_sem {G : Ctx2} {n0 r : Nat} {a b : Loops} (ha : LoopsSem G n0 a) (hb : LoopsSem G n0 b) : LoopsSem G n0 (byReg r a b) := by
  intro d c S x h
  unfold byReg at h
  split at h
  · exact ha d c S x h
  · exact hb d c S x h
theorem rT_go {G : Ctx2} {ℓ : Loops} {n0 d : Nat} {b : Code} {k ka : List (Nat × Option TypeId)} {S : St} {ds cs : List Bool} {r : Ex × St} (h : (rT G ℓ n0 d b k ka S).go ds = some (cs, r)) (hc : AllT cs) : (rT G ℓ n0 d b k ka S).eval = some r := Tr.go_eval h hc

theorem lfun_spec {G : Ctx2} (hG : XOk G) {f : FuncId} {fn : Func} (hf : G.P.funcs[f]? = some fn) {F : Spec}
    (hF : ∀ args h r, (F args h).eval = some r → ∃ d ℓ, LoopsSem G h.length ℓ ∧ (lfun G ℓ d fn args h).eval = some r) : SpecOk G.P f F := by
  intro B args H r H' hF' m w vals hH hB hv
  obtain ⟨d, ℓ, hℓ, he⟩ := hF args H (r, H') hF'
  unfold lfun at he
  split at he
  · cases he
  · rename_i c hc
    refine calls_of_wp hf hc ?_
    rw [Tr.eval_bind] at he
    cases h1 : (lrun G ℓ H.length d c ⟨args ++ List.replicate (fn.ntmps - args.length) (.c .any), H⟩).eval with
    | none => simp [h1] at he
    | some rS =>
      obtain ⟨e, S⟩ := rS
      rw [h1] at he
      simp only [Option.bind_some] at he
      have hlen : args.length = vals.size := by simpa using hv.length
      have hI0 : RI B m H w ⟨args ++ List.replicate (fn.ntmps - args.length) (.c .any), H⟩ { tmps := vals ++ Array.replicate (fn.ntmps - vals.size) undef, defers := [] } w := by
        refine ⟨hB, ⟨m, Step.refl hH, ?_⟩, rfl⟩
        refine ⟨by simp [hlen], fun t v ht => ?_⟩
        rcases Nat.lt_or_ge t args.length with hl | hl
        · simp only at ht
          rw [List.getElem?_append_left hl] at ht
          obtain ⟨y, hy, hr⟩ := hv.get t v ht
          refine ⟨y, ?_, hr⟩
          rw [Array.getElem?_append_left (by rw [← hlen]; exact hl)]
          simpa using hy
        · simp only at ht
          rw [List.getElem?_append_right hl, List.getElem?_replicate] at ht
          split at ht
          · rename_i hlt
            cases ht
            refine ⟨undef, ?_, by simp [VR, CR]⟩
            rw [Array.getElem?_append_right (by rw [← hlen]; exact hl), Array.getElem?_replicate, if_pos (by rw [← hlen]; exact hlt)]
          · cases ht
      have fin : ∀ (e : Ex), ((resL G.T S fn.results.toList).bind fun l => (.ret (renAV (idxIn (closeOf S.h 10000 (refsOf S.h H.length ++ refAV (oneRes l)) (List.range H.length))) (oneRes l), subHeap S.h (closeOf S.h 10000 (refsOf S.h H.length ++ refAV (oneRes l)) (List.range H.length))) : Tr (AV × AHeap))).eval = some (r, H') →
          ∀ a' w', RI B m H w S a' w' → a'.defers = [] ∧ ∃ v, (results fn a'.tmps).run G.P w' = .ok v w' ∧ ∃ m' x, Ending.returned v = .returned x ∧ Step B m H w m' H' w' ∧ VR m' r x := by
        intro _ he a' w' hI
        obtain ⟨_, ⟨mf, hst, hs⟩, hd⟩ := hI
        refine ⟨hd, ?_⟩
        rw [Tr.eval_bind] at he
        cases h2 : (resL G.T S fn.results.toList).eval with
        | none => simp [h2] at he
        | some l =>
          rw [h2] at he
          simp only [Option.bind_some, Tr.eval, Option.some.injEq, Prod.mk.injEq] at he
          obtain ⟨rfl, rfl⟩ := he
          obtain ⟨vs, hr, hvs⟩ := resL_ok hG ⟨hB, ⟨mf, hst, hs⟩, hd⟩ hst hs _ l h2
          refine ⟨_, ?_, _, _, rfl, hst.sub hH.len, VR.ren (subPl_ren _) (oneRes_ok hvs)⟩
          rw [results_eq]
          simp only [Sem.run_bind, Array.mapM_eq_mapM_toList]
          have hmap : (List.toArray <$> (fn.results.toList.mapM (resRun a'.tmps))).run G.P w' = .ok vs.toArray w' := by
            rw [← bind_pure_comp, Sem.run_bind, hr]
            rfl
          rw [hmap]
          rfl
      have hfin := lrun_sem hG hℓ d c _ e S h1 B m H w _ w rfl hH.len hI0
      cases e with
      | normal => exact hfin _ fun a' w' hI => fin .normal he a' w' hI
      | exit id => cases he
      | ret => exact hfin _ fun a' w' hI => fin .ret he a' w' hI

/-- A spec of a function out of what its code comes to, its loops being told. -/
theorem knownS {K : Known} (hK : KnownOk K) {f : Nat} {fn : Func} (hf : Try.prog.funcs[f]? = some fn) {F : Spec}
    (h : ∀ args h r, (F args h).eval = some r → ∃ keep ts d ℓ, LoopsSem (GT K keep 0 ts) h.length ℓ ∧ (lfun (GT K keep 0 ts) ℓ d fn args h).eval = some r) : SpecOk Try.prog f F :=
  fun B args h' r H' he => by
    obtain ⟨keep, ts, d, ℓ, hℓ, he'⟩ := h _ _ _ he
    exact lfun_spec (F := fun a hh => .need (yes (a = args ∧ hh = h')) (.ret (r, H'))) (GT_ok hK keep 0 ts) hf (fun a hh r' hr => by
      obtain ⟨⟨e1, e2⟩, e3⟩ := (Tr.eval_ask (p := a = args ∧ hh = h') (t := .ret (r, H'))).1 hr
      subst e1 e2
      rw [Tr.eval_ret] at e3
      cases e3
      exact ⟨d, ℓ, hℓ, he'⟩) B args h' r H' (Tr.eval_ask.2 ⟨⟨rfl, rfl⟩, rfl⟩)

noncomputable def trueS (K : Known) (fn : Func) : Spec := fun args h => .need (yes (∃ keep ts d ℓ, LoopsSem (GT K keep 0 ts) h.length ℓ ∧ (lfun (GT K keep 0 ts) ℓ d fn args h).eval = some (Bo true, h))) (.ret (Bo true, h))
theorem trueS_ok {K : Known} (hK : KnownOk K) {f : Nat} {fn : Func} (hf : Try.prog.funcs[f]? = some fn) : SpecOk Try.prog f (trueS K fn) := by
  refine knownS hK hf fun args h r he => ?_
  obtain ⟨h1, he⟩ := Tr.eval_ask.1 he
  cases he
  exact h1
end
section
open Go Go.RowKit
theorem ntmps169 : Try.f169.ntmps = 8 := rfl
theorem ix_calls (s : ByteArray) (c : Int) (w : World) :
    Calls Try.prog 169 #[.string s, .int .u8 c] w fun e w' => e = .returned (.int .i64 (firstIdx s c.toNat.toUInt8)) ∧ w' = w := by
  go_enter Try.func169, ntmps169
  go_wp2
  rw [run_callFunc_extern Try.func175 (by kernel_rfl) (by kernel_rfl) (by kernel_rfl) (e := Extern.BytealgIndexByte.indexByte) (by kernel_rfl), run_indexByte_string]
  simp only [Result.andThen]
  rw [Oper.upon_value]
  go_wp2
  go_ret
  exact ⟨rfl, rfl⟩
noncomputable def ixF : Spec := fun args h => match args with
  | [.c (.v (.string s)), .c (.v (.int .u8 c))] => .ret (I64 (firstIdx s c.toNat.toUInt8), h)
  | _ => .fail
theorem ixF_ok : SpecOk Try.prog 169 ixF := by
  intro B args H r H' he m w vals hH hB hv
  unfold ixF at he
  split at he
  · rename_i s c
    simp only [Tr.eval, Option.some.injEq, Prod.mk.injEq] at he
    obtain ⟨rfl, rfl⟩ := he
    have e : vals = #[.string s, .int .u8 c] := by
      have hl := hv.length
      match vals, hl, hv with
      | ⟨[a, b]⟩, _, hv =>
        simp only [VRs, VR, CR] at hv
        obtain ⟨rfl, rfl, _⟩ := hv
        rfl
    subst e
    refine (ix_calls s c w).mono fun e w' h => ?_
    obtain ⟨rfl, rfl⟩ := h
    exact ⟨m, _, rfl, Step.refl hH, rfl⟩
  · cases he
noncomputable def KI : Known := [(169, ixF)]
theorem consK {K : Known} {f : Nat} {F : Spec} (h1 : SpecOk Try.prog f F) (h2 : nameOk Try.prog f = true) (h : KnownOk K) : KnownOk ((f, F) :: K) := by
  intro g G hg
  rcases List.mem_cons.1 hg with hg | hg
  · cases hg
    exact ⟨h1, h2⟩
  · exact h g G hg
theorem nilK : KnownOk [] := fun _ _ h => by cases h
theorem KI_ok : KnownOk KI := consK ixF_ok (by kernel_rfl) nilK
theorem white_ix (c : Int) (h0 : 0 ≤ c) (h1 : c < 256) : (decide (firstIdx ⟨#[32, 9, 10, 13]⟩ c.toNat.toUInt8 < 0)) = !(c == 32 || c == 9 || c == 10 || c == 13) := by
  obtain ⟨n, rfl⟩ := Int.eq_ofNat_of_zero_le h0
  have hn : n < 256 := by omega
  have key : ∀ m, m < 256 → (decide (firstIdx ⟨#[32, 9, 10, 13]⟩ ((m : Nat) : Int).toNat.toUInt8 < 0)) = !(((m : Nat) : Int) == 32 || ((m : Nat) : Int) == 9 || ((m : Nat) : Int) == 10 || ((m : Nat) : Int) == 13) := by
    decide +kernel
  exact key n hn
end
section
open Go Go.RowKit
def v1 (x : Int) : List Value := [.int .i64 x]
def rowA (a : Nat → Int) : Option ABlk := some ⟨35, true, .row 1 256 fun k => v1 (a k)⟩
def aA (a : Nat → Int) : AV := .arr 256 fun k => .int .i64 (a k)
theorem gKnil : KnownOk [] := fun _ _ h => by cases h
theorem gKcons {K : Known} {f : Nat} {F : Spec} (h1 : SpecOk Try.prog f F) (h2 : nameOk Try.prog f = true) (h : KnownOk K) : KnownOk ((f, F) :: K) := by
  intro g G hg
  rcases List.mem_cons.1 hg with hg | hg
  · cases hg
    exact ⟨h1, h2⟩
  · exact h g G hg
/- Brought near, not small. -/
noncomputable def tmG (L : Nat) : Ctx2 := GK [] (fun k => if k = 2 then [(1,none),(2,none),(4,none),(5,none)] else []) L
def tmS (a : Nat → Int) (small : Bool) (i : Int) : St := ⟨slots 55 [(1, Bo small), (2, .c (.ptr 0 0 0)), (4, .c (.ptr 1 0 0)), (5, I64 i)], [rowA a, rowA fun _ => 0]⟩
def tmE (a : Nat → Int) (small : Bool) (i : Int) : St := ⟨slots 55 [(1, Bo small), (2, .c (.ptr 0 0 0)), (4, .c (.ptr 1 0 0)), (5, I64 i), (6, I64 i), (7, Bo false)], [rowA a, rowA fun _ => 0]⟩
def tu (x : Int) : Int := w64 ((u64 x).tmod 65537)
def tmR (a : Nat → Int) (i : Nat) : Nat → List Value := updC (fun k => v1 (a k)) i (splice (v1 (a i)) 0 [.int .i64 (tu (a i))])
theorem tm_rnd {L : Nat} {a : Nat → Int} {i : Int} : rnd (arun (tmG L) 0 55 (bodyOf Try.f46 0)) (canon (tmG L).T 0 ((tmG L).keep 2)) (tmS a false i) =
  bif decide (i < 256) then bif decide (0 ≤ i) then bif decide (i < 256) then bif decide (i.toNat < 256) then bif decide (0 ≤ i) then bif decide (i < 256) then bif decide (i.toNat < 256) then
    some ⟨slots 55 [(1, Bo false), (2, .c (.ptr 0 0 0)), (4, .c (.ptr 1 0 0)), (5, I64 (w64 (i + 1)))], [some ⟨35, true, .row 1 256 (tmR a i.toNat)⟩, rowA fun _ => 0]⟩
  else none else none else none else none else none else none else none := by kernel_rfl
theorem tm_rndX {L : Nat} {a : Nat → Int} {i : Int} : rndX (arun (tmG L) 0 55 (bodyOf Try.f46 0)) (tmS a false i) =
  bif decide (i < 256) then bif decide (0 ≤ i) then bif decide (i < 256) then bif decide (i.toNat < 256) then bif decide (0 ≤ i) then bif decide (i < 256) then bif decide (i.toNat < 256) then none
  else none else none else none else none else none else none else some (.exit 0, tmE a false i) := by kernel_rfl
theorem updC_at (f : Nat → List Value) (n : Nat) (x : List Value) (k : Nat) : updC f n x k = if k = n then x else f k := by
  unfold updC
  rw [selL_eq]
  by_cases h : k = n <;> simp [h]
def ta (a : Nat → Int) (i : Nat) : Nat → Int := fun j => if j < i then tu (a j) else a j
theorem tmR_eq (a : Nat → Int) (i : Nat) : tmR (ta a i) i = fun j => v1 (ta a (i + 1) j) := by
  funext j
  unfold tmR
  rw [updC_at]
  by_cases h : j = i
  · subst h
    simp only [if_true, ta, Nat.lt_irrefl, if_false, Nat.lt_succ_self]
    rfl
  · simp only [h, if_false, ta]
    by_cases h2 : j < i
    · have : j < i + 1 := by omega
      simp [h2, this]
    · have : ¬ j < i + 1 := by omega
      simp [h2, this]
theorem tm_loop {L : Nat} {a : Nat → Int} (hL : 256 < L) :
    (iter (arun (tmG L) 0 55 (bodyOf Try.f46 0)) (canon (tmG L).T 0 ((tmG L).keep 2)) L (tmS (ta a 0) false 0)).eval = some (.exit 0, tmE (ta a 256) false 256) := by
  refine iter_upto (fun i => tmS (ta a i) false i) (N := 256) (by simp) ?_ L 0 (Nat.zero_le _) (by omega) ?_
  · refine rndX_ok ?_
    rw [tm_rndX]
    have h1 : ¬ (((256 : Nat) : Int) < 256) := by omega
    simp only [h1, decide_false, cond_false]
    rfl
  · intro j _ hj
    refine rnd_ok ?_
    rw [tm_rnd]
    have h1 : (j : Int) < 256 := by omega
    have h3 : w64 ((j : Int) + 1) = ((j + 1 : Nat) : Int) := by rw [w64_id (by omega) (by omega)]; omega
    have h5 : decide ((0 : Int) ≤ (j : Int)) = true := by simp
    simp only [h1, h3, h5, hj, decide_true, cond_true, Int.toNat_natCast, tmR_eq]
    rfl
theorem tm_whole {L : Nat} {a : Nat → Int} :
    (lfun (tmG L) (told 55 (bodyOf Try.f46 0) (tmS (ta a 0) false 0) (.exit 0, tmE (ta a 256) false 256)) 60 Try.f46 [aA a, Bo false] []).eval =
      bif yes (was 55 (bodyOf Try.f46 0) (tmS (ta a 0) false 0)) then some (aA (ta a 256), []) else none := by kernel_rfl
def dv : Value → Int
  | .int _ a => a
  | _ => 0
noncomputable def tmF : Spec := fun args h => match args, h with
  | [.arr 256 f, .c (.v (.bool false))], [] => .need (yes (f = fun k => .int .i64 (dv (f k)))) (.ret (aA (ta (fun k => dv (f k)) 256), []))
  | _, _ => .fail
theorem tmF_ok : SpecOk Try.prog 46 tmF := by
  refine known' gKnil Try.func46 fun args h r he => ?_
  unfold tmF at he
  split at he
  · rename_i f
    obtain ⟨h1, he⟩ := Tr.eval_ask.1 he
    cases he
    have hl : LoopsOk (tmG 257) 0 _ := told_ok (tm_loop (L := 257) (a := fun k => dv (f k)) (by decide))
    have hw := tm_whole (L := 257) (a := fun k => dv (f k))
    rw [yes_of ⟨rfl, rfl, rfl⟩] at hw
    have hf := lfun_ok (h := []) hl hw
    rw [aA, ← h1] at hf
    exact ⟨_, _, _, hf⟩
  · cases he

/- Wide. -/
noncomputable def sGOf : Spec := afun (GK [] (fun _ => []) 0) 60 Try.f114
noncomputable def KG0 : Known := [(114, sGOf)]
theorem KG0_ok : KnownOk KG0 := gKcons (known0 gKnil 60 Try.func114) (by kernel_rfl) gKnil
noncomputable def wdG (L : Nat) : Ctx2 := GK KG0 (fun k => if k = 3 then [(1,none),(2,none),(5,none),(8,none),(9,none)] else []) L
def wdS (a : Nat → Int) (s : ByteArray) (out i : Int) : St := ⟨slots 20 [(1, .c (.v (.string s))), (2, .c (.ptr 0 0 0)), (5, I64 out), (8, I64 s.size), (9, I64 i)], [rowA a]⟩
def wdE (a : Nat → Int) (s : ByteArray) (out i : Int) : St := ⟨slots 20 [(1, .c (.v (.string s))), (2, .c (.ptr 0 0 0)), (5, I64 out), (8, I64 s.size), (9, I64 i), (10, Bo false)], [rowA a]⟩
def cl (x : Int) : Int := mnI 65536 (mxI 0 x)
theorem wd_rnd {L : Nat} {a : Nat → Int} {s : ByteArray} {out i : Int} : rnd (arun (wdG L) 0 54 (bodyOf Try.f47 0)) (canon (wdG L).T 0 ((wdG L).keep 3)) (wdS a s out i) =
  bif decide (i < s.size) then bif decide (0 ≤ i) then bif decide (i < s.size) then bif decide (bt s i < 256) then bif decide ((bt s i).toNat < 256) then
    some (wdS a s (w64 (out + cl (a (bt s i).toNat))) (w64 (i + 1)))
  else none else none else none else none else none := by kernel_rfl
theorem wd_rndX {L : Nat} {a : Nat → Int} {s : ByteArray} {out i : Int} : rndX (arun (wdG L) 0 54 (bodyOf Try.f47 0)) (wdS a s out i) =
  bif decide (i < s.size) then bif decide (0 ≤ i) then bif decide (i < s.size) then bif decide (bt s i < 256) then bif decide ((bt s i).toNat < 256) then none
  else none else none else none else none else some (.exit 0, wdE a s out i) := by kernel_rfl
/-- The width of bytes. -/
def cs (a : Nat → Int) (l : List UInt8) : Int := (l.map fun b => cl (a b.toNat)).sum
theorem cl_b (x : Int) : 0 ≤ cl x ∧ cl x ≤ 65536 := by unfold cl mnI mxI; split <;> (try split) <;> (try split) <;> omega
theorem cs_b (a : Nat → Int) : ∀ l : List UInt8, 0 ≤ cs a l ∧ cs a l ≤ l.length * 65536
  | [] => ⟨Int.le_refl _, by simp [cs]⟩
  | b :: l => by
    have := cs_b a l
    have h := cl_b (a b.toNat)
    have e : cs a (b :: l) = cl (a b.toNat) + cs a l := by simp [cs]
    rw [e, List.length_cons]
    omega
theorem cs_append (a : Nat → Int) (l k : List UInt8) : cs a (l ++ k) = cs a l + cs a k := by simp [cs]
theorem cs_one (a : Nat → Int) (b : UInt8) : cs a [b] = cl (a b.toNat) := by simp [cs]
theorem bt_at (s : ByteArray) {j : Nat} (hj : j < s.data.toList.length) : bt s j = ((s.data.toList[j].toNat : Nat) : Int) := by
  unfold bt
  rw [Int.toNat_natCast, List.getD_eq_getElem?_getD, List.getElem?_eq_getElem hj]
  rfl
theorem size_len (s : ByteArray) : s.data.toList.length = s.size := Array.length_toList
theorem wd_loop {L : Nat} {a : Nat → Int} {s : ByteArray} (hs : s.size ≤ 2 ^ 40) (hL : s.size < L) :
    (iter (arun (wdG L) 0 54 (bodyOf Try.f47 0)) (canon (wdG L).T 0 ((wdG L).keep 3)) L (wdS a s 0 0)).eval = some (.exit 0, wdE a s (cs a s.data.toList) s.size) := by
  refine iter_upto (fun i => wdS a s (cs a (s.data.toList.take i)) i) (N := s.size) (by simp) ?_ L 0 (Nat.zero_le _) (by omega) ?_
  · refine rndX_ok ?_
    rw [wd_rndX]
    have e : s.data.toList.take s.size = s.data.toList := by rw [← size_len, List.take_length]
    simp [e]
  · intro j _ hj
    refine rnd_ok ?_
    rw [wd_rnd]
    have h1 : (j : Int) < s.size := by omega
    have h3 : w64 ((j : Int) + 1) = ((j + 1 : Nat) : Int) := by rw [w64_id (by omega) (by omega)]; omega
    have h5 : decide ((0 : Int) ≤ (j : Int)) = true := by simp
    have hjl : j < s.data.toList.length := by rw [size_len]; exact hj
    have hb := bt_at s hjl
    have hlt : s.data.toList[j].toNat < 256 := UInt8.toNat_lt _
    have h6 : bt s j < 256 := by rw [hb]; omega
    have h7 : (bt s j).toNat < 256 := by rw [hb]; omega
    have h8 : w64 (cs a (s.data.toList.take j) + cl (a (bt s j).toNat)) = cs a (s.data.toList.take (j + 1)) := by
      have hc := cs_b a (s.data.toList.take j)
      have hcl := cl_b (a (bt s j).toNat)
      have hlen : (s.data.toList.take j).length ≤ j := by simp; omega
      rw [List.take_add_one, List.getElem?_eq_getElem hjl, Option.toList_some, cs_append, cs_one]
      have e : (bt s j).toNat = s.data.toList[j].toNat := by rw [hb]; omega
      rw [e] at hcl ⊢
      exact w64_id (by omega) (by omega)
    simp only [h1, h3, h5, h6, h7, h8, decide_true, cond_true]
theorem wd_whole {L : Nat} {a : Nat → Int} {s : ByteArray} {w : Int} :
    (lfun (wdG L) (told 54 (bodyOf Try.f47 0) (wdS a s 0 0) (.exit 0, wdE a s w s.size)) 60 Try.f47 [aA a, .c (.v (.string s))] []).eval =
      bif yes (was 54 (bodyOf Try.f47 0) (wdS a s 0 0)) then some (I64 w, []) else none := by kernel_rfl
noncomputable def wdF (d : Spec) : Spec := fun args h => match args, h with
  | [.arr 256 f, .c (.v (.string s))], [] => .need (yes (s.size ≤ 2 ^ 40 ∧ f = fun k => .int .i64 (dv (f k)))) (.ret (I64 (cs (fun k => dv (f k)) s.data.toList), []))
  | args, h => d args h
theorem wdF_ok : SpecOk Try.prog 47 (wdF fun _ _ => .fail) := by
  refine known' KG0_ok Try.func47 fun args h r he => ?_
  unfold wdF at he
  split at he
  · rename_i f s
    obtain ⟨⟨h0, h1⟩, he⟩ := Tr.eval_ask.1 he
    cases he
    have hl : LoopsOk (wdG (s.size + 1)) 0 _ := told_ok (wd_loop (a := fun k => dv (f k)) h0 (Nat.lt_succ_self _))
    have hw := wd_whole (L := s.size + 1) (a := fun k => dv (f k)) (s := s) (w := cs (fun k => dv (f k)) s.data.toList)
    rw [yes_of ⟨rfl, rfl, rfl⟩] at hw
    have hf := lfun_ok (h := []) hl hw
    rw [aA, ← h1] at hf
    exact ⟨_, _, _, hf⟩
  · cases he

/- awake. -/
noncomputable def KG1 : Known := [(47, afun (wdG 10) 60 Try.f47), (48, afun (GK [] (fun k => if k = 2 then [(6,none),(7,none)] else []) 300) 60 Try.f48), (51, afun (GK [] (fun _ => []) 0) 60 Try.f51)]
theorem KG1_ok : KnownOk KG1 := gKcons (known' KG0_ok Try.func47 fun _ _ _ h => ⟨_, _, _, h⟩) (by kernel_rfl) (gKcons (known' gKnil Try.func48 fun _ _ _ h => ⟨_, _, _, h⟩) (by kernel_rfl) (gKcons (known0 gKnil 60 Try.func51) (by kernel_rfl) gKnil))
noncomputable def sAwakeG : Spec := fun args h => match args, h with
  | [], [] => .ret (Bo true, [])
  | _, _ => .fail
end
section
open Go Go.RowKit
def Mt (a : Nat → Int) : Int → Int := fun c => cl (a c.toNat)
abbrev U8 (c : Int) : AV := .c (.v (.int .u8 c))
noncomputable def KY : Known := [(166, afun (GK KI (fun _ => []) 0) 60 Try.f166), (114, sGOf)]
theorem KY_ok : KnownOk KY := consK (known0 KI_ok 60 Try.func166) (by kernel_rfl) (consK (known0 nilK 60 Try.func114) (by kernel_rfl) nilK)
noncomputable def gyG : Ctx2 := GT KY (fun _ => []) 0 []
noncomputable def KA1 : Known := [(150, afun (GK [] (fun _ => []) 0) 60 Try.f150)]
theorem KA1_ok : KnownOk KA1 := consK (known0 nilK 60 Try.func150) (by kernel_rfl) nilK
noncomputable def adG : Ctx2 := GT KA1 (fun _ => []) 0 []
noncomputable def niG : Ctx2 := GT [] (fun _ => []) 0 []
theorem gy_nf {a : Nat → Int} {v c : Int} : (lfun gyG nol 60 Try.f156 [.c (.ptr 0 0 0), I64 v, U8 c] [rowA a]).eval = bif v == (2 : Int) then bif c == (10 : Int) then some (.tup [I64 4, I64 0], [some ⟨35, true, .row 1 256 fun k => [.int .i64 (a k)]⟩]) else bif v == (2 : Int) then bif decide ((0 : Int) ≤ c) then bif decide (c < ↑(256 : Nat)) then bif decide (c.toNat < 256) then some (.tup [I64 1, I64 (mnI (65536 : Int) (mxI (0 : Int) (a c.toNat)))], [some ⟨35, true, .row 1 256 fun k => [.int .i64 (a k)]⟩]) else none else none else none else bif decide (firstIdx { data := #[32, 9, 10, 13] } c.toNat.toUInt8 < (0 : Int)) then bif decide ((0 : Int) ≤ c) then bif decide (c < ↑(256 : Nat)) then bif decide (c.toNat < 256) then some (.tup [I64 1, I64 (mnI (65536 : Int) (mxI (0 : Int) (a c.toNat)))], [some ⟨35, true, .row 1 256 fun k => [.int .i64 (a k)]⟩]) else none else none else none else bif v == (1 : Int) then some (.tup [I64 3, I64 (mnI (65536 : Int) (mxI (0 : Int) (a 32)))], [some ⟨35, true, .row 1 256 fun k => [.int .i64 (a k)]⟩]) else some (.tup [I64 2, I64 (mnI (65536 : Int) (mxI (0 : Int) (a 32)))], [some ⟨35, true, .row 1 256 fun k => [.int .i64 (a k)]⟩]) else bif v == (2 : Int) then bif decide ((0 : Int) ≤ c) then bif decide (c < ↑(256 : Nat)) then bif decide (c.toNat < 256) then some (.tup [I64 1, I64 (mnI (65536 : Int) (mxI (0 : Int) (a c.toNat)))], [some ⟨35, true, .row 1 256 fun k => [.int .i64 (a k)]⟩]) else none else none else none else bif decide (firstIdx { data := #[32, 9, 10, 13] } c.toNat.toUInt8 < (0 : Int)) then bif decide ((0 : Int) ≤ c) then bif decide (c < ↑(256 : Nat)) then bif decide (c.toNat < 256) then some (.tup [I64 1, I64 (mnI (65536 : Int) (mxI (0 : Int) (a c.toNat)))], [some ⟨35, true, .row 1 256 fun k => [.int .i64 (a k)]⟩]) else none else none else none else bif v == (1 : Int) then some (.tup [I64 3, I64 (mnI (65536 : Int) (mxI (0 : Int) (a 32)))], [some ⟨35, true, .row 1 256 fun k => [.int .i64 (a k)]⟩]) else some (.tup [I64 2, I64 (mnI (65536 : Int) (mxI (0 : Int) (a 32)))], [some ⟨35, true, .row 1 256 fun k => [.int .i64 (a k)]⟩]) := by kernel_rfl
theorem bk_nf {k r a w : Int} : (lfun niG nol 60 Try.f124 [.agg [i64 k, i64 r, i64 a, i64 w]] []).eval = bif k == (2 : Int) then some (Bo true, []) else some (Bo (k == (3 : Int)), []) := by kernel_rfl
theorem bk2_nf {k r a w : Int} : (lfun niG nol 60 Try.f126 [.agg [i64 k, i64 r, i64 a, i64 w]] []).eval = bif k == (2 : Int) then some (Bo true, []) else some (Bo (k == (3 : Int)), []) := by kernel_rfl
theorem wh_nf {c : Int} : (lfun niG nol 60 Try.f125 [U8 c] []).eval = bif c == (32 : Int) then some (Bo true, []) else bif c == (9 : Int) then some (Bo true, []) else bif c == (10 : Int) then some (Bo true, []) else some (Bo (c == (13 : Int)), []) := by kernel_rfl
theorem ad_nf {a : Nat → Int} {c : Int} : (lfun adG nol 60 Try.f115 [aA a, U8 c] []).eval = bif decide ((0 : Int) ≤ c) then bif decide (c < ↑(256 : Nat)) then bif decide (c.toNat < 256) then some (I64 (mnI (65536 : Int) (mxI (0 : Int) (a c.toNat))), []) else none else none else none := by kernel_rfl
def vd : List Value → Int
  | [.int _ x] => x
  | _ => 0
noncomputable def gyF : Spec := fun args h => match args, h with
  | [.c (.ptr 0 0 0), .c (.v (.int .i64 v)), .c (.v (.int .u8 c))], [some ⟨35, true, .row 1 256 f⟩] =>
    .need (yes (0 ≤ c ∧ c < 256 ∧ f = fun k => v1 (vd (f k)))) (.ret (.tup [I64 (gk v c), I64 (ga (Mt fun k => vd (f k)) v c)], [some ⟨35, true, .row 1 256 f⟩]))
  | _, _ => .fail
theorem gyF_ok : SpecOk Try.prog 156 gyF := by
  refine knownS KY_ok Try.func156 fun args h r he => ?_
  unfold gyF at he
  split at he
  · rename_i v c f
    obtain ⟨⟨h0, h1, h3⟩, he⟩ := Tr.eval_ask.1 he
    cases he
    refine ⟨fun _ => [], [], 60, nol, noLoopsS, ?_⟩
    have hw := gy_nf (a := fun k => vd (f k)) (v := v) (c := c)
    rw [show [some ⟨35, true, .row 1 256 f⟩] = [rowA fun k => vd (f k)] by rw [rowA, ← h3]]
    refine hw.trans ?_
    have c1 : c < ((256 : Nat) : Int) := h1
    have c2 : c.toNat < 256 := by omega
    have hwh := white_ix c h0 h1
    simp only [hwh, h0, c1, c2, decide_true, cond_true]
    rw [rowA]
    unfold gk ga
    by_cases e1 : v = 2
    · subst e1
      by_cases e2 : c = 10
      · subst e2; rfl
      · have : (c == 10) = false := by simpa using e2
        simp only [this, if_neg e2]
        rfl
    · have e1' : (v == 2) = false := by simpa using e1
      simp only [e1', if_neg e1]
      have hw2 : wht c = (c == 32 || c == 9 || c == 10 || c == 13) := rfl
      rw [← hw2]
      cases wht c
      · rfl
      · by_cases e3 : v = 1
        · subst e3; rfl
        · have : (v == 1) = false := by simpa using e3
          simp only [this, if_neg e3]
          rfl
  · cases he
noncomputable def bkF : Spec := fun args h => match args, h with
  | [.agg [.v (.int .i64 k), .v (.int .i64 r), .v (.int .i64 a), .v (.int .i64 w)]], [] => .ret (Bo (blk ⟨k, r, a, w⟩), [])
  | _, _ => .fail
theorem bkF_ok : SpecOk Try.prog 124 bkF := by
  refine knownS nilK Try.func124 fun args h r he => ?_
  unfold bkF at he
  split at he
  · cases he
    refine ⟨fun _ => [], [], 60, nol, noLoopsS, bk_nf.trans ?_⟩
    unfold blk
    rename_i k r a w
    cases (k == 2) <;> rfl
  · cases he
theorem bkF_ok2 : SpecOk Try.prog 126 bkF := by
  refine knownS nilK Try.func126 fun args h r he => ?_
  unfold bkF at he
  split at he
  · cases he
    refine ⟨fun _ => [], [], 60, nol, noLoopsS, bk2_nf.trans ?_⟩
    unfold blk
    rename_i k r a w
    cases (k == 2) <;> rfl
  · cases he
noncomputable def whF : Spec := fun args h => match args, h with
  | [.c (.v (.int .u8 c))], [] => .ret (Bo (wht c), [])
  | _, _ => .fail
theorem whF_ok : SpecOk Try.prog 125 whF := by
  refine knownS nilK Try.func125 fun args h r he => ?_
  unfold whF at he
  split at he
  · cases he
    refine ⟨fun _ => [], [], 60, nol, noLoopsS, wh_nf.trans ?_⟩
    unfold wht
    rename_i c
    cases (c == 32) <;> cases (c == 9) <;> cases (c == 10) <;> rfl
  · cases he
noncomputable def adF : Spec := fun args h => match args, h with
  | [.arr 256 f, .c (.v (.int .u8 c))], [] => .need (yes (0 ≤ c ∧ c < 256 ∧ f = fun k => .int .i64 (dv (f k)))) (.ret (I64 (Mt (fun k => dv (f k)) c), []))
  | _, _ => .fail
theorem adF_ok : SpecOk Try.prog 115 adF := by
  refine knownS KA1_ok Try.func115 fun args h r he => ?_
  unfold adF at he
  split at he
  · rename_i f c
    obtain ⟨⟨h0, h1, h3⟩, he⟩ := Tr.eval_ask.1 he
    cases he
    refine ⟨fun _ => [], [], 60, nol, noLoopsS, ?_⟩
    have hw := ad_nf (a := fun k => dv (f k)) (c := c)
    rw [show AV.arr 256 f = aA fun k => dv (f k) by rw [aA, ← h3]]
    refine hw.trans ?_
    have c1 : c < ((256 : Nat) : Int) := h1
    have c2 : c.toNat < 256 := by omega
    simp only [h0, c1, c2, decide_true, cond_true]
    rfl
  · cases he
end
section
open Go Go.RowKit Go.ChangeShapes Go.WideShapes Go.ChangeAt
def headNums : List Nat := [104, 97, 114, 110, 101, 115, 115, 32, 48, 53, 49, 54, 98, 53, 97, 48, 101, 48, 54, 50, 102, 51, 97, 50, 102, 98, 54, 50, 56, 49, 54, 48, 102, 53, 54, 56, 52, 53, 52, 57, 99, 102, 51, 99, 52, 51, 48, 97, 51, 99, 97, 97, 53, 55, 102, 57, 56, 55, 52, 52, 52, 102, 52, 102, 101, 53, 51, 97, 100, 56, 48, 98, 32, 99, 117, 116, 32, 97, 116, 32, 113, 117, 111, 105, 110, 47, 113, 117, 111, 105, 110, 108, 97, 119, 49, 53, 46, 70, 111, 108, 100, 66, 111, 117, 110, 100, 115, 32, 113, 117, 111, 105, 110, 47, 113, 117, 111, 105, 110, 108, 97, 119, 49, 53, 46, 70, 111, 108, 100, 84, 101, 108, 108, 115, 32, 113, 117, 111, 105, 110, 47, 113, 117, 111, 105, 110, 108, 97, 119, 57, 46, 71, 97, 117, 103, 66, 121, 116, 101, 115, 32, 113, 117, 111, 105, 110, 47, 113, 117, 111, 105, 110, 108, 97, 119, 57, 46, 71, 97, 117, 103, 84, 101, 108, 108, 115, 32, 113, 117, 111, 105, 110, 47, 113, 117, 111, 105, 110, 108, 97, 119, 57, 46, 71, 97, 117, 103, 80, 97, 114, 116, 115, 32, 113, 117, 111, 105, 110, 47, 113, 117, 111, 105, 110, 108, 97, 119, 50, 46, 82, 101, 99, 116, 69, 100, 103, 101, 115, 32, 113, 117, 111, 105, 110, 47, 113, 117, 111, 105, 110, 108, 97, 119, 50, 46, 82, 101, 99, 116, 74, 111, 105, 110, 115, 32, 113, 117, 111, 105, 110, 47, 113, 117, 111, 105, 110, 108, 97, 119, 50, 46, 82, 101, 99, 116, 84, 101, 108, 108, 115, 32, 113, 117, 111, 105, 110, 47, 113, 117, 111, 105, 110, 108, 97, 119, 50, 46, 82, 101, 99, 116, 80, 111, 105, 110, 116, 115, 32, 113, 117, 111, 105, 110, 47, 113, 117, 111, 105, 110, 108, 97, 119, 49, 54, 46, 83, 116, 97, 107, 79, 112, 101, 110, 115, 32, 113, 117, 111, 105, 110, 47, 113, 117, 111, 105, 110, 108, 97, 119, 49, 54, 46, 83, 116, 97, 107, 82, 105, 115, 101, 115, 32, 113, 117, 111, 105, 110, 47, 113, 117, 111, 105, 110, 108, 97, 119, 49, 54, 46, 83, 116, 97, 107, 84, 101, 108, 108, 115, 32, 113, 117, 111, 105, 110, 47, 113, 117, 111, 105, 110, 108, 97, 119, 49, 54, 46, 83, 116, 97, 107, 77, 101, 101, 116, 115, 32, 113, 117, 111, 105, 110, 47, 113, 117, 111, 105, 110, 108, 97, 119, 49, 54, 46, 83, 116, 97, 107, 69, 109, 112, 116, 121, 32, 113, 117, 111, 105, 110, 47, 113, 117, 111, 105, 110, 108, 97, 119, 50, 48, 46, 67, 114, 111, 115, 70, 105, 108, 108, 115, 32, 113, 117, 111, 105, 110, 47, 113, 117, 111, 105, 110, 108, 97, 119, 50, 48, 46, 67, 114, 111, 115, 76, 105, 110, 101, 115, 32, 113, 117, 111, 105, 110, 47, 113, 117, 111, 105, 110, 108, 97, 119, 50, 48, 46, 67, 114, 111, 115, 84, 101, 108, 108, 115, 32, 113, 117, 111, 105, 110, 47, 113, 117, 111, 105, 110, 108, 97, 119, 50, 48, 46, 67, 114, 111, 115, 87, 105, 116, 104, 105, 110, 32, 113, 117, 111, 105, 110, 47, 113, 117, 111, 105, 110, 108, 97, 119, 49, 48, 46, 87, 104, 105, 116, 80, 97, 114, 116, 115, 32, 113, 117, 111, 105, 110, 47, 113, 117, 111, 105, 110, 108, 97, 119, 49, 48, 46, 87, 104, 105, 116, 72, 111, 108, 100, 115, 32, 113, 117, 111, 105, 110, 47, 113, 117, 111, 105, 110, 108, 97, 119, 49, 48, 46, 87, 104, 105, 116, 84, 101, 108, 108, 115, 32, 113, 117, 111, 105, 110, 47, 113, 117, 111, 105, 110, 108, 97, 119, 49, 48, 46, 87, 104, 105, 116, 82, 111, 119, 115, 32, 113, 117, 111, 105, 110, 47, 113, 117, 111, 105, 110, 108, 97, 119, 49, 48, 46, 87, 104, 105, 116, 80, 114, 101, 32, 113, 117, 111, 105, 110, 47, 113, 117, 111, 105, 110, 108, 97, 119, 49, 49, 46, 66, 114, 107, 87, 111, 114, 100, 115, 32, 113, 117, 111, 105, 110, 47, 113, 117, 111, 105, 110, 108, 97, 119, 49, 49, 46, 66, 114, 107, 87, 104, 111, 108, 101, 32, 113, 117, 111, 105, 110, 47, 113, 117, 111, 105, 110, 108, 97, 119, 49, 49, 46, 66, 114, 107, 84, 101, 108, 108, 115, 32, 113, 117, 111, 105, 110, 47, 113, 117, 111, 105, 110, 108, 97, 119, 49, 49, 46, 66, 114, 107, 70, 117, 108, 108, 32, 113, 117, 111, 105, 110, 47, 113, 117, 111, 105, 110, 108, 97, 119, 49, 49, 46, 66, 114, 107, 76, 101, 97, 115, 116, 32, 113, 117, 111, 105, 110, 47, 113, 117, 111, 105, 110, 108, 97, 119, 49, 50, 46, 82, 111, 119, 72, 101, 105, 103, 104, 116, 115, 32, 113, 117, 111, 105, 110, 47, 113, 117, 111, 105, 110, 108, 97, 119, 49, 50, 46, 82, 111, 119, 82, 111, 111, 109, 32, 113, 117, 111, 105, 110, 47, 113, 117, 111, 105, 110, 108, 97, 119, 49, 50, 46, 82, 111, 119, 80, 105, 101, 99, 101, 115, 32, 113, 117, 111, 105, 110, 47, 113, 117, 111, 105, 110, 108, 97, 119, 49, 50, 46, 82, 111, 119, 84, 101, 108, 108, 115, 32, 113, 117, 111, 105, 110, 47, 113, 117, 111, 105, 110, 108, 97, 119, 49, 50, 46, 82, 111, 119, 83, 116, 97, 110, 100, 115, 32, 113, 117, 111, 105, 110, 47, 113, 117, 111, 105, 110, 108, 97, 119, 49, 50, 46, 82, 111, 119, 65, 108, 105, 103, 110, 115, 32, 113, 117, 111, 105, 110, 47, 113, 117, 111, 105, 110, 108, 97, 119, 50, 53, 46, 87, 105, 114, 101, 76, 111, 110, 103, 32, 113, 117, 111, 105, 110, 47, 113, 117, 111, 105, 110, 108, 97, 119, 50, 53, 46, 87, 105, 114, 101, 84, 101, 108, 108, 115, 32, 113, 117, 111, 105, 110, 47, 113, 117, 111, 105, 110, 108, 97, 119, 50, 53, 46, 87, 105, 114, 101, 66, 97, 99, 107]
theorem head_str : Try.prog.initOrder = String.ofList (headNums.map Char.ofNat) := by kernel_rfl
theorem head_list : Try.prog.initOrder.toList = headNums.map Char.ofNat := by
  rw [head_str, String.toList_ofList]
theorem head_words : ∃ T, behindMainWord (wordsSigns Try.prog.initOrder.toList) = "cut".toList :: T :=
  ⟨(behindMainWord (wordsSigns (headNums.map Char.ofNat))).tail, by rw [head_list]; kernel_rfl⟩
theorem strip_cut (T : List (List Char)) : stripLifts liftWords ("cut".toList :: T) = ([], "cut".toList :: T) := by kernel_rfl
section
variable {P : Program} {T : List (List Char)}
theorem headLifts_of (h : behindMainWord (wordsSigns P.initOrder.toList) = "cut".toList :: T) : P.headLifts = [] := by
  unfold Program.headLifts
  rw [h, strip_cut]
  kernel_rfl
theorem mayEnter_of (h : behindMainWord (wordsSigns P.initOrder.toList) = "cut".toList :: T) (h1 : P.laysLater = false) (h2 : P.bearsReflect = false) (h3 : P.doorRows = []) : P.mayEnter = true := by
  unfold Program.mayEnter Program.doorFits
  rw [h]
  simp only [strip_cut, h1, h2, h3]
  simp
theorem liftsFinal_of (h : behindMainWord (wordsSigns P.initOrder.toList) = "cut".toList :: T) : P.liftsFinal = false := by
  have hl := headLifts_of h
  unfold Program.liftsFinal
  rw [h, hl]
  simp
theorem make_of (h : behindMainWord (wordsSigns P.initOrder.toList) = "cut".toList :: T) : P.make = some .cut := by
  have hl := headLifts_of h
  unfold Program.make
  rw [h]
  simp only [hl]
  simp
end
theorem laysLater_ok : Try.prog.laysLater = false := by kernel_rfl
theorem bearsReflect_ok : Try.prog.bearsReflect = false := by kernel_rfl
theorem doorRows_ok : Try.prog.doorRows = [] := by kernel_rfl
theorem mayEnter_ok : Try.prog.mayEnter = true := head_words.elim fun _ h => mayEnter_of h laysLater_ok bearsReflect_ok doorRows_ok
theorem liftsFinal_ok : Try.prog.liftsFinal = false := head_words.elim fun _ h => liftsFinal_of h
theorem make_ok : Try.prog.make = some .cut := head_words.elim fun _ h => make_of h
end
section
open Go Go.RowKit Go.ChangeShapes Go.WideShapes Go.ChangeAt

inductive Kd where
  | int (k : IntKind)
  | bool
  | str
  deriving DecidableEq
def Kd.ok : Kd → Value → Prop
  | .int k, v => ∃ n, v = .int k n ∧ (Lit.int k n).wf = true
  | .bool, v => ∃ b, v = .bool b
  | .str, v => ∃ s : ByteArray, v = .string s ∧ s.size ≤ maxLen
def Kd.desc : Kd → TypeDesc
  | .int k => .int k
  | .bool => .bool
  | .str => .string
def Kd.zero : Kd → Value
  | .int k => .int k 0
  | .bool => .bool false
  | .str => .string ⟨#[]⟩
theorem Kd.zero_ok (k : Kd) : k.ok k.zero := by
  cases k with
  | int k => exact ⟨0, rfl, by cases k <;> decide⟩
  | bool => exact ⟨false, rfl⟩
  | str => exact ⟨⟨#[]⟩, rfl, by decide⟩
theorem Kd.zeros_ok : ∀ ks : List Kd, F2 Kd.ok ks (ks.map Kd.zero)
  | [] => .nil
  | k :: ks => .cons k.zero_ok (Kd.zeros_ok ks)
theorem Kd.one {k : Kd} {v : Value} (h : k.ok v) : oneV v = true := by
  cases k with
  | int k => obtain ⟨n, rfl, _⟩ := h; rfl
  | bool => obtain ⟨b, rfl⟩ := h; rfl
  | str => obtain ⟨s, rfl, _⟩ := h; rfl

def flatFs (P : Program) (g : TypeId → Option (List Kd)) : List Field → Nat → Option (List Kd)
  | [], _ => some []
  | f :: fs, off =>
    if f.offset != off then none else
    match g f.type, flatFs P g fs (off + P.cellsOf f.type) with
    | some a, some b => if a.length = P.cellsOf f.type then some (a ++ b) else none
    | _, _ => none
def flatIn (P : Program) : Nat → TypeId → Option (List Kd)
  | 0, _ => none
  | d + 1, t =>
    match P.underlying t with
    | some (.int k) => some [.int k]
    | some .bool => some [.bool]
    | some .string => some [.str]
    | some (.struct fs) => match flatFs P (flatIn P d) fs.toList 0 with
      | some ks => if ks.length = P.cellsOf t then some ks else none
      | none => none
    | some (.array n e) => match flatIn P d e with
      | some ks => if ks.length = P.cellsOf e ∧ n * ks.length = P.cellsOf t then some (List.replicate n ks).flatten else none
      | none => none
    | _ => none

section
variable {H : Type} {enc : TypeId × Value → H} {P : Program} {w : World} {base : Nat} {spare : Nat → Bool} {held : Bool}

theorem flatFs_mem {g : TypeId → Option (List Kd)} : ∀ {fs : List Field} {off : Nat} {ks}, flatFs P g fs off = some ks → ∀ f ∈ fs, ∃ a, g f.type = some a
  | [], _, _, _, f, hf => by cases hf
  | f' :: fs, off, ks, h, f, hf => by
    simp only [flatFs] at h
    split at h
    · cases h
    · split at h
      · rename_i a b ha hb
        rcases List.mem_cons.1 hf with rfl | hf
        · exact ⟨a, ha⟩
        · exact flatFs_mem hb f hf
      · cases h

theorem flatFs_ok {g : TypeId → Option (List Kd)} {n : Nat} {cs : List Value} (hg : ∀ t a, g t = some a → ∀ cs x, DataW.trod enc P w base spare held n t cs = some x → F2 Kd.ok a cs ∧ x.2 = []) :
    ∀ {fs : List Field} {off : Nat} {ks}, flatFs P g fs off = some ks → (∀ f ∈ fs, ∃ y, DataW.trod enc P w base spare held n f.type ((cs.drop f.offset).take (P.cellsOf f.type)) = some y) →
      F2 Kd.ok ks ((cs.drop off).take ks.length)
  | [], off, ks, h, _ => by
    simp only [flatFs, Option.some.injEq] at h
    subst h
    simpa using F2.nil
  | f :: fs, off, ks, h, hy => by
    simp only [flatFs] at h
    split at h
    · cases h
    · rename_i ho
      have ho' : f.offset = off := by simpa using ho
      split at h
      · rename_i a b ha hb
        split at h
        · rename_i hl
          simp only [Option.some.injEq] at h
          subst h
          obtain ⟨y, hyf⟩ := hy f List.mem_cons_self
          have h1 := (hg _ _ ha _ _ hyf).1
          have h2 := flatFs_ok (cs := cs) hg hb (fun f' hf' => hy f' (List.mem_cons_of_mem _ hf'))
          rw [ho', ← hl] at h1
          rw [← hl] at h2
          have := h1.append h2
          rw [List.length_append, List.take_add, List.drop_drop]
          exact this
        · cases h
      · cases h

theorem flatArr_ok {e : TypeId} {ks : List Kd} {n s : Nat} {cs : List Value} (hs : ks.length = s) (hg : ∀ i, i < n → F2 Kd.ok ks ((cs.drop (i * s)).take s)) :
    ∀ m, m ≤ n → F2 Kd.ok (List.replicate m ks).flatten (cs.take (m * s))
  | 0, _ => by simpa using F2.nil
  | m + 1, hm => by
    have ih := flatArr_ok (e := e) hs hg m (by omega)
    have h1 := hg m (by omega)
    rw [List.replicate_succ', List.flatten_append]
    simp only [List.flatten_cons, List.flatten_nil, List.append_nil]
    rw [Nat.succ_mul, List.take_add]
    exact ih.append h1

theorem trod_flat : ∀ (d : Nat) (t : TypeId) (ks : List Kd), flatIn P d t = some ks → ∀ (fuel : Nat) (cs : List Value) x, DataW.trod enc P w base spare held fuel t cs = some x → F2 Kd.ok ks cs ∧ x.2 = []
  | 0, t, ks, hk, _, _, _, _ => by simp [flatIn] at hk
  | d + 1, t, ks, hk, fuel, cs, x, h => by
    simp only [flatIn] at hk
    split at hk
    · rename_i k hu
      simp only [Option.some.injEq] at hk
      subst hk
      obtain ⟨n, rfl, rfl, hw⟩ := DataW.trod_int hu h
      exact ⟨.cons ⟨n, rfl, hw⟩ .nil, rfl⟩
    · rename_i hu
      simp only [Option.some.injEq] at hk
      subst hk
      obtain ⟨b, rfl, rfl⟩ := DataW.trod_bool hu h
      exact ⟨.cons ⟨b, rfl⟩ .nil, rfl⟩
    · rename_i hu
      simp only [Option.some.injEq] at hk
      subst hk
      obtain ⟨s, rfl, rfl, hw⟩ := DataW.trod_string hu h
      exact ⟨.cons ⟨s, rfl, hw⟩ .nil, rfl⟩
    · rename_i fs hu
      split at hk
      · rename_i ks' hfs
        split at hk
        · rename_i hl
          simp only [Option.some.injEq] at hk
          subst hk
          obtain ⟨xs, n, _, rfl, hlen, hxs, hf⟩ := DataW.trod_struct hu h
          have hall : ∀ f ∈ fs.toList, ∃ y, y ∈ xs ∧ DataW.trod enc P w base spare held n f.type ((cs.drop f.offset).take (P.cellsOf f.type)) = some y := by
            intro f hf'
            obtain ⟨i, hi, rfl⟩ := List.getElem_of_mem hf'
            have hi' : i < fs.size := by simpa using hi
            have := hf i fs.toList[i] (by simp [hi'])
            have hix : i < xs.length := by omega
            rw [List.getElem?_eq_getElem hix] at this
            exact ⟨_, List.getElem_mem hix, this⟩
          have h1 := flatFs_ok (cs := cs) (fun t a ha cs x => trod_flat d t a ha n cs x) hfs fun f hf' => (hall f hf').elim fun y hy => ⟨y, hy.2⟩
          rw [List.drop_zero, hl, ← hlen, List.take_length] at h1
          refine ⟨h1, ?_⟩
          show xs.flatMap (·.2) = []
          rw [List.flatMap_eq_nil_iff]
          intro y hy
          obtain ⟨i, hi, rfl⟩ := List.getElem_of_mem hy
          have hif : i < fs.size := by omega
          have hfi := hf i fs[i] (by simp [hif])
          rw [List.getElem?_eq_getElem hi] at hfi
          obtain ⟨a, ha⟩ := flatFs_mem hfs fs[i] (by simp)
          exact (trod_flat d _ a ha n _ _ hfi).2
        · cases hk
      · cases hk
    · rename_i n e hu
      split at hk
      · rename_i ks' he
        split at hk
        · rename_i hl
          simp only [Option.some.injEq] at hk
          subst hk
          obtain ⟨xs, m, _, rfl, hlen, hxs, hf⟩ := DataW.trod_array hu h
          have hall : ∀ i, i < n → F2 Kd.ok ks' ((cs.drop (i * P.cellsOf e)).take (P.cellsOf e)) ∧ ∀ y, xs[i]? = some y → y.2 = [] := by
            intro i hi
            have hix : i < xs.length := by omega
            have := hf i hi
            rw [List.getElem?_eq_getElem hix] at this
            have h2 := trod_flat d e ks' he m _ _ this
            refine ⟨h2.1, fun y hy => ?_⟩
            rw [List.getElem?_eq_getElem hix] at hy
            cases hy
            exact h2.2
          have h1 := flatArr_ok (e := e) (cs := cs) hl.1 (fun i hi => (hall i hi).1) n (Nat.le_refl _)
          have e1 : n * P.cellsOf e = cs.length := by rw [hlen, ← hl.1]; exact hl.2
          rw [e1, List.take_length] at h1
          refine ⟨h1, ?_⟩
          show xs.flatMap (·.2) = []
          rw [List.flatMap_eq_nil_iff]
          intro y hy
          obtain ⟨i, hi, rfl⟩ := List.getElem_of_mem hy
          exact (hall i (by omega)).2 _ (by simp [hi])
        · cases hk
      · cases hk
    · cases hk
end

/-- What a parameter is. -/
inductive Shp where
  | one (k : Kd)
  | agg (ks : List Kd)
  | arr (n : Nat) (k : Kd)
  | rows (e : TypeId) (ks : List Kd)
inductive In where
  | one (v : Value)
  | agg (cs : List Value)
  | arr (f : Nat → Value)
  | rows (k : Nat) (f : Nat → List Value)
def InOk : Shp → In → Prop
  | .one k, .one v => k.ok v ∧ ∀ s, v = .string s → s.size ≤ reachBytes
  | .agg ks, .agg cs => F2 Kd.ok ks cs
  | .arr _ k, .arr f => ∀ i, k.ok (f i)
  | .rows _ ks, .rows k f => k ≤ maxLen ∧ ∀ i, F2 Kd.ok ks (f i)
  | _, _ => False
def InsOk : List Shp → List In → Prop
  | [], [] => True
  | s :: ss, i :: is => InOk s i ∧ InsOk ss is
  | _, _ => False
def avIn (id : Nat) : Shp → In → AV
  | _, .one v => .c (.v v)
  | _, .agg cs => .agg (ofCells cs)
  | .arr n _, .arr f => .arr n f
  | _, .rows k _ => .c (.sl id 0 k)
  | _, _ => .c .any
def blkIn : Shp → In → AHeap
  | .rows e ks, .rows k f => [some ⟨e, false, .row ks.length k f⟩]
  | _, _ => []
def avsIn : Nat → List Shp → List In → List AV
  | id, s :: ss, i :: is => avIn id s i :: avsIn (id + (blkIn s i).length) ss is
  | _, _, _ => []
def blksIn : List Shp → List In → AHeap
  | s :: ss, i :: is => blkIn s i ++ blksIn ss is
  | _, _ => []

def descIs : Option TypeDesc → Kd → Bool
  | some (.int a), .int b => decide (a = b)
  | some .bool, .bool => true
  | some .string, .str => true
  | _, _ => false
theorem descIs_ok {o : Option TypeDesc} {k : Kd} (h : descIs o k = true) : o = some k.desc := by
  unfold descIs at h
  split at h
  · have := of_decide_eq_true h
    subst this
    rfl
  · rfl
  · rfl
  · cases h
def sliceIs : Option TypeDesc → TypeId → Bool
  | some (.slice a), e => decide (a = e)
  | _, _ => false
theorem sliceIs_ok {o : Option TypeDesc} {e : TypeId} (h : sliceIs o e = true) : o = some (.slice e) := by
  unfold sliceIs at h
  split at h
  · have := of_decide_eq_true h
    subst this
    rfl
  · cases h
theorem ins_nil {is : List In} (h : InsOk [] is) : is = [] := by
  cases is with
  | nil => rfl
  | cons i is => cases h
theorem ins_cons {s : Shp} {ss : List Shp} {is : List In} (h : InsOk (s :: ss) is) : ∃ i is', is = i :: is' ∧ InOk s i ∧ InsOk ss is' := by
  cases is with
  | nil => cases h
  | cons i is => exact ⟨i, is, rfl, h.1, h.2⟩
theorem ins_i64 {ss : List Shp} {is : List In} (h : InsOk (.one (.int .i64) :: ss) is) : ∃ (a : Int) (is' : List In), is = .one (.int .i64 a) :: is' ∧ InsOk ss is' := by
  obtain ⟨i, is', rfl, h1, h2⟩ := ins_cons h
  cases i with
  | one v =>
    obtain ⟨⟨a, rfl, _⟩, _⟩ := h1
    exact ⟨a, is', rfl, h2⟩
  | _ => cases h1
theorem ins_bool {ss : List Shp} {is : List In} (h : InsOk (.one .bool :: ss) is) : ∃ (a : Bool) (is' : List In), is = .one (.bool a) :: is' ∧ InsOk ss is' := by
  obtain ⟨i, is', rfl, h1, h2⟩ := ins_cons h
  cases i with
  | one v =>
    obtain ⟨⟨a, rfl⟩, _⟩ := h1
    exact ⟨a, is', rfl, h2⟩
  | _ => cases h1
theorem ins_str {ss : List Shp} {is : List In} (h : InsOk (.one .str :: ss) is) : ∃ (a : ByteArray) (is' : List In), is = .one (.string a) :: is' ∧ InsOk ss is' ∧ a.size ≤ reachBytes := by
  obtain ⟨i, is', rfl, h1, h2⟩ := ins_cons h
  cases i with
  | one v =>
    obtain ⟨⟨a, rfl, hs⟩, hr⟩ := h1
    exact ⟨a, is', rfl, h2, hr _ rfl⟩
  | _ => cases h1
theorem ins_arr {n : Nat} {ss : List Shp} {is : List In} (h : InsOk (.arr n (.int .i64) :: ss) is) : ∃ (g : Nat → Int) (is' : List In), is = .arr (fun k => .int .i64 (g k)) :: is' ∧ InsOk ss is' := by
  obtain ⟨i, is', rfl, h1, h2⟩ := ins_cons h
  cases i with
  | arr f =>
    have : ∀ i, ∃ a, f i = .int .i64 a := fun i => (h1 i).elim fun a ha => ⟨a, ha.1⟩
    refine ⟨fun i => (this i).choose, is', ?_, h2⟩
    congr 2
    funext i
    exact (this i).choose_spec
  | _ => cases h1
theorem ins_ints {e : TypeId} {ss : List Shp} {is : List In} (h : InsOk (.rows e [.int .i64] :: ss) is) : ∃ (k : Nat) (g : Nat → Int) (is' : List In), is = .rows k (fun i => [.int .i64 (g i)]) :: is' ∧ InsOk ss is' ∧ k ≤ maxLen := by
  obtain ⟨i, is', rfl, h1, h2⟩ := ins_cons h
  cases i with
  | rows k f =>
    obtain ⟨hk, h1⟩ := h1
    have : ∀ i, ∃ a, f i = [.int .i64 a] := fun i => by
      obtain ⟨b, hb, a, rfl, _⟩ := (h1 i).get 0 _ rfl
      have hl := (h1 i).length
      match hf : f i, hl with
      | [x], _ =>
        rw [hf] at hb
        cases hb
        exact ⟨a, rfl⟩
    refine ⟨k, fun i => (this i).choose, is', ?_, h2, hk⟩
    congr 2
    funext i
    exact (this i).choose_spec
  | _ => cases h1
/-- What the kernel looks at, of a parameter. -/
def shpOk (P : Program) (t : TypeId) (s : Shp) : Bool :=
  P.readableRec t && decide (t < P.types.size) &&
  match s with
  | .one k => descIs (P.underlying t) k
  | .agg ks => flatIn P 9 t == some ks && (match P.underlying t with | some (.struct _) => true | _ => false)
  | .arr n k => flatIn P 9 t == some (List.replicate n k) && (match P.underlying t with | some (.struct _) => true | _ => false)
  | .rows e ks => sliceIs (P.underlying t) e && flatIn P 9 e == some ks && ks.length == P.cellsOf e && decide (0 < ks.length)
def shpsOk (P : Program) : List TypeId → List Shp → Bool
  | [], [] => true
  | t :: ts, s :: ss => shpOk P t s && shpsOk P ts ss
  | _, _ => false

section
variable {H : Type} {enc : TypeId × Value → H} {P : Program} {W : World} {base : Nat}

/-- A block that came in, and where it lies. -/
def Came (B : Nat) (w : World) (o : Option ABlk) (p : Pl) : Prop := ∃ b, o = some b ∧ b.own = false ∧ ∀ m, BR B m b p w

theorem came_hr {B : Nat} {w : World} {h : AHeap} {m : List Pl} (H : F2 (Came B w) h m) : HR B m h w ∧ ∀ (id : Nat) b, h[id]? = some (some b) → b.own = false := by
  have hown : ∀ (id : Nat) b, h[id]? = some (some b) → b.own = false := by
    intro id b hb
    obtain ⟨p, _, b', e, ho, _⟩ := H.get id _ hb
    cases e
    exact ho
  refine ⟨{ len := H.length.symm, blk := ?_, apart := ?_ }, hown⟩
  · intro id b p hb hp
    obtain ⟨p', hp', b', e, _, hr⟩ := H.get id _ hb
    cases e
    rw [hp] at hp'
    cases hp'
    exact hr m
  · intro id id' b b' p p' A A' _ hb _ ho
    rw [hown id b hb] at ho
    cases ho

theorem came_one {t : TypeId} {s : Shp} {v : Value} {d : DataW H} {p : List MemPlace} (hs : shpOk P t s = true) (hval : Value.okWide P W .any base t v) (ht : DataW.Trod enc P W 0 (fun _ => true) true t v d p) (hlt : ∀ x ∈ p, x.block < W.heap.size) (hwt : (DataW.weights P t d).all (· ≤ reachBytes) = true) :
    ∃ (i : In) (ml : List Pl), InOk s i ∧ F2 (Came W.heap.size W) (blkIn s i) ml ∧ ∀ m0 : List Pl, ∀ mr, VR (m0 ++ (ml ++ mr)) (avIn m0.length s i) v := by
  obtain ⟨fuel, hf⟩ := ht
  unfold shpOk at hs
  simp only [Bool.and_eq_true] at hs
  obtain ⟨_, hs⟩ := hs
  cases s with
  | one k =>
    have hu : P.underlying t = some k.desc := descIs_ok hs
    refine ⟨.one v, [], ?_, .nil, fun m0 mr => (rfl : v = v)⟩
    show k.ok v ∧ _
    cases k with
    | int k =>
      obtain ⟨n, rfl⟩ := okWide_int hu hval
      obtain ⟨n', h, _, hw⟩ := DataW.trod_int hu hf
      simp [Value.cells] at h
      subst h
      exact ⟨⟨n, rfl, hw⟩, fun _ h => nomatch h⟩
    | bool =>
      obtain ⟨b, rfl⟩ := okWide_bool hu hval
      exact ⟨⟨b, rfl⟩, fun _ h => nomatch h⟩
    | str =>
      obtain ⟨n, rfl⟩ := okWide_string hu hval
      obtain ⟨n', h, hx, hw⟩ := DataW.trod_string hu hf
      simp [Value.cells] at h
      subst h
      refine ⟨⟨n, rfl, hw⟩, fun s' hs' => ?_⟩
      cases hs'
      simp only [Prod.mk.injEq] at hx
      rw [hx.1] at hwt
      simp only [DataW.weights, List.all_cons, Bool.and_eq_true, decide_eq_true_eq] at hwt
      simpa using hwt.1
  | agg ks =>
    simp only [Bool.and_eq_true, beq_iff_eq] at hs
    obtain ⟨hk, hu⟩ := hs
    split at hu
    · rename_i fs hu'
      obtain ⟨cs, rfl, _⟩ := okWide_struct hu' hval
      have := (trod_flat 9 t ks hk fuel _ _ hf).1
      exact ⟨.agg cs.toList, [], this, .nil, fun m0 mr => ⟨cs, rfl, F2_ofCells _ _⟩⟩
    · cases hu
  | arr n k =>
    simp only [Bool.and_eq_true, beq_iff_eq] at hs
    obtain ⟨hk, hu⟩ := hs
    split at hu
    · rename_i fs hu'
      obtain ⟨cs, rfl, _⟩ := okWide_struct hu' hval
      have h1 : F2 Kd.ok (List.replicate n k) cs.toList := (trod_flat 9 t _ hk fuel _ _ hf).1
      have hl : cs.size = n := by have := h1.length; simp at this; omega
      have hget : ∀ i, k.ok (cs.toList.getD i k.zero) := by
        intro i
        rcases Nat.lt_or_ge i n with hi | hi
        · obtain ⟨b, hb, hok⟩ := h1.get i k (by simp [hi])
          rw [List.getD_eq_getElem?_getD, hb]
          exact hok
        · rw [List.getD_eq_getElem?_getD, List.getElem?_eq_none (by simp; omega)]
          exact k.zero_ok
      refine ⟨.arr fun i => cs.toList.getD i k.zero, [], hget, .nil, fun m0 mr => ⟨?_, fun i _ => Kd.one (hget i)⟩⟩
      have : cs.toList = (List.range n).map fun i => cs.toList.getD i k.zero := by
        apply List.ext_getElem
        · simp [hl]
        · intro i h1 h2
          simp [List.getD_eq_getElem?_getD, List.getElem?_eq_getElem h1]
          have : i < cs.size := by simpa using h1
          simp [this]
      rw [← this]
    · cases hu
  | rows e ks =>
    simp only [Bool.and_eq_true, beq_iff_eq, decide_eq_true_eq] at hs
    obtain ⟨⟨⟨hu0, hk⟩, hc⟩, hpos⟩ := hs
    have hu := sliceIs_ok hu0
    obtain ⟨a0, len, cap, rfl⟩ := okWide_slice hu hval
    rcases DataW.trod_slice hu hf with ⟨hcs, hx⟩ | ⟨a, len', cap', elems, rest, n, _, hcs, hx, _, hl, hm, hlen, hel, _, _⟩
    · simp [Value.cells] at hcs
      obtain ⟨rfl, rfl, rfl⟩ := hcs
      refine ⟨.rows 0 fun _ => ks.map Kd.zero, [⟨none, 0, ks.length⟩], ⟨Nat.zero_le _, fun i => Kd.zeros_ok ks⟩, .cons ⟨_, rfl, rfl, fun m => ?_⟩ .nil, fun m0 mr => ?_⟩
      · exact { sz := rfl, len := fun i hi => absurd hi (Nat.not_lt_zero _), cap := Nat.le_refl _, cell := fun i j c hi => absurd hi (Nat.not_lt_zero _), own := fun h => (by cases h), came := fun _ A h => (by cases h) }
      · exact ⟨⟨none, 0, ks.length⟩, none, 0, by simp, rfl, ⟨Nat.le_refl _, fun _ => rfl⟩, fun _ => ⟨rfl, rfl⟩, fun h => absurd h (Nat.lt_irrefl _)⟩
    · simp [Value.cells] at hcs
      obtain ⟨rfl, rfl, rfl⟩ := hcs
      simp only [Prod.mk.injEq] at hx
      obtain ⟨rfl, rfl⟩ := hx
      have each : ∀ i, i < len → ∃ cs, W.cells? 0 (a.add (i * P.cellsOf e)) (P.cellsOf e) = some cs ∧ F2 Kd.ok ks cs ∧ ∀ j, j < P.cellsOf e → W.cell? ((a.add (i * P.cellsOf e)).add j) = cs[j]? := by
        intro i hi
        have := hel i hi
        rw [List.getElem?_eq_getElem (by omega), Option.bind_eq_some_iff] at this
        obtain ⟨cs, hcs, hy⟩ := this
        exact ⟨cs, hcs, (trod_flat 9 e ks hk _ _ _ hy).1, (World.cells?_some hcs).2.2⟩
      let f : Nat → List Value := fun i => if i < len then (W.cells? 0 (a.add (i * P.cellsOf e)) (P.cellsOf e)).getD [] else ks.map Kd.zero
      have hfi : ∀ i, i < len → F2 Kd.ok ks (f i) ∧ ∀ j, j < P.cellsOf e → W.cell? ((a.add (i * P.cellsOf e)).add j) = (f i)[j]? := by
        intro i hi
        obtain ⟨cs, h1, h2, h3⟩ := each i hi
        have : f i = cs := by simp only [f, h1, Option.getD_some, hi, if_true]
        rw [this]
        exact ⟨h2, h3⟩
      have hall : ∀ i, F2 Kd.ok ks (f i) := by
        intro i
        by_cases hi : i < len
        · exact (hfi i hi).1
        · simp only [f, hi, if_false]
          exact Kd.zeros_ok ks
      have hsp : 0 < len → a.spot = none := by
        intro h0
        obtain ⟨h1, h2⟩ := hfi 0 h0
        have h3 := h2 0 (by omega)
        have hl0 : (f 0).length = ks.length := h1.length.symm
        rw [List.getElem?_eq_getElem (by omega)] at h3
        simpa [Addr.add] using World.cell?_spot h3
      refine ⟨.rows len f, [⟨some a, cap, ks.length⟩], ⟨Nat.le_trans hl hm, hall⟩, .cons ⟨_, rfl, rfl, fun m => ?_⟩ .nil, fun m0 mr => ?_⟩
      · refine { sz := rfl, len := fun i hi => ?_, cap := hl, cell := ?_, own := fun h => (by cases h), came := ?_ }
        · show (ofCells (f i)).length = ks.length
          rw [ofCells, List.length_map]
          exact (hfi i hi).1.length.symm
        · intro i j c hi hcj
          obtain ⟨h1, h2⟩ := hfi i hi
          have hcj' : ((f i).map AC.v)[j]? = some c := hcj
          rw [List.getElem?_map, Option.map_eq_some_iff] at hcj'
          obtain ⟨x, hx, rfl⟩ := hcj'
          have hj : j < P.cellsOf e := by
            have := (List.getElem?_eq_some_iff.1 hx).1
            have := h1.length
            omega
          have h3 := h2 j hj
          have hs0 := hsp (by have : i < len := hi; omega)
          refine ⟨a, x, rfl, hs0, ?_, rfl, ?_⟩
          · obtain ⟨b, off, spot⟩ := a
            simp only at hs0
            subst hs0
            rw [add_plain, add_plain, hx] at h3
            rw [← h3]
            simp [hc, Nat.add_assoc]
          · have hj2 : j < ks.length := by omega
            obtain ⟨y, hy, hok⟩ := h1.get j ks[j] (by simp [hj2])
            rw [hx] at hy
            cases hy
            exact Kd.one hok
        · intro _ A hA hn
          cases hA
          have hn' : 0 < len := hn
          have : MemPlace.cell a.block a.off ∈ MemPlace.row a ((elems.length + rest.length) * P.cellsOf e) := by
            refine MemPlace.mem_row.2 ⟨0, ?_, by simp⟩
            have : 0 < P.cellsOf e := by omega
            exact Nat.mul_pos (by omega) this
          exact hlt _ (List.mem_append_left _ this)
      · refine ⟨⟨some a, cap, ks.length⟩, some a, cap, by simp, rfl, ⟨hl, fun e => nomatch e⟩, fun _ => ⟨rfl, rfl⟩, fun hpos' => ?_⟩
        have hs0 := hsp hpos'
        refine ⟨a, rfl, hs0, ?_⟩
        obtain ⟨b, off, spot⟩ := a
        simp only at hs0
        subst hs0
        simp

theorem came_all : ∀ {ts : List TypeId} {ss : List Shp} {vs : List Value} {ds : List (DataW H)} {p : List MemPlace}, shpsOk P ts ss = true → (∀ (j : Nat) t v, ts[j]? = some t → vs[j]? = some v → Value.okWide P W .any base t v) →
    DataW.TrodAll enc P W 0 (fun _ => true) true ts vs ds p → (∀ x ∈ p, x.block < W.heap.size) → (DataW.weightsEach P ts ds).all (· ≤ reachBytes) = true →
    ∃ (is : List In) (ml : List Pl), InsOk ss is ∧ F2 (Came W.heap.size W) (blksIn ss is) ml ∧ ∀ m0 : List Pl, ∀ mr, VRs (m0 ++ (ml ++ mr)) (avsIn m0.length ss is) vs
  | [], [], vs, ds, p, _, _, h, _, _ => by
    obtain ⟨h1, rfl, rfl⟩ := trodAll_nil h
    have : vs = [] := by simpa using h1
    subst this
    exact ⟨[], [], trivial, .nil, fun _ _ => trivial⟩
  | [], _ :: _, _, _, _, hs, _, _, _, _ => by cases hs
  | _ :: _, [], _, _, _, hs, _, _, _, _ => by cases hs
  | t :: ts, s :: ss, vs, ds, p, hs, hval, h, hlt, hwt => by
    simp only [shpsOk, Bool.and_eq_true] at hs
    obtain ⟨v, vs', d, ds', p1, p2, rfl, rfl, rfl, h1, h2⟩ := trodAll_cons h
    simp only [DataW.weightsEach, List.all_append, Bool.and_eq_true] at hwt
    obtain ⟨i, ml, a1, a2, a3⟩ := came_one hs.1 (hval 0 t v rfl rfl) h1 (fun x hx => hlt x (List.mem_append_left _ hx)) hwt.1
    obtain ⟨is, ml', b1, b2, b3⟩ := came_all hs.2 (fun j t' v' ht' hv' => hval (j + 1) t' v' (by simpa using ht') (by simpa using hv')) h2 (fun x hx => hlt x (List.mem_append_right _ hx)) hwt.2
    refine ⟨i :: is, ml ++ ml', ⟨a1, b1⟩, a2.append b2, fun m0 mr => ?_⟩
    have e1 := a3 m0 (ml' ++ mr)
    have e2 := b3 (m0 ++ ml) mr
    rw [List.length_append, ← a2.length] at e2
    simp only [avsIn]
    refine ⟨?_, ?_⟩
    · simpa [List.append_assoc] using e1
    · simpa [List.append_assoc] using e2

theorem trodAll_len {w : World} {spare : Nat → Bool} {held : Bool} : ∀ {ts : List TypeId} {vs : List Value} {ds : List (DataW H)} {p : List MemPlace}, DataW.TrodAll enc P w base spare held ts vs ds p → ds.length = ts.length
  | [], vs, ds, p, h => by
    obtain ⟨_, rfl, _⟩ := trodAll_nil h
    rfl
  | t :: ts, vs, ds, p, h => by
    obtain ⟨v, vs', d, ds', p1, p2, rfl, rfl, rfl, _, h2⟩ := trodAll_cons h
    simp [trodAll_len h2]
theorem Below.trodAll' {W' : World} (hl : laidOutB P = true) : ∀ {ts : List TypeId} {ss : List Shp} {vs : List Value} {ds : List (DataW H)} {p : List MemPlace}, shpsOk P ts ss = true →
    DataW.TrodAll enc P W 0 (fun _ => true) true ts vs ds p → (∀ x ∈ p, x.block < W.heap.size) → Below W.heap.size W W' → DataW.TrodAll enc P W' 0 (fun b => decide (b < W.heap.size)) true ts vs ds p
  | [], [], vs, ds, p, _, h, _, _ => by
    obtain ⟨h1, rfl, rfl⟩ := trodAll_nil h
    have : vs = [] := by simpa using h1
    subst this
    exact trodAll_mk0
  | [], _ :: _, _, _, _, hs, _, _, _ => by cases hs
  | _ :: _, [], _, _, _, hs, _, _, _ => by cases hs
  | t :: ts, s :: ss, vs, ds, p, hs, h, hlt, hb => by
    simp only [shpsOk, Bool.and_eq_true] at hs
    obtain ⟨v, vs', d, ds', p1, p2, rfl, rfl, rfl, h1, h2⟩ := trodAll_cons h
    have hso := hs.1
    unfold shpOk at hso
    simp only [Bool.and_eq_true, decide_eq_true_eq] at hso
    exact trodAll_cons_mk (Below.trod hl hso.1.1 hso.1.2 h1 hb fun x hx => hlt x (List.mem_append_left _ hx)) (Below.trodAll' hl hs.2 h2 (fun x hx => hlt x (List.mem_append_right _ hx)) hb)
end

theorem Fr.below {X : Nat → Prop} {w w' : World} (h : Fr X w w') (hx : ∀ k, k < w.heap.size → ¬ X k) : Below w.heap.size w w' :=
  ⟨h.os, h.tape, h.output, h.size, fun k hk => h.blk k hk (hx k hk)⟩

theorem laidOut : laidOutB Try.prog = true := by kernel_rfl
theorem ownK : ownKnob Try.prog.godebug = none := by kernel_rfl
theorem un4 : Try.prog.underlying 4 = some .bool := by kernel_rfl

noncomputable def trueF (K : Known) (fn : Func) : Spec := fun args h => .need (yes (∃ keep L d ts, (afun (GT K keep L ts) d fn args h).eval = some (Bo true, h))) (.ret (Bo true, h))
theorem trueF_ok {K : Known} (hK : KnownOk K) {f : Nat} {fn : Func} (hf : Try.prog.funcs[f]? = some fn) : SpecOk Try.prog f (trueF K fn) := by
  refine knownT hK hf fun args h r he => ?_
  obtain ⟨h1, he⟩ := Tr.eval_ask.1 he
  cases he
  exact h1

/-- A function that gives back 'true', whatever came in. -/
theorem law_callsT {H : Type} {enc : TypeId × Value → H} {W : World} {base : Nat} {K : Known} (hK : KnownOk K) {f : Nat} {fn : Func} (hf : Try.prog.funcs[f]? = some fn) {ts : List TypeId} {ss : List Shp} {args : Array Value} {ds : List (DataW H)} {p : List MemPlace} (hs : shpsOk Try.prog ts ss = true)
    (hval : ∀ (j : Nat) t v, ts[j]? = some t → args.toList[j]? = some v → Value.okWide Try.prog W .any base t v) (hA : DataW.TrodAll enc Try.prog W 0 (fun _ => true) true ts args.toList ds p) (hlt : ∀ x ∈ p, x.block < W.heap.size) (hwt : (DataW.weightsEach Try.prog ts ds).all (· ≤ reachBytes) = true)
    (he : ∀ is, InsOk ss is → ∃ keep L d tm, (afun (GT K keep L tm) d fn (avsIn 0 ss is) (blksIn ss is)).eval = some (Bo true, blksIn ss is)) :
    Calls Try.prog f args W fun e w' => e = .returned (.bool true) ∧ Below W.heap.size W w' := by
  obtain ⟨is, ml, h1, h2, h3⟩ := came_all hs hval hA hlt hwt
  obtain ⟨hH, ho⟩ := came_hr h2
  have hv : VRs ml (avsIn 0 ss is) args.toList := by simpa using h3 [] []
  have he' : (trueF K fn (avsIn 0 ss is) (blksIn ss is)).eval = some (Bo true, blksIn ss is) := Tr.eval_ask.2 ⟨he is h1, rfl⟩
  refine (trueF_ok hK hf _ _ _ _ _ he' ml W args hH (Nat.le_refl _) hv).mono fun e w' h => ?_
  obtain ⟨m', x, rfl, hst, hr⟩ := h
  have : x = .bool true := hr
  subst this
  refine ⟨rfl, hst.fr.below fun k _ => ?_⟩
  rintro ⟨id, b, p, A, hb, hown, _⟩
  rw [ho id b hb] at hown
  cases hown

theorem law_calls {H : Type} {enc : TypeId × Value → H} {W : World} {base : Nat} {K : Known} (hK : KnownOk K) {f : Nat} {fn : Func} (hf : Try.prog.funcs[f]? = some fn) {ts : List TypeId} {ss : List Shp} {args : Array Value} {ds : List (DataW H)} {p : List MemPlace} (hs : shpsOk Try.prog ts ss = true)
    (hval : ∀ (j : Nat) t v, ts[j]? = some t → args.toList[j]? = some v → Value.okWide Try.prog W .any base t v) (hA : DataW.TrodAll enc Try.prog W 0 (fun _ => true) true ts args.toList ds p) (hlt : ∀ x ∈ p, x.block < W.heap.size) (hwt : (DataW.weightsEach Try.prog ts ds).all (· ≤ reachBytes) = true)
    (he : ∀ is, InsOk ss is → ∃ keep L d, (afun (GK K keep L) d fn (avsIn 0 ss is) (blksIn ss is)).eval = some (Bo true, blksIn ss is)) :
    Calls Try.prog f args W fun e w' => e = .returned (.bool true) ∧ Below W.heap.size W w' :=
  law_callsT hK hf hs hval hA hlt hwt fun is h => by
    obtain ⟨keep, L, d, h⟩ := he is h
    exact ⟨keep, L, d, [], h⟩
end
section
open Go Go.RowKit
theorem law_callsS {H : Type} {enc : TypeId × Value → H} {W : World} {base : Nat} {K : Known} (hK : KnownOk K) {f : Nat} {fn : Func} (hf : Try.prog.funcs[f]? = some fn) {ts : List TypeId} {ss : List Shp} {args : Array Value} {ds : List (DataW H)} {p : List MemPlace} (hs : shpsOk Try.prog ts ss = true)
    (hval : ∀ (j : Nat) t v, ts[j]? = some t → args.toList[j]? = some v → Value.okWide Try.prog W .any base t v) (hA : DataW.TrodAll enc Try.prog W 0 (fun _ => true) true ts args.toList ds p) (hlt : ∀ x ∈ p, x.block < W.heap.size) (hwt : (DataW.weightsEach Try.prog ts ds).all (· ≤ reachBytes) = true)
    (he : ∀ is, InsOk ss is → ∃ keep tm d ℓ, LoopsSem (GT K keep 0 tm) (blksIn ss is).length ℓ ∧ (lfun (GT K keep 0 tm) ℓ d fn (avsIn 0 ss is) (blksIn ss is)).eval = some (Bo true, blksIn ss is)) :
    Calls Try.prog f args W fun e w' => e = .returned (.bool true) ∧ Below W.heap.size W w' := by
  obtain ⟨is, ml, h1, h2, h3⟩ := came_all hs hval hA hlt hwt
  obtain ⟨hH, ho⟩ := came_hr h2
  have hv : VRs ml (avsIn 0 ss is) args.toList := by simpa using h3 [] []
  have he' : (trueS K fn (avsIn 0 ss is) (blksIn ss is)).eval = some (Bo true, blksIn ss is) := Tr.eval_ask.2 ⟨he is h1, rfl⟩
  refine (trueS_ok hK hf _ _ _ _ _ he' ml W args hH (Nat.le_refl _) hv).mono fun e w' h => ?_
  obtain ⟨m', x, rfl, hst, hr⟩ := h
  have : x = .bool true := hr
  subst this
  refine ⟨rfl, hst.fr.below fun k _ => ?_⟩
  rintro ⟨id, b, p, A, hb, hown, _⟩
  rw [ho id b hb] at hown
  cases hown
end
section
open Go Go.RowKit
/-- From a state on the rounds of a loop come to an end, as told. -/
def LoopR (G : Ctx2) (n0 : Nat) (b : Code) (S : St) (r : Ex × St) : Prop :=
  ∃ L, ∀ (B : Nat) (m0 : List Pl) (h0 : AHeap) (w0 : World) (a : Act) (w : World), h0.length = n0 → m0.length = h0.length → RI B m0 h0 w0 S a w →
    ∀ Q, (∀ a' w', RI B m0 h0 w0 r.2 a' w' → Q (toExit r.1) a' w') → Code.rounds G.P b Q L a w
theorem LoopR.stop {G : Ctx2} {n0 : Nat} {b : Code} {S : St} {e : Ex} {Se : St} (he : e ≠ .normal) (h : CodeSem G n0 b S (e, Se)) : LoopR G n0 b S (e, Se) := by
  refine ⟨1, fun B m0 h0 w0 a w hn H0 hI Q hQ => ?_⟩
  rw [rounds_succ]
  refine h B m0 h0 w0 a w hn H0 hI _ ?_
  intro a' w' hI'
  cases e with
  | normal => exact absurd rfl he
  | exit id => exact hQ a' w' hI'
  | ret => exact hQ a' w' hI'
theorem LoopR.next {G : Ctx2} {n0 : Nat} {b : Code} {S S1 : St} {r : Ex × St} (h : CodeSem G n0 b S (.normal, S1)) (h2 : LoopR G n0 b S1 r) : LoopR G n0 b S r := by
  obtain ⟨L, h2⟩ := h2
  refine ⟨L + 1, fun B m0 h0 w0 a w hn H0 hI Q hQ => ?_⟩
  rw [rounds_succ]
  refine h B m0 h0 w0 a w hn H0 hI _ ?_
  intro a' w' hI'
  exact h2 B m0 h0 w0 a' w' hn H0 hI' Q hQ
theorem LoopR.sem {G : Ctx2} {n0 : Nat} {b : Code} {S : St} {r : Ex × St} (h : LoopR G n0 b S r) : CodeSem G n0 (.loop b) S r := by
  obtain ⟨L, h⟩ := h
  intro B m0 h0 w0 a w hn H0 hI Q hQ
  exact wp_loop_rounds L (h B m0 h0 w0 a w hn H0 hI Q hQ)
end
section
open Go Go.RowKit
abbrev allK : List (Nat × Option TypeId) := [(0,none),(5,some 87),(10,none),(11,none),(12,none)]
abbrev allKi : List (Nat × Option TypeId) := [(0,none),(5,some 87),(6,none),(7,none),(10,none),(11,none),(12,none),(19,none),(20,none)]
noncomputable def KA2 : Known := [(156, gyF), (124, bkF)]
theorem KA2_ok : KnownOk KA2 := consK gyF_ok (by kernel_rfl) (consK bkF_ok (by kernel_rfl) nilK)
noncomputable def allG : Ctx2 := GT KA2 (fun k => if k = 3 then allK else if k = 6 then allKi else []) 0 []
theorem allG_ok : XOk allG := GT_ok KA2_ok _ _ _
def rowGl (n : Nat) (L : Nat → Gl) : Option ABlk := some ⟨87, true, .row 4 n fun j => encG (L j)⟩
def rowRn (own : Bool) (n : Nat) (R : Nat → Rn) : Option ABlk := some ⟨83, own, .row 4 n fun j => encN (R j)⟩
def oneRn (r : Rn) : Option ABlk := some ⟨83, true, .one [i64 r.n, .v (.string r.s), i64 r.v, i64 r.l]⟩
def wiS (a : Nat → Int) (own : Bool) (o k n : Nat) (R : Nat → Rn) (na : Nat) (L : Nat → Gl) (r : Rn) (i at' : Int) : St :=
  ⟨slots 62 [(0, .c (.ptr 0 0 0)), (5, .c (.sl 2 0 na)), (6, I64 i), (7, .c (.ptr 3 0 0)), (10, .c (.sl 1 o k)), (11, I64 k), (12, I64 i), (19, I64 r.s.size), (20, I64 at')], [rowA a, rowRn own n R, rowGl na L, oneRn r]⟩
def woS (a : Nat → Int) (own : Bool) (o k n : Nat) (R : Nat → Rn) (na : Nat) (L : Nat → Gl) (i : Int) : St :=
  ⟨slots 62 [(0, .c (.ptr 0 0 0)), (5, .c (.sl 2 0 na)), (10, .c (.sl 1 o k)), (11, I64 k), (12, I64 i)], [rowA a, rowRn own n R, rowGl na L]⟩
noncomputable def wiT (a : Nat → Int) (own : Bool) (o k n : Nat) (R : Nat → Rn) (na : Nat) (L : Nat → Gl) (r : Rn) (i at' : Int) : Tr (Ex × St) := rT allG nol 2 46 (bodyOf Try.f123 1) allKi allKi (wiS a own o k n R na L r i at')
theorem wi_ex {a : Nat → Int} {own : Bool} {o k n : Nat} {R : Nat → Rn} {na : Nat} {L : Nat → Gl} {r : Rn} {i at' : Int} : (wiT a own o k n R na L r i at').go [false] = some ([!decide (at' < ((r.s.size : Nat) : Int))], Ex.exit 2, { sl := slots 62 [(0, .c (.ptr 0 0 0)), (5, .c (.sl 2 0 na)), (6, I64 i), (7, .c (.ptr 3 0 0)), (10, .c (.sl 1 o k)), (11, I64 ((k : Nat) : Int)), (12, I64 i), (19, I64 ((r.s.size : Nat) : Int)), (20, I64 at')], h := [some ⟨35, true, .row 1 256 fun k => [.int .i64 (a k)]⟩, some ⟨83, own, .row 4 n fun j => [.int .i64 (R j).n, .string (R j).s, .int .i64 (R j).v, .int .i64 (R j).l]⟩, some ⟨87, true, .row 4 na fun j => [.int .i64 (L j).k, .int .i64 (L j).r, .int .i64 (L j).a, .int .i64 (L j).w]⟩, some ⟨83, true, .one [i64 r.n, .v (.string r.s), i64 r.v, i64 r.l]⟩] }) := by kernel_rfl
theorem wi_ttt {a : Nat → Int} {own : Bool} {o k n : Nat} {R : Nat → Rn} {na : Nat} {L : Nat → Gl} {r : Rn} {i at' : Int} : (wiT a own o k n R na L r i at').go [] = some ([decide (at' < ((r.s.size : Nat) : Int)), decide ((0 : Int) ≤ at'), decide (at' < ((r.s.size : Nat) : Int)), yes ((0 : Int) ≤ bt r.s at' ∧ bt r.s at' < (256 : Int) ∧ (fun k => v1 (a k)) = fun k => v1 (vd (v1 (a k)))), blk { k := gk r.v (bt r.s at'), r := i, a := at', w := ga (Mt fun k => vd (v1 (a k))) r.v (bt r.s at') }, true, true, true, decide (((na : Nat) : Int) > (0 : Int)), true, true, true, true, decide ((0 : Int) ≤ w64 (((na : Nat) : Int) - (1 : Int))), decide (w64 (((na : Nat) : Int) - (1 : Int)) < ((na : Nat) : Int)), true, decide (0 + (w64 (((na : Nat) : Int) - (1 : Int))).toNat < na), true, true, blk { k := (L (0 + (w64 (((na : Nat) : Int) - (1 : Int))).toNat)).k, r := (L (0 + (w64 (((na : Nat) : Int) - (1 : Int))).toNat)).r, a := (L (0 + (w64 (((na : Nat) : Int) - (1 : Int))).toNat)).a, w := (L (0 + (w64 (((na : Nat) : Int) - (1 : Int))).toNat)).w }], Ex.normal, { sl := slots 62 [(0, .c (.ptr 0 0 0)), (5, .c (.sl 2 0 na)), (6, I64 i), (7, .c (.ptr 3 0 0)), (10, .c (.sl 1 o k)), (11, I64 ((k : Nat) : Int)), (12, I64 i), (19, I64 ((r.s.size : Nat) : Int)), (20, I64 (w64 (at' + (1 : Int))))], h := [some ⟨35, true, .row 1 256 fun k => [.int .i64 (a k)]⟩, some ⟨83, own, .row 4 n fun j => [.int .i64 (R j).n, .string (R j).s, .int .i64 (R j).v, .int .i64 (R j).l]⟩, some ⟨87, true, .row 4 na fun j => [.int .i64 (L j).k, .int .i64 (L j).r, .int .i64 (L j).a, .int .i64 (L j).w]⟩, some ⟨83, true, .one [i64 r.n, .v (.string r.s), i64 r.v, i64 r.l]⟩] }) := by kernel_rfl
theorem wi_ttf {a : Nat → Int} {own : Bool} {o k n : Nat} {R : Nat → Rn} {na : Nat} {L : Nat → Gl} {r : Rn} {i at' : Int} : (wiT a own o k n R na L r i at').go [true, true, true, true, true, true, true, true, true, true, true, true, true, true, true, true, true, true, true, false] = some ([decide (at' < ((r.s.size : Nat) : Int)), decide ((0 : Int) ≤ at'), decide (at' < ((r.s.size : Nat) : Int)), yes ((0 : Int) ≤ bt r.s at' ∧ bt r.s at' < (256 : Int) ∧ (fun k => v1 (a k)) = fun k => v1 (vd (v1 (a k)))), blk { k := gk r.v (bt r.s at'), r := i, a := at', w := ga (Mt fun k => vd (v1 (a k))) r.v (bt r.s at') }, true, true, true, decide (((na : Nat) : Int) > (0 : Int)), true, true, true, true, decide ((0 : Int) ≤ w64 (((na : Nat) : Int) - (1 : Int))), decide (w64 (((na : Nat) : Int) - (1 : Int)) < ((na : Nat) : Int)), true, decide (0 + (w64 (((na : Nat) : Int) - (1 : Int))).toNat < na), true, true, !blk { k := (L (0 + (w64 (((na : Nat) : Int) - (1 : Int))).toNat)).k, r := (L (0 + (w64 (((na : Nat) : Int) - (1 : Int))).toNat)).r, a := (L (0 + (w64 (((na : Nat) : Int) - (1 : Int))).toNat)).a, w := (L (0 + (w64 (((na : Nat) : Int) - (1 : Int))).toNat)).w }, decide (na = na), true, decide ((na + 1) * 32 ≤ maxCells)], Ex.normal, { sl := slots 62 [(0, .c (.ptr 0 0 0)), (5, .c (.sl 2 0 (na + 1))), (6, I64 i), (7, .c (.ptr 3 0 0)), (10, .c (.sl 1 o k)), (11, I64 ((k : Nat) : Int)), (12, I64 i), (19, I64 ((r.s.size : Nat) : Int)), (20, I64 (w64 (at' + (1 : Int))))], h := [some ⟨35, true, .row 1 256 fun k => [.int .i64 (a k)]⟩, some ⟨83, own, .row 4 n fun j => [.int .i64 (R j).n, .string (R j).s, .int .i64 (R j).v, .int .i64 (R j).l]⟩, some ⟨87, true, .row 4 (na + 1) fun k => [.int .i64 (bif decide (k = na) then gk r.v (bt r.s at') else (L k).k), .int .i64 (bif decide (k = na) then i else (L k).r), .int .i64 (bif decide (k = na) then at' else (L k).a), .int .i64 (bif decide (k = na) then ga (Mt fun k => vd (v1 (a k))) r.v (bt r.s at') else (L k).w)]⟩, some ⟨83, true, .one [i64 r.n, .v (.string r.s), i64 r.v, i64 r.l]⟩] }) := by kernel_rfl
theorem wi_tf {a : Nat → Int} {own : Bool} {o k n : Nat} {R : Nat → Rn} {na : Nat} {L : Nat → Gl} {r : Rn} {i at' : Int} : (wiT a own o k n R na L r i at').go [true, true, true, true, true, true, true, true, false, false, false, false, false, false, false, false, false] = some ([decide (at' < ((r.s.size : Nat) : Int)), decide ((0 : Int) ≤ at'), decide (at' < ((r.s.size : Nat) : Int)), yes ((0 : Int) ≤ bt r.s at' ∧ bt r.s at' < (256 : Int) ∧ (fun k => v1 (a k)) = fun k => v1 (vd (v1 (a k)))), blk { k := gk r.v (bt r.s at'), r := i, a := at', w := ga (Mt fun k => vd (v1 (a k))) r.v (bt r.s at') }, true, true, true, !decide (((na : Nat) : Int) > (0 : Int)), true, true, true, true, true, true, true, true, decide (na = na), true, decide ((na + 1) * 32 ≤ maxCells)], Ex.normal, { sl := slots 62 [(0, .c (.ptr 0 0 0)), (5, .c (.sl 2 0 (na + 1))), (6, I64 i), (7, .c (.ptr 3 0 0)), (10, .c (.sl 1 o k)), (11, I64 ((k : Nat) : Int)), (12, I64 i), (19, I64 ((r.s.size : Nat) : Int)), (20, I64 (w64 (at' + (1 : Int))))], h := [some ⟨35, true, .row 1 256 fun k => [.int .i64 (a k)]⟩, some ⟨83, own, .row 4 n fun j => [.int .i64 (R j).n, .string (R j).s, .int .i64 (R j).v, .int .i64 (R j).l]⟩, some ⟨87, true, .row 4 (na + 1) fun k => [.int .i64 (bif decide (k = na) then gk r.v (bt r.s at') else (L k).k), .int .i64 (bif decide (k = na) then i else (L k).r), .int .i64 (bif decide (k = na) then at' else (L k).a), .int .i64 (bif decide (k = na) then ga (Mt fun k => vd (v1 (a k))) r.v (bt r.s at') else (L k).w)]⟩, some ⟨83, true, .one [i64 r.n, .v (.string r.s), i64 r.v, i64 r.l]⟩] }) := by kernel_rfl
theorem wi_f {a : Nat → Int} {own : Bool} {o k n : Nat} {R : Nat → Rn} {na : Nat} {L : Nat → Gl} {r : Rn} {i at' : Int} : (wiT a own o k n R na L r i at').go [true, true, true, true, false, false, false, false, false, false, false, false, false, false, false, false, false] = some ([decide (at' < ((r.s.size : Nat) : Int)), decide ((0 : Int) ≤ at'), decide (at' < ((r.s.size : Nat) : Int)), yes ((0 : Int) ≤ bt r.s at' ∧ bt r.s at' < (256 : Int) ∧ (fun k => v1 (a k)) = fun k => v1 (vd (v1 (a k)))), !blk { k := gk r.v (bt r.s at'), r := i, a := at', w := ga (Mt fun k => vd (v1 (a k))) r.v (bt r.s at') }, true, true, true, true, true, true, true, true, true, true, true, true, decide (na = na), true, decide ((na + 1) * 32 ≤ maxCells)], Ex.normal, { sl := slots 62 [(0, .c (.ptr 0 0 0)), (5, .c (.sl 2 0 (na + 1))), (6, I64 i), (7, .c (.ptr 3 0 0)), (10, .c (.sl 1 o k)), (11, I64 ((k : Nat) : Int)), (12, I64 i), (19, I64 ((r.s.size : Nat) : Int)), (20, I64 (w64 (at' + (1 : Int))))], h := [some ⟨35, true, .row 1 256 fun k => [.int .i64 (a k)]⟩, some ⟨83, own, .row 4 n fun j => [.int .i64 (R j).n, .string (R j).s, .int .i64 (R j).v, .int .i64 (R j).l]⟩, some ⟨87, true, .row 4 (na + 1) fun k => [.int .i64 (bif decide (k = na) then gk r.v (bt r.s at') else (L k).k), .int .i64 (bif decide (k = na) then i else (L k).r), .int .i64 (bif decide (k = na) then at' else (L k).a), .int .i64 (bif decide (k = na) then ga (Mt fun k => vd (v1 (a k))) r.v (bt r.s at') else (L k).w)]⟩, some ⟨83, true, .one [i64 r.n, .v (.string r.s), i64 r.v, i64 r.l]⟩] }) := by kernel_rfl
noncomputable def woT (a : Nat → Int) (own : Bool) (o k n : Nat) (R : Nat → Rn) (na : Nat) (L : Nat → Gl) (na' : Nat) (L' : Nat → Gl) (i z : Int) : Tr (Ex × St) :=
  rT allG (tell (bodyOf Try.f123 1) (wiS a own o k n R na L (R (o + i.toNat)) i 0) (.exit 2, wiS a own o k n R na' L' (R (o + i.toNat)) i z)) 2 54 (bodyOf Try.f123 0) allK allK (woS a own o k n R na L i)
theorem wo_go {a : Nat → Int} {own : Bool} {o k n : Nat} {R : Nat → Rn} {na : Nat} {L : Nat → Gl} {na' : Nat} {L' : Nat → Gl} {i z : Int} : (woT a own o k n R na L na' L' i z).go [] = some ([decide (i < ((k : Nat) : Int)), decide ((0 : Int) ≤ i), decide (i < ((k : Nat) : Int)), decide (o + i.toNat < n), yes (wasS (bodyOf Try.f123 1) (wiS a own o k n R na L (R (o + i.toNat)) i 0))], Ex.normal, { sl := slots 62 [(0, .c (.ptr 0 0 0)), (5, .c (.sl 2 0 na')), (10, .c (.sl 1 o k)), (11, I64 ((k : Nat) : Int)), (12, I64 (w64 (i + (1 : Int))))], h := [some ⟨35, true, .row 1 256 fun k => [.int .i64 (a k)]⟩, some ⟨83, own, .row 4 n fun j => [.int .i64 (R j).n, .string (R j).s, .int .i64 (R j).v, .int .i64 (R j).l]⟩, some ⟨87, true, .row 4 na' fun j => [.int .i64 (L' j).k, .int .i64 (L' j).r, .int .i64 (L' j).a, .int .i64 (L' j).w]⟩] }) := by kernel_rfl
theorem wo_ex {a : Nat → Int} {own : Bool} {o k n : Nat} {R : Nat → Rn} {na : Nat} {L : Nat → Gl} {i : Int} : (rT allG nol 2 54 (bodyOf Try.f123 0) allK allK (woS a own o k n R na L i)).go [false] = some ([!decide (i < ((k : Nat) : Int))], Ex.exit 0, { sl := slots 62 [(0, .c (.ptr 0 0 0)), (5, .c (.sl 2 0 na)), (10, .c (.sl 1 o k)), (11, I64 ((k : Nat) : Int)), (12, I64 i)], h := [some ⟨35, true, .row 1 256 fun k => [.int .i64 (a k)]⟩, some ⟨83, own, .row 4 n fun j => [.int .i64 (R j).n, .string (R j).s, .int .i64 (R j).v, .int .i64 (R j).l]⟩, some ⟨87, true, .row 4 na fun j => [.int .i64 (L j).k, .int .i64 (L j).r, .int .i64 (L j).a, .int .i64 (L j).w]⟩] }) := by kernel_rfl
theorem all_w {a : Nat → Int} {own : Bool} {o k n : Nat} {R : Nat → Rn} {na : Nat} {L : Nat → Gl} {z : Int} : (lfun allG (tell (bodyOf Try.f123 0) (woS a own o k n R 0 (fun _ => zGl) 0) (.exit 0, woS a own o k n R na L z)) 60 Try.f123 [.c (.ptr 0 0 0), .c (.sl 1 o k)] [rowA a, rowRn own n R]).go [] = some ([yes (wasS (bodyOf Try.f123 0) (woS a own o k n R 0 (fun _ => zGl) 0))], .c (.sl 2 0 na), [some ⟨35, true, .row 1 256 fun k => [.int .i64 (a k)]⟩, some ⟨83, own, .row 4 n fun j => [.int .i64 (R j).n, .string (R j).s, .int .i64 (R j).v, .int .i64 (R j).l]⟩, some ⟨87, true, .row 4 na fun j => [.int .i64 (L j).k, .int .i64 (L j).r, .int .i64 (L j).a, .int .i64 (L j).w]⟩]) := by kernel_rfl
end
section
open Go Go.RowKit
theorem cells32 {n : Nat} (h : n ≤ 2 ^ 40) : decide (n * 32 ≤ maxCells) = true := decide_eq_true (by unfold maxCells; omega)
theorem lastB_at {acc : List Gl} (h : 0 < acc.length) : lastB blk acc = blk (at_ acc (acc.length - 1)) := by
  unfold lastB
  rw [List.getLast?_eq_getElem?, List.getElem?_eq_getElem (by omega), at_get (by omega)]
theorem upd_at (acc : List Gl) (g : Gl) : upd (fun j => encG (at_ acc j)) acc.length (encG g) = fun j => encG (at_ (acc ++ [g]) j) := upd_lrow encG zGl acc g
theorem bt_lt (s : ByteArray) (i : Int) : 0 ≤ bt s i ∧ bt s i < 256 := by
  unfold bt
  have := UInt8.toNat_lt (s.data.toList.getD i.toNat 0)
  omega
theorem succ64 {j : Nat} (h : j < 2 ^ 60) : w64 ((j : Int) + 1) = ((j + 1 : Nat) : Int) := by rw [w64_id (by omega) (by omega)]; omega
theorem put_f {b : Gl → Bool} {acc : List Gl} {g : Gl} (h : b g = false) : put b acc g = acc ++ [g] := by simp [put, h]
theorem put_tf {b : Gl → Bool} {acc : List Gl} {g : Gl} (h : lastB b acc = false) : put b acc g = acc ++ [g] := by simp [put, h]
theorem put_tt {b : Gl → Bool} {acc : List Gl} {g : Gl} (h : b g = true) (h' : lastB b acc = true) : put b acc g = acc := by simp [put, h, h']
def decN : List Value → Rn
  | [.int _ a, .string s, .int _ b, .int _ c] => ⟨a, s, b, c⟩
  | _ => zRn
def decG : List Value → Gl
  | [.int _ a, .int _ b, .int _ c, .int _ d] => ⟨a, b, c, d⟩
  | _ => zGl
def wiI (a : Nat → Int) (own : Bool) (o k n : Nat) (R : Nat → Rn) (acc : List Gl) (r : Rn) (i : Nat) (j : Nat) : St :=
  wiS a own o k n R (goB (Mt a) r.v i r.s acc j).length (at_ (goB (Mt a) r.v i r.s acc j)) r i j
theorem wi_step {a : Nat → Int} {own : Bool} {o k n : Nat} {R : Nat → Rn} {acc : List Gl} {r : Rn} {i j : Nat} (hj : j < r.s.size) (hb : acc.length + r.s.size < 2 ^ 40) :
    (rT allG nol 2 46 (bodyOf Try.f123 1) allKi allKi (wiI a own o k n R acc r i j)).eval = some (.normal, wiI a own o k n R acc r i (j + 1)) := by
  have hl := goB_len (M := Mt a) (v := r.v) (r := i) (s := r.s) (acc := acc) j
  obtain ⟨b0, b1⟩ := bt_lt r.s j
  have h3 := succ64 (j := j) (by omega)
  have hy : yes ((0 : Int) ≤ bt r.s j ∧ bt r.s j < (256 : Int) ∧ (fun k => v1 (a k)) = fun k => v1 (vd (v1 (a k)))) = true := yes_of ⟨b0, b1, rfl⟩
  have e1 : goB (Mt a) r.v i r.s acc (j + 1) = put blk (goB (Mt a) r.v i r.s acc j) (gl (Mt a) r.v i j (bt r.s j)) := rfl
  have app : ∀ A : List Gl, A.length ≤ acc.length + j → put blk A (gl (Mt a) r.v i j (bt r.s j)) = A ++ [gl (Mt a) r.v i j (bt r.s j)] →
      some (Ex.normal, wiS a own o k n R (A.length + 1) (at_ (A ++ [gl (Mt a) r.v i j (bt r.s j)])) r i ((j + 1 : Nat) : Int)) = some (Ex.normal, wiS a own o k n R (put blk A (gl (Mt a) r.v i j (bt r.s j))).length (at_ (put blk A (gl (Mt a) r.v i j (bt r.s j)))) r i ((j + 1 : Nat) : Int)) := by
    intro A _ h
    rw [h]
    simp
  have fin : ∀ A : List Gl, (⟨slots 62 [(0, .c (.ptr 0 0 0)), (5, .c (.sl 2 0 (A.length + 1))), (6, I64 i), (7, .c (.ptr 3 0 0)), (10, .c (.sl 1 o k)), (11, I64 k), (12, I64 i), (19, I64 r.s.size), (20, I64 ((j + 1 : Nat) : Int))],
      [rowA a, rowRn own n R, some ⟨87, true, .row 4 (A.length + 1) (upd (fun j => encG (at_ A j)) A.length (encG (gl (Mt a) r.v i j (bt r.s j))))⟩, oneRn r]⟩ : St) = wiS a own o k n R (A.length + 1) (at_ (A ++ [gl (Mt a) r.v i j (bt r.s j)])) r i ((j + 1 : Nat) : Int) := by
    intro A
    rw [upd_at]
    rfl
  unfold wiI
  rw [e1]
  generalize goB (Mt a) r.v i r.s acc j = A at hl ⊢
  have hc := cells32 (n := A.length + 1) (by omega)
  have hnn : decide (A.length = A.length) = true := decide_eq_true rfl
  have p1 : decide ((j : Int) < (r.s.size : Int)) = true := decide_eq_true (by omega)
  have p2 : decide ((0 : Int) ≤ (j : Int)) = true := decide_eq_true (by omega)
  by_cases hbl : blk (gl (Mt a) r.v i j (bt r.s j)) = true
  · by_cases h0 : 0 < A.length
    · have hw : w64 ((A.length : Int) - 1) = ((A.length - 1 : Nat) : Int) := by rw [w64_id (by omega) (by omega)]; omega
      have p3 : decide ((A.length : Int) > (0 : Int)) = true := decide_eq_true (by omega)
      have p4 : decide ((0 : Int) ≤ w64 ((A.length : Int) - 1)) = true := decide_eq_true (by omega)
      have p5 : decide (w64 ((A.length : Int) - 1) < (A.length : Int)) = true := decide_eq_true (by omega)
      have p6 : decide (0 + (w64 ((A.length : Int) - 1)).toNat < A.length) = true := decide_eq_true (by omega)
      have el : 0 + (w64 ((A.length : Int) - 1)).toNat = A.length - 1 := by omega
      by_cases hla : lastB blk A = true
      · have p7 : blk (at_ A (0 + (w64 ((A.length : Int) - 1)).toNat)) = true := by rw [el, ← lastB_at h0]; exact hla
        refine (rT_go wi_ttt ?_).trans ?_
        · repeat' (first | exact AllT.nil | refine AllT.cons ?_ ?_)
          all_goals first | (with_reducible rfl) | assumption
        · rw [h3, put_tt hbl hla]
          rfl
      · have hla' : lastB blk A = false := by simpa using hla
        have p7 : (!blk (at_ A (0 + (w64 ((A.length : Int) - 1)).toNat))) = true := by rw [el, ← lastB_at h0, hla']; rfl
        refine (rT_go wi_ttf ?_).trans ?_
        · repeat' (first | exact AllT.nil | refine AllT.cons ?_ ?_)
          all_goals first | (with_reducible rfl) | assumption
        · rw [h3]
          refine Eq.trans ?_ (app A (by omega) (put_tf hla'))
          rw [← fin A]
          rfl
    · have hA : A = [] := List.length_eq_zero_iff.1 (by omega)
      have p3 : (!decide ((A.length : Int) > (0 : Int))) = true := by simp; omega
      refine (rT_go wi_tf ?_).trans ?_
      · repeat' (first | exact AllT.nil | refine AllT.cons ?_ ?_)
        all_goals first | (with_reducible rfl) | assumption
      · rw [h3]
        refine Eq.trans ?_ (app A (by omega) (put_tf (by rw [hA]; rfl)))
        rw [← fin A]
        rfl
  · have hbl' : blk (gl (Mt a) r.v i j (bt r.s j)) = false := by simpa using hbl
    have p3 : (!blk (gl (Mt a) r.v i j (bt r.s j))) = true := by rw [hbl']; rfl
    refine (rT_go wi_f ?_).trans ?_
    · repeat' (first | exact AllT.nil | refine AllT.cons ?_ ?_)
      all_goals first | (with_reducible rfl) | assumption
    · rw [h3]
      refine Eq.trans ?_ (app A (by omega) (put_f hbl'))
      rw [← fin A]
      rfl
theorem lenR_le {R : Nat → Rn} {k : Nat} : ∀ i, i < k → lenR R i + (R i).s.size ≤ lenR R k := by
  intro i hi
  have : ∀ m, i + 1 ≤ m → lenR R (i + 1) ≤ lenR R m := by
    intro m
    induction m with
    | zero => omega
    | succ m ih =>
      intro h
      have e : lenR R (m + 1) = lenR R m + (R m).s.size := rfl
      rcases Nat.lt_or_ge i m with h' | h'
      · have := ih (by omega)
        omega
      · have : i = m := by omega
        subst this
        exact Nat.le_refl _
  have e : lenR R (i + 1) = lenR R i + (R i).s.size := rfl
  have := this k (by omega)
  omega
theorem wi_loop {a : Nat → Int} {own : Bool} {o k n : Nat} {R : Nat → Rn} {acc : List Gl} {r : Rn} {i : Nat} (hb : acc.length + r.s.size < 2 ^ 40) :
    CodeSem allG 2 (.loop (bodyOf Try.f123 1)) (wiS a own o k n R acc.length (at_ acc) r i 0) (.exit 2, wiS a own o k n R (goB (Mt a) r.v i r.s acc r.s.size).length (at_ (goB (Mt a) r.v i r.s acc r.s.size)) r i r.s.size) := by
  refine loop_sem allG_ok (ℓ := nol) (d := 46) (k := allKi) (ka := allKi) noLoopsS (fun j => wiI a own o k n R acc r i j) r.s.size (by simp) ?_ fun j hj => wi_step hj hb
  exact rT_go wi_ex ⟨by simp, trivial⟩
theorem wo_loop {a : Nat → Int} {own : Bool} {o k n : Nat} {R : Nat → Rn} (hn : o + k ≤ n) (hk : k < 2 ^ 40) (hb : lenR (fun i => R (o + i)) k < 2 ^ 39) :
    CodeSem allG 2 (.loop (bodyOf Try.f123 0)) (woS a own o k n R 0 (fun _ => zGl) 0) (.exit 0, woS a own o k n R (goR (Mt a) (fun i => R (o + i)) k).length (at_ (goR (Mt a) (fun i => R (o + i)) k)) k) := by
  have hmono := lenR_le (R := fun i => R (o + i)) (k := k)
  let st : Nat → St := fun i => woS a own o k n R (goR (Mt a) (fun i => R (o + i)) i).length (at_ (goR (Mt a) (fun i => R (o + i)) i)) i
  have step : ∀ j, j < k → CodeSem allG 2 (bodyOf Try.f123 0) (st j) (.normal, st (j + 1)) := by
    intro j hj
    have h1 := hmono j hj
    have h2 := goR_len (M := Mt a) (R := fun i => R (o + i)) j
    have hin := wi_loop (a := a) (own := own) (o := o) (k := k) (n := n) (R := R) (acc := goR (Mt a) (fun i => R (o + i)) j) (r := R (o + j)) (i := j) (by omega)
    have h3 := succ64 (j := j) (by omega)
    have hgo := wo_go (a := a) (own := own) (o := o) (k := k) (n := n) (R := R) (na := (goR (Mt a) (fun i => R (o + i)) j).length) (L := at_ (goR (Mt a) (fun i => R (o + i)) j))
      (na' := (goR (Mt a) (fun i => R (o + i)) (j + 1)).length) (L' := at_ (goR (Mt a) (fun i => R (o + i)) (j + 1))) (i := j) (z := (R (o + j)).s.size)
    refine rT_sem allG_ok (tell_ok hin) ((rT_go hgo ?_).trans ?_)
    · simp only [Int.toNat_natCast]
      repeat' (first | exact AllT.nil | refine AllT.cons ?_ ?_)
      all_goals first | (with_reducible rfl) | exact decide_eq_true (by omega) | exact yes_of ⟨rfl, rfl⟩
    · rw [h3]
      rfl
  have stop : CodeSem allG 2 (bodyOf Try.f123 0) (st k) (.exit 0, st k) := rT_sem allG_ok noLoopsS (rT_go wo_ex ⟨by simp, trivial⟩)
  exact loop_of st k (by simp) stop step
noncomputable def allF : Spec := fun args h => match args, h with
  | [.c (.ptr 0 0 0), .c (.sl 1 o k)], [some ⟨35, true, .row 1 256 f⟩, some ⟨83, own, .row 4 n q⟩] =>
    .need (yes (o + k ≤ n ∧ k < 2 ^ 40 ∧ lenR (fun i => decN (q (o + i))) k < 2 ^ 39 ∧ (f = fun k => v1 (vd (f k))) ∧ q = fun j => encN (decN (q j))))
      (.ret (.c (.sl 2 0 (goR (Mt fun k => vd (f k)) (fun i => decN (q (o + i))) k).length), [some ⟨35, true, .row 1 256 f⟩, some ⟨83, own, .row 4 n q⟩,
        rowGl (goR (Mt fun k => vd (f k)) (fun i => decN (q (o + i))) k).length (at_ (goR (Mt fun k => vd (f k)) (fun i => decN (q (o + i))) k))]))
  | _, _ => .fail
theorem allF_ok : SpecOk Try.prog 123 allF := by
  refine knownS KA2_ok Try.func123 fun args h r he => ?_
  unfold allF at he
  split at he
  · rename_i o k f own n q
    obtain ⟨⟨h1, h2, h3, h4, h5⟩, he⟩ := Tr.eval_ask.1 he
    cases he
    have hl := wo_loop (a := fun k => vd (f k)) (own := own) (R := fun j => decN (q j)) h1 h2 h3
    refine ⟨_, [], 60, _, tell_ok hl, ?_⟩
    have e1 : some ⟨35, true, .row 1 256 f⟩ = rowA fun k => vd (f k) := by rw [rowA, ← h4]
    have e2 : some ⟨83, own, .row 4 n q⟩ = rowRn own n fun j => decN (q j) := by rw [rowRn, ← h5]
    rw [e1, e2]
    exact Tr.go_eval all_w ⟨yes_of ⟨rfl, rfl⟩, trivial⟩
  · cases he
end
section
open Go Go.RowKit
/-- The first place from a on that is not so, at most f further. -/
def fstN (p : Nat → Bool) : Nat → Nat → Nat
  | 0, a => a
  | f + 1, a => bif p a then fstN p f (a + 1) else a
theorem fstN_spec {p : Nat → Bool} : ∀ f a, a ≤ fstN p f a ∧ fstN p f a ≤ a + f ∧ (∀ j, a ≤ j → j < fstN p f a → p j = true) ∧ (fstN p f a = a + f ∨ p (fstN p f a) = false)
  | 0, a => ⟨Nat.le_refl _, Nat.le_refl _, fun j h1 h2 => by simp only [fstN] at h2; omega, .inl rfl⟩
  | f + 1, a => by
    rw [fstN]
    cases hp : p a
    · exact ⟨Nat.le_refl _, by simp only [cond_false]; omega, fun j h1 h2 => by simp only [cond_false] at h2; omega, .inr hp⟩
    · simp only [cond_true]
      obtain ⟨h1, h2, h3, h4⟩ := fstN_spec (p := p) f (a + 1)
      refine ⟨by omega, by omega, fun j j1 j2 => ?_, by rcases h4 with h4 | h4; · exact .inl (by omega)
                                                        · exact .inr h4⟩
      rcases Nat.lt_or_ge a j with h | h
      · exact h3 j h j2
      · rw [show j = a by omega]; exact hp
def bkc (c : Int) : Bool := c == 32 || c == 9 || c == 10
def nmc (c : Int) : Bool := (decide (c ≥ 97) && decide (c ≤ 122)) || c == 45
def vlc (c : Int) : Bool := nmc c || (decide (c ≥ 48) && decide (c ≤ 57)) || c == 46 || c == 37
def dgc (c : Int) : Bool := decide (c ≥ 48) && decide (c ≤ 57)
theorem bkc_nf {c : Int} : (lfun niG nol 60 Try.f176 [U8 c] []).eval =
  bif c == (32 : Int) then some (Bo true, [])
  else bif c == (9 : Int) then some (Bo true, []) else some (Bo (c == (10 : Int)), []) := by kernel_rfl
theorem nmc_nf {c : Int} : (lfun niG nol 60 Try.f172 [U8 c] []).eval =
  bif decide (c ≥ (97 : Int)) then
    bif decide (c ≤ (122 : Int)) then some (Bo true, []) else some (Bo (c == (45 : Int)), [])
  else some (Bo (c == (45 : Int)), []) := by kernel_rfl
noncomputable def c8F (p : Int → Bool) : Spec := fun args h => match args, h with
  | [.c (.v (.int .u8 c))], [] => .ret (Bo (p c), [])
  | _, _ => .fail
theorem bkc_ok : SpecOk Try.prog 176 (c8F bkc) := by
  refine knownS nilK Try.func176 fun args h r he => ?_
  unfold c8F at he
  split at he
  · cases he
    refine ⟨fun _ => [], [], 60, nol, noLoopsS, bkc_nf.trans ?_⟩
    unfold bkc
    rename_i c
    cases (c == 32) <;> cases (c == 9) <;> rfl
  · cases he
theorem nmc_ok : SpecOk Try.prog 172 (c8F nmc) := by
  refine knownS nilK Try.func172 fun args h r he => ?_
  unfold c8F at he
  split at he
  · cases he
    refine ⟨fun _ => [], [], 60, nol, noLoopsS, nmc_nf.trans ?_⟩
    unfold nmc
    rename_i c
    cases (decide (c ≥ 97)) <;> cases (decide (c ≤ 122)) <;> rfl
  · cases he
noncomputable def KPN : Known := [(172, c8F nmc)]
theorem KPN_ok : KnownOk KPN := consK nmc_ok (by kernel_rfl) nilK
noncomputable def pnG : Ctx2 := GT KPN (fun _ => []) 0 []
theorem vlc_nf {c : Int} : (lfun pnG nol 60 Try.f173 [U8 c] []).eval =
  bif nmc c then some (Bo true, [])
  else
    bif decide (c ≥ (48 : Int)) then
      bif decide (c ≤ (57 : Int)) then some (Bo true, [])
      else bif c == (46 : Int) then some (Bo true, []) else some (Bo (c == (37 : Int)), [])
    else bif c == (46 : Int) then some (Bo true, []) else some (Bo (c == (37 : Int)), []) := by kernel_rfl
theorem vlc_ok : SpecOk Try.prog 173 (c8F vlc) := by
  refine knownS KPN_ok Try.func173 fun args h r he => ?_
  unfold c8F at he
  split at he
  · cases he
    refine ⟨fun _ => [], [], 60, nol, noLoopsS, vlc_nf.trans ?_⟩
    unfold vlc
    rename_i c
    cases (nmc c) <;> cases (decide (c ≥ 48)) <;> cases (decide (c ≤ 57)) <;> cases (c == 46) <;> rfl
  · cases he
abbrev StrA (s : ByteArray) : AV := .c (.v (.string s))
noncomputable def KPS : Known := [(176, c8F bkc)]
theorem KPS_ok : KnownOk KPS := consK bkc_ok (by kernel_rfl) nilK
abbrev skK : List (Nat × Option TypeId) := [(0,none),(1,none)]
noncomputable def skG : Ctx2 := GT KPS (fun k => if k = 1 then skK else []) 0 []
theorem skG_ok : XOk skG := GT_ok KPS_ok _ _ _
def skS (s : ByteArray) (a : Int) : St := ⟨slots 18 [(0, StrA s), (1, I64 a)], []⟩
theorem sk_go {s : ByteArray} {a : Int} : (rT skG nol 0 56 (bodyOf Try.f171 0) skK skK (skS s a)).go [] =
  some
    ([decide (a < ((s.size : Nat) : Int)), true, true, decide ((0 : Int) ≤ a), decide (a < ((s.size : Nat) : Int)), true, true, bkc (bt s a)],
      Ex.normal,
      { sl := slots 18 [(0, AV.c (AC.v (Value.string s))), (1, I64 (w64 (a + (1 : Int))))],
        h := [] }) := by kernel_rfl
theorem sk_e1 {s : ByteArray} {a : Int} : (rT skG nol 0 56 (bodyOf Try.f171 0) skK skK (skS s a)).go [false, false, false, false, false, false] =
  some
    ([!decide (a < ((s.size : Nat) : Int)), true, true, true, true, true], Ex.exit 0,
      { sl := slots 18 [(0, AV.c (AC.v (Value.string s))), (1, I64 a)], h := [] }) := by kernel_rfl
theorem sk_e2 {s : ByteArray} {a : Int} : (rT skG nol 0 56 (bodyOf Try.f171 0) skK skK (skS s a)).go [true, true, true, true, true, true, true, false] =
  some
    ([decide (a < ((s.size : Nat) : Int)), true, true, decide ((0 : Int) ≤ a), decide (a < ((s.size : Nat) : Int)), true, true, !bkc (bt s a)],
      Ex.exit 0,
      { sl := slots 18 [(0, AV.c (AC.v (Value.string s))), (1, I64 a)], h := [] }) := by kernel_rfl
theorem sk_w {s : ByteArray} {a z : Int} : (lfun skG (tell (bodyOf Try.f171 0) (skS s a) (.exit 0, skS s z)) 60 Try.f171 [StrA s, I64 a] []).go [] =
  some ([yes (wasS (bodyOf Try.f171 0) (skS s a))], I64 z, []) := by kernel_rfl
abbrev dgK : List (Nat × Option TypeId) := [(0,none),(1,none),(5,none)]
noncomputable def dgG : Ctx2 := GT [] (fun k => if k = 2 then dgK else []) 0 []
theorem dgG_ok : XOk dgG := GT_ok nilK _ _ _
def dgS (s : ByteArray) (a n : Int) : St := ⟨slots 31 [(0, StrA s), (1, I64 a), (5, I64 n)], []⟩
theorem dg_go {s : ByteArray} {a n : Int} : (rT dgG nol 0 55 (bodyOf Try.f183 0) dgK dgK (dgS s a n)).go [] =
  some
    ([decide (w64 (a + n) < ((s.size : Nat) : Int)), true, true, true, true, decide ((0 : Int) ≤ w64 (a + n)),
        decide (w64 (a + n) < ((s.size : Nat) : Int)), true, true, decide (bt s (w64 (a + n)) ≥ (48 : Int)), true, true, true, true,
        decide ((0 : Int) ≤ w64 (a + n)), decide (w64 (a + n) < ((s.size : Nat) : Int)), true, true,
        decide (bt s (w64 (a + n)) ≤ (57 : Int))],
      Ex.normal,
      {
        sl :=
          slots 31
            [(0, AV.c (AC.v (Value.string s))), (1, I64 a), (5, I64 (w64 (n + (1 : Int))))],
        h := [] }) := by kernel_rfl
theorem dg_e1 {s : ByteArray} {a n : Int} : (rT dgG nol 0 55 (bodyOf Try.f183 0) dgK dgK (dgS s a n)).go [false, false, false, false, false, false, false, false, false, false, false, false, false, false, false] =
  some
    ([!decide (w64 (a + n) < ((s.size : Nat) : Int)), true, true, true, true, true, true, true, true, true, true, true, true, true,
        true],
      Ex.exit 0,
      { sl := slots 31 [(0, AV.c (AC.v (Value.string s))), (1, I64 a), (5, I64 n)],
        h := [] }) := by kernel_rfl
theorem dg_e2 {s : ByteArray} {a n : Int} : (rT dgG nol 0 55 (bodyOf Try.f183 0) dgK dgK (dgS s a n)).go [true, true, true, true, true, true, true, true, true, false, false, false, false, false, false, false, false] =
  some
    ([decide (w64 (a + n) < ((s.size : Nat) : Int)), true, true, true, true, decide ((0 : Int) ≤ w64 (a + n)),
        decide (w64 (a + n) < ((s.size : Nat) : Int)), true, true, !decide (bt s (w64 (a + n)) ≥ (48 : Int)), true, true, true, true,
        true, true, true],
      Ex.exit 0,
      { sl := slots 31 [(0, AV.c (AC.v (Value.string s))), (1, I64 a), (5, I64 n)],
        h := [] }) := by kernel_rfl
theorem dg_e3 {s : ByteArray} {a n : Int} : (rT dgG nol 0 55 (bodyOf Try.f183 0) dgK dgK (dgS s a n)).go [true, true, true, true, true, true, true, true, true, true, true, true, true, true, true, true, true, true, false] =
  some
    ([decide (w64 (a + n) < ((s.size : Nat) : Int)), true, true, true, true, decide ((0 : Int) ≤ w64 (a + n)),
        decide (w64 (a + n) < ((s.size : Nat) : Int)), true, true, decide (bt s (w64 (a + n)) ≥ (48 : Int)), true, true, true, true,
        decide ((0 : Int) ≤ w64 (a + n)), decide (w64 (a + n) < ((s.size : Nat) : Int)), true, true,
        !decide (bt s (w64 (a + n)) ≤ (57 : Int))],
      Ex.exit 0,
      { sl := slots 31 [(0, AV.c (AC.v (Value.string s))), (1, I64 a), (5, I64 n)],
        h := [] }) := by kernel_rfl
theorem dg_w {s : ByteArray} {a n : Int} : (lfun dgG (tell (bodyOf Try.f183 0) (dgS s a 0) (.exit 0, dgS s a n)) 60 Try.f183 [StrA s, I64 a] []).go [] =
  some ([yes (wasS (bodyOf Try.f183 0) (dgS s a 0))], I64 n, []) := by kernel_rfl
end
end Go.Proofs.Ytcpahifgdppkbaa.QAI
