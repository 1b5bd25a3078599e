/- Loops, code, functions. -/
import Derived.Test.YtcpahifgdppkbaaAG
import Derived.LoopN
set_option linter.unusedVariables false
set_option linter.unusedSimpArgs false
namespace Go.Proofs.Ytcpahifgdppkbaa.QAI
open Go Go.RowKit

theorem renAVs_get (g : Nat → Option Nat) : ∀ (l : List AV) (t : Nat), (renAVs g l)[t]? = (l[t]?).map (renAV g)
  | [], t => by simp [renAVs]
  | x :: l, 0 => by simp [renAVs]
  | x :: l, t + 1 => by simp [renAVs, renAVs_get g l t]
theorem renAVs_len (g : Nat → Option Nat) : ∀ (l : List AV), (renAVs g l).length = l.length
  | [] => rfl
  | x :: l => by simp [renAVs, renAVs_len g l]

section
variable {G : Ctx2} {S S' : St} {m m0 : List Pl} {h h0 h' : AHeap} {w w0 : World} {B : Nat} {a : Act} {v : AV}

theorem SlOk.set {sl : List AV} {tmps : Array Value} (hs : SlOk m sl tmps) {t : Nat} {x : AV} (hx : VR m x (tmps.getD t undef)) : SlOk m (sl.set t x) tmps := by
  refine ⟨by simp [hs.1], fun u v hu => ?_⟩
  by_cases e : u = t
  · subst e
    have hlt : u < sl.length := by simpa using (List.getElem?_eq_some_iff.1 hu).1
    rw [List.getElem?_set_self hlt] at hu
    cases hu
    have hlt' : u < tmps.size := by rw [← hs.1]; exact hlt
    refine ⟨tmps.getD u undef, ?_, hx⟩
    rw [Array.getD_eq_getD_getElem?, Array.getElem?_eq_getElem hlt']
    rfl
  · rw [List.getElem?_set_ne (fun e' => e e'.symm)] at hu
    exact hs.2 u v hu

/-- A row without elements, that lies nowhere. -/
theorem Step.ghost (H : HR B m h w) (t : TypeId) {c : Cont} (hn : c.n = 0) : Step B m h w (m ++ [⟨none, 0, c.sz⟩]) (h ++ [some ⟨t, true, c⟩]) w := by
  refine ⟨Ext.app _ _, H.push ?_ (fun _ _ _ _ _ _ _ _ _ h => nomatch h), Fr.refl _ _, ?_⟩
  · exact { sz := rfl, len := fun i hi => by rw [hn] at hi; omega, cap := by rw [hn]; exact Nat.le_refl _, cell := fun i j a hi => by rw [hn] at hi; omega, own := fun _ => And.intro (fun _ => rfl) (fun A h => nomatch h), came := fun e => nomatch e }
  · intro q hq
    rcases Own.push H.len hq with hq | ⟨A, hA, _⟩
    · exact .inl hq
    · cases hA

theorem keepSl_ok {T : List TI} {tmps : Array Value} : ∀ (k : List (Nat × Option TypeId)) (sl : List AV) (h : AHeap), SlOk m sl tmps → HR B m h w →
    ∃ m', Step B m h w m' (keepSl T k sl h).2 w ∧ SlOk m' (keepSl T k sl h).1 tmps
  | [], sl, h, hs, H => ⟨m, Step.refl H, by simp [keepSl, hs.1], fun t v ht => by
      simp only [keepSl, List.getElem?_map, Option.map_eq_some_iff] at ht
      obtain ⟨u, hu, rfl⟩ := ht
      obtain ⟨x, hx, _⟩ := hs.2 t u hu
      exact ⟨x, hx, by simp [VR, CR]⟩⟩
  | (t, e) :: rest, sl, h, hs, H => by
    obtain ⟨m1, hst, hs1⟩ := keepSl_ok (T := T) rest sl h hs H
    have hx : VR m1 (sl.getD t (.c .any)) (tmps.getD t undef) := VR.ext hst.ext (hs.getD t)
    simp only [keepSl]
    split
    · rename_i e' heq
      rw [heq] at hx
      split
      · rename_i ti hti
        generalize hc : (if ti.flat then Cont.row ti.size 0 fun _ => ti.zero else Cont.lst ti.size [] (ofCells ti.zero)) = c
        have hn : c.n = 0 := by rw [← hc]; split <;> rfl
        have hg := Step.ghost hst.hr e' hn
        refine ⟨_, hst.trans hg, (hs1.ext hg.ext).set ?_⟩
        have hxv : tmps.getD t undef = .slice none 0 0 := hx
        rw [hxv]
        refine ⟨⟨none, 0, c.sz⟩, none, 0, ?_, rfl, ⟨Nat.le_refl _, fun _ => rfl⟩, fun _ => ⟨rfl, rfl⟩, fun h => by omega⟩
        rw [← hst.hr.len]
        simp
      · exact ⟨m1, hst, hs1⟩
    · exact ⟨m1, hst, hs1.set hx⟩

theorem Step.sub {mf : List Pl} {hf : AHeap} {w' : World} (hst : Step B m0 h0 w0 mf hf w') (H0 : m0.length = h0.length) {todo : List Nat} {f : Nat} :
    Step B m0 h0 w0 (subPl mf (closeOf hf f todo (List.range h0.length))) (subHeap hf (closeOf hf f todo (List.range h0.length))) w' := by
  obtain ⟨l, e, hd, hb⟩ := closeOf_ok hf f todo (List.range h0.length)
  rw [e]
  have hle : h0.length ≤ hf.length := by
    rw [← H0, ← hst.hr.len]
    rcases Nat.eq_zero_or_pos m0.length with h0' | h0'
    · omega
    · have hlt : m0.length - 1 < m0.length := by omega
      have := hst.ext _ _ (List.getElem?_eq_getElem hlt)
      have := (List.getElem?_eq_some_iff.1 this).1
      omega
  have hlt : ∀ x ∈ List.range h0.length ++ l, x < hf.length := by
    intro x hx
    rcases List.mem_append.1 hx with hx | hx
    · have := List.mem_range.1 hx; omega
    · exact hb x hx
  have hnd := hd List.nodup_range
  refine ⟨?_, hst.hr.sub hnd hlt, hst.fr, fun k hk => hst.own k (Own.sub hst.hr hlt hk)⟩
  intro id p hp
  have hid : id < h0.length := by rw [← H0]; exact (List.getElem?_eq_some_iff.1 hp).1
  exact subPl_get (by rw [List.getElem?_append_left (by simpa using hid), List.getElem?_range hid]) (hst.ext id p hp)

theorem canon_ok {T : List TI} {k : List (Nat × Option TypeId)} (H0 : m0.length = h0.length) (hI : RI B m0 h0 w0 S a w) : RI B m0 h0 w0 (canon T h0.length k S) a w := by
  obtain ⟨hB, ⟨m, hst, hs⟩, hd⟩ := hI
  obtain ⟨m1, hst1, hs1⟩ := keepSl_ok (T := T) k S.sl S.h hs hst.hr
  have hst2 := hst.trans hst1
  refine ⟨hB, ⟨_, hst2.sub H0, ?_⟩, hd⟩
  refine ⟨by simp [canon, renAVs_len, hs1.1], fun t v ht => ?_⟩
  simp only [canon, renAVs_get, Option.map_eq_some_iff] at ht
  obtain ⟨u, hu, rfl⟩ := ht
  obtain ⟨x, hx, hr⟩ := hs1.2 t u hu
  exact ⟨x, hx, VR.ren (subPl_ren _) hr⟩

def toExit : Ex → Exit
  | .normal => .normal
  | .exit id => .exit id
  | .ret => .ret

theorem iter_ok {P : Program} {c : Code} {n0 : Nat} {T : List TI} {k : List (Nat × Option TypeId)} {f : St → Tr (Ex × St)} (H0 : m0.length = h0.length) (hn : n0 = h0.length)
    (hf : ∀ S e S' a w, RI B m0 h0 w0 S a w → (f S).eval = some (e, S') → ∀ Q, (∀ a' w', RI B m0 h0 w0 S' a' w' → Q (toExit e) a' w') → c.wp P Q a w) :
    ∀ (n : Nat) S e S' a w, RI B m0 h0 w0 S a w → (iter f (canon T n0 k) n S).eval = some (e, S') → ∀ Q, (∀ a' w', RI B m0 h0 w0 S' a' w' → Q (toExit e) a' w') → Code.rounds P c Q n a w
  | 0, S, e, S', a, w, _, he, _, _ => by simp [iter, Tr.eval] at he
  | n + 1, S, e, S', a, w, hI, he, Q, hQ => by
    simp only [iter, Tr.eval_bind] at he
    cases h1 : (f S).eval with
    | none => simp [h1] at he
    | some r =>
      obtain ⟨e1, S1⟩ := r
      rw [h1] at he
      simp only [Option.bind_some] at he
      rw [rounds_succ]
      refine hf S e1 S1 a w hI h1 _ ?_
      intro a' w' hI'
      cases e1 with
      | normal =>
        simp only at he
        show Code.rounds P c Q n a' w'
        subst hn
        exact iter_ok H0 rfl hf n _ e S' a' w' (canon_ok H0 hI') he Q hQ
      | exit id =>
        simp only [Tr.eval, Option.some.injEq, Prod.mk.injEq] at he
        obtain ⟨rfl, rfl⟩ := he
        exact hQ a' w' hI'
      | ret =>
        simp only [Tr.eval, Option.some.injEq, Prod.mk.injEq] at he
        obtain ⟨rfl, rfl⟩ := he
        exact hQ a' w' hI'

theorem arun_ok (hG : XOk G) (H0 : m0.length = h0.length) : ∀ (d : Nat) (c : Code) (S : St) (e : Ex) (S' : St) (a : Act) (w : World), RI B m0 h0 w0 S a w → (arun G h0.length d c S).eval = some (e, S') →
    ∀ Q, (∀ a' w', RI B m0 h0 w0 S' a' w' → Q (toExit e) a' w') → c.wp G.P Q a w
  | 0, c, S, e, S', a, w, _, he, _, _ => by simp [arun, Tr.eval] at he
  | d + 1, c, S, e, S', a, w, hI, he, Q, hQ => by
    have ih := arun_ok hG H0 d
    cases c with
    | skip =>
      simp only [arun, Tr.eval, Option.some.injEq, Prod.mk.injEq] at he
      obtain ⟨rfl, rfl⟩ := he
      exact wp_skip (hQ a w hI)
    | region id ops draw =>
      simp only [arun, Tr.eval_bind] at he
      cases draw with
      | false =>
        simp only [Bool.false_eq_true, if_false] at he
        cases h1 : (regSeq G ops ops.toList S).eval with
        | none => simp [h1] at he
        | some S1 =>
          rw [h1] at he
          simp only [Option.bind_some, Tr.eval, Option.some.injEq, Prod.mk.injEq] at he
          obtain ⟨rfl, rfl⟩ := he
          exact wp_region_list (regSeq_ok hG ops.toList S a w hI h1 hQ)
      | true =>
        simp only [if_true] at he
        cases h1 : (regDraw G ops S).eval with
        | none => simp [h1] at he
        | some S1 =>
          rw [h1] at he
          simp only [Option.bind_some, Tr.eval, Option.some.injEq, Prod.mk.injEq] at he
          obtain ⟨rfl, rfl⟩ := he
          exact regDraw_ok hG hI h1 Q hQ
    | seq x y =>
      simp only [arun, Tr.eval_bind] at he
      cases h1 : (arun G h0.length d x S).eval with
      | none => simp [h1] at he
      | some r =>
        obtain ⟨e1, S1⟩ := r
        rw [h1] at he
        simp only [Option.bind_some] at he
        refine wp_seq (ih x S e1 S1 a w hI h1 _ ?_)
        intro a' w' hI'
        cases e1 with
        | normal => exact ih y S1 e S' a' w' hI' he Q hQ
        | exit id =>
          simp only [Tr.eval, Option.some.injEq, Prod.mk.injEq] at he
          obtain ⟨rfl, rfl⟩ := he
          exact hQ a' w' hI'
        | ret =>
          simp only [Tr.eval, Option.some.injEq, Prod.mk.injEq] at he
          obtain ⟨rfl, rfl⟩ := he
          exact hQ a' w' hI'
    | cond c x y =>
      simp only [arun] at he
      split at he
      · rename_i t
        split at he
        · rename_i b hb
          rw [Tr.eval_ite] at he
          have hbv := hI.bool hb
          have hev : a.eval (.tmp t) = .bool b := by
            simp [Act.eval, Array.getD_eq_getD_getElem?, hbv]
          cases b with
          | true =>
            rw [if_pos rfl] at he
            exact wp_cond_true hev (ih x _ e S' a w (hI.lit hb) he Q hQ)
          | false =>
            rw [if_neg (by simp)] at he
            exact wp_cond_false hev (ih y _ e S' a w (hI.lit hb) he Q hQ)
        · cases he
      · cases he
    | block id x =>
      simp only [arun, Tr.eval_bind] at he
      cases h1 : (arun G h0.length d x S).eval with
      | none => simp [h1] at he
      | some r =>
        obtain ⟨e1, S1⟩ := r
        rw [h1] at he
        simp only [Option.bind_some] at he
        refine wp_block (ih x S e1 S1 a w hI h1 _ ?_)
        intro a' w' hI'
        cases e1 with
        | normal =>
          simp only [Tr.eval, Option.some.injEq, Prod.mk.injEq] at he
          obtain ⟨rfl, rfl⟩ := he
          exact hQ a' w' hI'
        | exit k =>
          simp only at he
          split at he
          · rename_i hk
            simp only [Tr.eval, Option.some.injEq, Prod.mk.injEq] at he
            obtain ⟨rfl, rfl⟩ := he
            show (if k = id then Q .normal a' w' else Q (.exit k) a' w')
            rw [if_pos hk]
            exact hQ a' w' hI'
          · rename_i hk
            simp only [Tr.eval, Option.some.injEq, Prod.mk.injEq] at he
            obtain ⟨rfl, rfl⟩ := he
            show (if k = id then Q .normal a' w' else Q (.exit k) a' w')
            rw [if_neg hk]
            exact hQ a' w' hI'
        | ret =>
          simp only [Tr.eval, Option.some.injEq, Prod.mk.injEq] at he
          obtain ⟨rfl, rfl⟩ := he
          exact hQ a' w' hI'
    | loop x =>
      simp only [arun] at he
      refine wp_loop_rounds G.L (iter_ok H0 rfl (fun S e S' a w hI he Q hQ => ih x S e S' a w hI he Q hQ) G.L _ e S' a w (canon_ok H0 hI) he Q hQ)
    | exit id =>
      simp only [arun, Tr.eval, Option.some.injEq, Prod.mk.injEq] at he
      obtain ⟨rfl, rfl⟩ := he
      exact wp_exit (hQ a w hI)
    | ret =>
      simp only [arun, Tr.eval, Option.some.injEq, Prod.mk.injEq] at he
      obtain ⟨rfl, rfl⟩ := he
      exact wp_ret (hQ a w hI)
    | rangeFunc _ _ _ _ => simp [arun, Tr.eval] at he
    | scope _ => simp [arun, Tr.eval] at he
    | label _ => simp [arun, Tr.eval] at he
    | goto _ => simp [arun, Tr.eval] at he
    | refuse _ => simp [arun, Tr.eval] at he

def resRun (tmps : Array Value) : ResultVar → Sem Value
  | .tmp t => pure (tmps.getD t undef)
  | .cell a t => do loadVar t (← asAddr (tmps.getD a undef))

theorem results_eq (fn : Func) (tmps : Array Value) : results fn tmps = (do let vs ← fn.results.mapM (resRun tmps); pure (if h : vs.size = 1 then vs[0] else .tuple vs)) := by
  have : (fun (x : ResultVar) => match x with | .tmp t => (pure (tmps.getD t undef) : Sem Value) | .cell a t => do loadVar t (← asAddr (tmps.getD a undef))) = resRun tmps := by
    funext r; cases r <;> rfl
  exact congrArg (fun f => (do let vs ← fn.results.mapM f; pure (if h : vs.size = 1 then vs[0] else .tuple vs) : Sem Value)) this

theorem resOf_ok (hG : XOk G) (hI : RI B m0 h0 w0 S a w) {m : List Pl} (hst : Step B m0 h0 w0 m S.h w) (hs : SlOk m S.sl a.tmps) {r : ResultVar} {v : AV} (he : (resOf G.T S r).eval = some v) :
    ∃ x, (resRun a.tmps r).run G.P w = .ok x w ∧ VR m v x := by
  cases r with
  | tmp t =>
    simp only [resOf, Tr.eval, Option.some.injEq] at he
    subst he
    exact ⟨_, rfl, hs.getD t⟩
  | cell p t =>
    simp only [resOf] at he
    obtain ⟨x, hr, hv⟩ := aload_ok hG.g.c (hs.getD p) hst.hr he
    refine ⟨x, ?_, hv⟩
    have hp : ∃ A, a.tmps.getD p undef = .pointer (some A) := by
      have hsp := hs.getD p
      have he := aload_sub he
      unfold aload0 at he
      split at he
      · rename_i id i j hq
        rw [hq] at hsp
        obtain ⟨_, _, _, _, _, h⟩ := hsp
        exact ⟨_, h⟩
      · cases he
    obtain ⟨A, hA⟩ := hp
    simp only [resRun]
    rw [hA] at hr ⊢
    simpa [asAddr, Instr.loadAt, Instr.sureAddr, Sem.run_bind] using hr

theorem resL_ok (hG : XOk G) (hI : RI B m0 h0 w0 S a w) {m : List Pl} (hst : Step B m0 h0 w0 m S.h w) (hs : SlOk m S.sl a.tmps) : ∀ (rs : List ResultVar) (l : List AV), (resL G.T S rs).eval = some l →
    ∃ vs, (rs.mapM (resRun a.tmps)).run G.P w = .ok vs w ∧ VRs m l vs
  | [], l, he => by
    simp only [resL, Tr.eval, Option.some.injEq] at he
    subst he
    exact ⟨[], by simp, by simp [VRs]⟩
  | r :: rs, l, he => by
    simp only [resL, Tr.eval_bind] at he
    cases h1 : (resOf G.T S r).eval with
    | none => simp [h1] at he
    | some x =>
      rw [h1] at he
      simp only [Option.bind_some] at he
      cases h2 : (resL G.T S rs).eval with
      | none => simp [h2] at he
      | some xs =>
        rw [h2] at he
        simp only [Option.bind_some, Tr.eval, Option.some.injEq] at he
        subst he
        obtain ⟨y, hy, hv⟩ := resOf_ok hG hI hst hs h1
        obtain ⟨ys, hys, hvs⟩ := resL_ok hG hI hst hs rs xs h2
        refine ⟨y :: ys, ?_, by simp only [VRs]; exact ⟨hv, hvs⟩⟩
        rw [List.mapM_cons]
        simp only [Sem.run_bind, hy, Result.andThen_ok, hys, Sem.run_pure]

theorem oneRes_ok {l : List AV} {vs : List Value} (hv : VRs m l vs) : VR m (oneRes l) (if h : vs.toArray.size = 1 then vs.toArray[0] else .tuple vs.toArray) := by
  match l, vs, hv with
  | [], [], _ => simp [oneRes, VR, VRs]
  | [x], [y], hv => simp only [VRs] at hv; simpa [oneRes] using hv.1
  | x :: y :: l, u :: v :: k, hv =>
    simp only [oneRes]
    rw [dif_neg (by simp)]
    simp only [VR]
    exact ⟨_, rfl, by simpa using hv⟩
  | [], _ :: _, hv => simp [VRs] at hv
  | _ :: _, [], hv => simp [VRs] at hv
  | [_], _ :: _ :: _, hv => simp [VRs] at hv
  | _ :: _ :: _, [_], hv => simp [VRs] at hv

theorem afun_ok (hG : XOk G) {f : FuncId} {fn : Func} (hf : G.P.funcs[f]? = some fn) (d : Nat) : SpecOk G.P f (afun G d fn) := by
  intro B args H r H' he m w vals hH hB hv
  unfold afun at he
  split at he
  · cases he
  · rename_i c hc
    refine calls_of_wp hf hc ?_
    rw [Tr.eval_bind] at he
    cases h1 : (arun G H.length d c ⟨args ++ List.replicate (fn.ntmps - args.length) (.c .any), H⟩).eval with
    | none => simp [h1] at he
    | some rS =>
      obtain ⟨e, S⟩ := rS
      rw [h1] at he
      simp only [Option.bind_some] at he
      have hlen : args.length = vals.size := by simpa using hv.length
      have hI0 : RI B m H w ⟨args ++ List.replicate (fn.ntmps - args.length) (.c .any), H⟩ { tmps := vals ++ Array.replicate (fn.ntmps - vals.size) undef, defers := [] } w := by
        refine ⟨hB, ⟨m, Step.refl hH, ?_⟩, rfl⟩
        refine ⟨by simp [hlen], fun t v ht => ?_⟩
        rcases Nat.lt_or_ge t args.length with hl | hl
        · simp only at ht
          rw [List.getElem?_append_left hl] at ht
          obtain ⟨y, hy, hr⟩ := hv.get t v ht
          refine ⟨y, ?_, hr⟩
          rw [Array.getElem?_append_left (by rw [← hlen]; exact hl)]
          simpa using hy
        · simp only at ht
          rw [List.getElem?_append_right hl, List.getElem?_replicate] at ht
          split at ht
          · rename_i hlt
            cases ht
            refine ⟨undef, ?_, by simp [VR, CR]⟩
            rw [Array.getElem?_append_right (by rw [← hlen]; exact hl), Array.getElem?_replicate, if_pos (by rw [← hlen]; exact hlt)]
          · cases ht
      have fin : ∀ (e : Ex), ((resL G.T S fn.results.toList).bind fun l => (.ret (renAV (idxIn (closeOf S.h 10000 (refsOf S.h H.length ++ refAV (oneRes l)) (List.range H.length))) (oneRes l), subHeap S.h (closeOf S.h 10000 (refsOf S.h H.length ++ refAV (oneRes l)) (List.range H.length))) : Tr (AV × AHeap))).eval = some (r, H') →
          ∀ a' w', RI B m H w S a' w' → a'.defers = [] ∧ ∃ v, (results fn a'.tmps).run G.P w' = .ok v w' ∧ ∃ m' x, Ending.returned v = .returned x ∧ Step B m H w m' H' w' ∧ VR m' r x := by
        intro _ he a' w' hI
        obtain ⟨_, ⟨mf, hst, hs⟩, hd⟩ := hI
        refine ⟨hd, ?_⟩
        rw [Tr.eval_bind] at he
        cases h2 : (resL G.T S fn.results.toList).eval with
        | none => simp [h2] at he
        | some l =>
          rw [h2] at he
          simp only [Option.bind_some, Tr.eval, Option.some.injEq, Prod.mk.injEq] at he
          obtain ⟨rfl, rfl⟩ := he
          obtain ⟨vs, hr, hvs⟩ := resL_ok hG ⟨hB, ⟨mf, hst, hs⟩, hd⟩ hst hs _ l h2
          refine ⟨_, ?_, _, _, rfl, hst.sub hH.len, VR.ren (subPl_ren _) (oneRes_ok hvs)⟩
          rw [results_eq]
          simp only [Sem.run_bind, Array.mapM_eq_mapM_toList]
          have hmap : (List.toArray <$> (fn.results.toList.mapM (resRun a'.tmps))).run G.P w' = .ok vs.toArray w' := by
            rw [← bind_pure_comp, Sem.run_bind, hr]
            rfl
          rw [hmap]
          rfl
      have hfin := arun_ok hG hH.len d c _ e S _ w hI0 h1
      cases e with
      | normal => exact hfin _ fun a' w' hI => fin .normal he a' w' hI
      | exit id => cases he
      | ret => exact hfin _ fun a' w' hI => fin .ret he a' w' hI
end
end Go.Proofs.Ytcpahifgdppkbaa.QAI
