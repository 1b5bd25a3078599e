/- Loops, code, functions. -/
import Derived.Test.YtcpahifgdppkbaaQRowStands3
import Derived.LoopN
import Derived.Laws.StructEq
import Derived.Test.YtcpahifgdppkbaaChecked
import Derived.KernelRfl
import Derived.Laws.Bits64b
section
set_option linter.unusedVariables false
set_option linter.unusedSimpArgs false
namespace Go.Proofs.Ytcpahifgdppkbaa.QAI
open Go Go.RowKit

theorem renAVs_get (g : Nat → Option Nat) : ∀ (l : List AV) (t : Nat), (renAVs g l)[t]? = (l[t]?).map (renAV g)
  | [], t => by simp [renAVs]
  | x :: l, 0 => by simp [renAVs]
  | x :: l, t + 1 => by simp [renAVs, renAVs_get g l t]
theorem renAVs_len (g : Nat → Option Nat) : ∀ (l : List AV), (renAVs g l).length = l.length
  | [] => rfl
  | x :: l => by simp [renAVs, renAVs_len g l]

section
variable {G : Ctx2} {S S' : St} {m m0 : List Pl} {h h0 h' : AHeap} {w w0 : World} {B : Nat} {a : Act} {v : AV}

theorem SlOk.set {sl : List AV} {tmps : Array Value} (hs : SlOk m sl tmps) {t : Nat} {x : AV} (hx : VR m x (tmps.getD t undef)) : SlOk m (sl.set t x) tmps := by
  refine ⟨by simp [hs.1], fun u v hu => ?_⟩
  by_cases e : u = t
  · subst e
    have hlt : u < sl.length := by simpa using (List.getElem?_eq_some_iff.1 hu).1
    rw [List.getElem?_set_self hlt] at hu
    cases hu
    have hlt' : u < tmps.size := by rw [← hs.1]; exact hlt
    refine ⟨tmps.getD u undef, ?_, hx⟩
    rw [Array.getD_eq_getD_getElem?, Array.getElem?_eq_getElem hlt']
    rfl
  · rw [List.getElem?_set_ne (fun e' => e e'.symm)] at hu
    exact hs.2 u v hu

/-- A row without elements, that lies nowhere. -/
theorem Step.ghost (H : HR B m h w) (t : TypeId) {c : Cont} (hn : c.n = 0) : Step B m h w (m ++ [⟨none, 0, c.sz⟩]) (h ++ [some ⟨t, true, c⟩]) w := by
  refine ⟨Ext.app _ _, H.push ?_ (fun _ _ _ _ _ _ _ _ _ h => nomatch h), Fr.refl _ _, ?_⟩
  · exact { sz := rfl, len := fun i hi => by rw [hn] at hi; omega, cap := by rw [hn]; exact Nat.le_refl _, cell := fun i j a hi => by rw [hn] at hi; omega, own := fun _ => And.intro (fun _ => rfl) (fun A h => nomatch h), came := fun e => nomatch e }
  · intro q hq
    rcases Own.push H.len hq with hq | ⟨A, hA, _⟩
    · exact .inl hq
    · cases hA

theorem keepSl_ok {T : List TI} {tmps : Array Value} : ∀ (k : List (Nat × Option TypeId)) (sl : List AV) (h : AHeap), SlOk m sl tmps → HR B m h w →
    ∃ m', Step B m h w m' (keepSl T k sl h).2 w ∧ SlOk m' (keepSl T k sl h).1 tmps
  | [], sl, h, hs, H => ⟨m, Step.refl H, by simp [keepSl, hs.1], fun t v ht => by
      simp only [keepSl, List.getElem?_map, Option.map_eq_some_iff] at ht
      obtain ⟨u, hu, rfl⟩ := ht
      obtain ⟨x, hx, _⟩ := hs.2 t u hu
      exact ⟨x, hx, by simp [VR, CR]⟩⟩
  | (t, e) :: rest, sl, h, hs, H => by
    obtain ⟨m1, hst, hs1⟩ := keepSl_ok (T := T) rest sl h hs H
    have hx : VR m1 (sl.getD t (.c .any)) (tmps.getD t undef) := VR.ext hst.ext (hs.getD t)
    simp only [keepSl]
    split
    · rename_i e' heq
      rw [heq] at hx
      split
      · rename_i ti hti
        generalize hc : (if ti.flat then Cont.row ti.size 0 fun _ => ti.zero else Cont.lst ti.size [] (ofCells ti.zero)) = c
        have hn : c.n = 0 := by rw [← hc]; split <;> rfl
        have hg := Step.ghost hst.hr e' hn
        refine ⟨_, hst.trans hg, (hs1.ext hg.ext).set ?_⟩
        have hxv : tmps.getD t undef = .slice none 0 0 := hx
        rw [hxv]
        refine ⟨⟨none, 0, c.sz⟩, none, 0, ?_, rfl, ⟨Nat.le_refl _, fun _ => rfl⟩, fun _ => ⟨rfl, rfl⟩, fun h => by omega⟩
        rw [← hst.hr.len]
        simp
      · exact ⟨m1, hst, hs1⟩
    · exact ⟨m1, hst, hs1.set hx⟩

theorem Step.sub {mf : List Pl} {hf : AHeap} {w' : World} (hst : Step B m0 h0 w0 mf hf w') (H0 : m0.length = h0.length) {todo : List Nat} {f : Nat} :
    Step B m0 h0 w0 (subPl mf (closeOf hf f todo (List.range h0.length))) (subHeap hf (closeOf hf f todo (List.range h0.length))) w' := by
  obtain ⟨l, e, hd, hb⟩ := closeOf_ok hf f todo (List.range h0.length)
  rw [e]
  have hle : h0.length ≤ hf.length := by
    rw [← H0, ← hst.hr.len]
    rcases Nat.eq_zero_or_pos m0.length with h0' | h0'
    · omega
    · have hlt : m0.length - 1 < m0.length := by omega
      have := hst.ext _ _ (List.getElem?_eq_getElem hlt)
      have := (List.getElem?_eq_some_iff.1 this).1
      omega
  have hlt : ∀ x ∈ List.range h0.length ++ l, x < hf.length := by
    intro x hx
    rcases List.mem_append.1 hx with hx | hx
    · have := List.mem_range.1 hx; omega
    · exact hb x hx
  have hnd := hd List.nodup_range
  refine ⟨?_, hst.hr.sub hnd hlt, hst.fr, fun k hk => hst.own k (Own.sub hst.hr hlt hk)⟩
  intro id p hp
  have hid : id < h0.length := by rw [← H0]; exact (List.getElem?_eq_some_iff.1 hp).1
  exact subPl_get (by rw [List.getElem?_append_left (by simpa using hid), List.getElem?_range hid]) (hst.ext id p hp)

theorem canon_ok {T : List TI} {k : List (Nat × Option TypeId)} (H0 : m0.length = h0.length) (hI : RI B m0 h0 w0 S a w) : RI B m0 h0 w0 (canon T h0.length k S) a w := by
  obtain ⟨hB, ⟨m, hst, hs⟩, hd⟩ := hI
  obtain ⟨m1, hst1, hs1⟩ := keepSl_ok (T := T) k S.sl S.h hs hst.hr
  have hst2 := hst.trans hst1
  refine ⟨hB, ⟨_, hst2.sub H0, ?_⟩, hd⟩
  refine ⟨by simp [canon, renAVs_len, hs1.1], fun t v ht => ?_⟩
  simp only [canon, renAVs_get, Option.map_eq_some_iff] at ht
  obtain ⟨u, hu, rfl⟩ := ht
  obtain ⟨x, hx, hr⟩ := hs1.2 t u hu
  exact ⟨x, hx, VR.ren (subPl_ren _) hr⟩

def toExit : Ex → Exit
  | .normal => .normal
  | .exit id => .exit id
  | .ret => .ret

theorem iter_ok {P : Program} {c : Code} {n0 : Nat} {T : List TI} {k : List (Nat × Option TypeId)} {f : St → Tr (Ex × St)} (H0 : m0.length = h0.length) (hn : n0 = h0.length)
    (hf : ∀ S e S' a w, RI B m0 h0 w0 S a w → (f S).eval = some (e, S') → ∀ Q, (∀ a' w', RI B m0 h0 w0 S' a' w' → Q (toExit e) a' w') → c.wp P Q a w) :
    ∀ (n : Nat) S e S' a w, RI B m0 h0 w0 S a w → (iter f (canon T n0 k) n S).eval = some (e, S') → ∀ Q, (∀ a' w', RI B m0 h0 w0 S' a' w' → Q (toExit e) a' w') → Code.rounds P c Q n a w
  | 0, S, e, S', a, w, _, he, _, _ => by simp [iter, Tr.eval] at he
  | n + 1, S, e, S', a, w, hI, he, Q, hQ => by
    simp only [iter, Tr.eval_bind] at he
    cases h1 : (f S).eval with
    | none => simp [h1] at he
    | some r =>
      obtain ⟨e1, S1⟩ := r
      rw [h1] at he
      simp only [Option.bind_some] at he
      rw [rounds_succ]
      refine hf S e1 S1 a w hI h1 _ ?_
      intro a' w' hI'
      cases e1 with
      | normal =>
        simp only at he
        show Code.rounds P c Q n a' w'
        subst hn
        exact iter_ok H0 rfl hf n _ e S' a' w' (canon_ok H0 hI') he Q hQ
      | exit id =>
        simp only [Tr.eval, Option.some.injEq, Prod.mk.injEq] at he
        obtain ⟨rfl, rfl⟩ := he
        exact hQ a' w' hI'
      | ret =>
        simp only [Tr.eval, Option.some.injEq, Prod.mk.injEq] at he
        obtain ⟨rfl, rfl⟩ := he
        exact hQ a' w' hI'

theorem arun_ok (hG : XOk G) (H0 : m0.length = h0.length) : ∀ (d : Nat) (c : Code) (S : St) (e : Ex) (S' : St) (a : Act) (w : World), RI B m0 h0 w0 S a w → (arun G h0.length d c S).eval = some (e, S') →
    ∀ Q, (∀ a' w', RI B m0 h0 w0 S' a' w' → Q (toExit e) a' w') → c.wp G.P Q a w
  | 0, c, S, e, S', a, w, _, he, _, _ => by simp [arun, Tr.eval] at he
  | d + 1, c, S, e, S', a, w, hI, he, Q, hQ => by
    have ih := arun_ok hG H0 d
    cases c with
    | skip =>
      simp only [arun, Tr.eval, Option.some.injEq, Prod.mk.injEq] at he
      obtain ⟨rfl, rfl⟩ := he
      exact wp_skip (hQ a w hI)
    | region id ops draw =>
      simp only [arun, Tr.eval_bind] at he
      cases draw with
      | false =>
        simp only [Bool.false_eq_true, if_false] at he
        cases h1 : (regSeq G ops ops.toList S).eval with
        | none => simp [h1] at he
        | some S1 =>
          rw [h1] at he
          simp only [Option.bind_some, Tr.eval, Option.some.injEq, Prod.mk.injEq] at he
          obtain ⟨rfl, rfl⟩ := he
          exact wp_region_list (regSeq_ok hG ops.toList S a w hI h1 hQ)
      | true =>
        simp only [if_true] at he
        cases h1 : (regDraw G ops S).eval with
        | none => simp [h1] at he
        | some S1 =>
          rw [h1] at he
          simp only [Option.bind_some, Tr.eval, Option.some.injEq, Prod.mk.injEq] at he
          obtain ⟨rfl, rfl⟩ := he
          exact regDraw_ok hG hI h1 Q hQ
    | seq x y =>
      simp only [arun, Tr.eval_bind] at he
      cases h1 : (arun G h0.length d x S).eval with
      | none => simp [h1] at he
      | some r =>
        obtain ⟨e1, S1⟩ := r
        rw [h1] at he
        simp only [Option.bind_some] at he
        refine wp_seq (ih x S e1 S1 a w hI h1 _ ?_)
        intro a' w' hI'
        cases e1 with
        | normal => exact ih y S1 e S' a' w' hI' he Q hQ
        | exit id =>
          simp only [Tr.eval, Option.some.injEq, Prod.mk.injEq] at he
          obtain ⟨rfl, rfl⟩ := he
          exact hQ a' w' hI'
        | ret =>
          simp only [Tr.eval, Option.some.injEq, Prod.mk.injEq] at he
          obtain ⟨rfl, rfl⟩ := he
          exact hQ a' w' hI'
    | cond c x y =>
      simp only [arun] at he
      split at he
      · rename_i t
        split at he
        · rename_i b hb
          rw [Tr.eval_ite] at he
          have hbv := hI.bool hb
          have hev : a.eval (.tmp t) = .bool b := by
            simp [Act.eval, Array.getD_eq_getD_getElem?, hbv]
          cases b with
          | true =>
            rw [if_pos rfl] at he
            exact wp_cond_true hev (ih x _ e S' a w (hI.lit hb) he Q hQ)
          | false =>
            rw [if_neg (by simp)] at he
            exact wp_cond_false hev (ih y _ e S' a w (hI.lit hb) he Q hQ)
        · cases he
      · cases he
    | block id x =>
      simp only [arun, Tr.eval_bind] at he
      cases h1 : (arun G h0.length d x S).eval with
      | none => simp [h1] at he
      | some r =>
        obtain ⟨e1, S1⟩ := r
        rw [h1] at he
        simp only [Option.bind_some] at he
        refine wp_block (ih x S e1 S1 a w hI h1 _ ?_)
        intro a' w' hI'
        cases e1 with
        | normal =>
          simp only [Tr.eval, Option.some.injEq, Prod.mk.injEq] at he
          obtain ⟨rfl, rfl⟩ := he
          exact hQ a' w' hI'
        | exit k =>
          simp only at he
          split at he
          · rename_i hk
            simp only [Tr.eval, Option.some.injEq, Prod.mk.injEq] at he
            obtain ⟨rfl, rfl⟩ := he
            show (if k = id then Q .normal a' w' else Q (.exit k) a' w')
            rw [if_pos hk]
            exact hQ a' w' hI'
          · rename_i hk
            simp only [Tr.eval, Option.some.injEq, Prod.mk.injEq] at he
            obtain ⟨rfl, rfl⟩ := he
            show (if k = id then Q .normal a' w' else Q (.exit k) a' w')
            rw [if_neg hk]
            exact hQ a' w' hI'
        | ret =>
          simp only [Tr.eval, Option.some.injEq, Prod.mk.injEq] at he
          obtain ⟨rfl, rfl⟩ := he
          exact hQ a' w' hI'
    | loop x =>
      simp only [arun] at he
      refine wp_loop_rounds G.L (iter_ok H0 rfl (fun S e S' a w hI he Q hQ => ih x S e S' a w hI he Q hQ) G.L _ e S' a w (canon_ok H0 hI) he Q hQ)
    | exit id =>
      simp only [arun, Tr.eval, Option.some.injEq, Prod.mk.injEq] at he
      obtain ⟨rfl, rfl⟩ := he
      exact wp_exit (hQ a w hI)
    | ret =>
      simp only [arun, Tr.eval, Option.some.injEq, Prod.mk.injEq] at he
      obtain ⟨rfl, rfl⟩ := he
      exact wp_ret (hQ a w hI)
    | rangeFunc _ _ _ _ => simp [arun, Tr.eval] at he
    | scope _ => simp [arun, Tr.eval] at he
    | label _ => simp [arun, Tr.eval] at he
    | goto _ => simp [arun, Tr.eval] at he
    | refuse _ => simp [arun, Tr.eval] at he

def resRun (tmps : Array Value) : ResultVar → Sem Value
  | .tmp t => pure (tmps.getD t undef)
  | .cell a t => do loadVar t (← asAddr (tmps.getD a undef))

theorem results_eq (fn : Func) (tmps : Array Value) : results fn tmps = (do let vs ← fn.results.mapM (resRun tmps); pure (if h : vs.size = 1 then vs[0] else .tuple vs)) := by
  have : (fun (x : ResultVar) => match x with | .tmp t => (pure (tmps.getD t undef) : Sem Value) | .cell a t => do loadVar t (← asAddr (tmps.getD a undef))) = resRun tmps := by
    funext r; cases r <;> rfl
  exact congrArg (fun f => (do let vs ← fn.results.mapM f; pure (if h : vs.size = 1 then vs[0] else .tuple vs) : Sem Value)) this

theorem resOf_ok (hG : XOk G) (hI : RI B m0 h0 w0 S a w) {m : List Pl} (hst : Step B m0 h0 w0 m S.h w) (hs : SlOk m S.sl a.tmps) {r : ResultVar} {v : AV} (he : (resOf G.T S r).eval = some v) :
    ∃ x, (resRun a.tmps r).run G.P w = .ok x w ∧ VR m v x := by
  cases r with
  | tmp t =>
    simp only [resOf, Tr.eval, Option.some.injEq] at he
    subst he
    exact ⟨_, rfl, hs.getD t⟩
  | cell p t =>
    simp only [resOf] at he
    obtain ⟨x, hr, hv⟩ := aload_ok hG.g.c (hs.getD p) hst.hr he
    refine ⟨x, ?_, hv⟩
    have hp : ∃ A, a.tmps.getD p undef = .pointer (some A) := by
      have hsp := hs.getD p
      have he := aload_sub he
      unfold aload0 at he
      split at he
      · rename_i id i j hq
        rw [hq] at hsp
        obtain ⟨_, _, _, _, _, h⟩ := hsp
        exact ⟨_, h⟩
      · cases he
    obtain ⟨A, hA⟩ := hp
    simp only [resRun]
    rw [hA] at hr ⊢
    simpa [asAddr, Instr.loadAt, Instr.sureAddr, Sem.run_bind] using hr

theorem resL_ok (hG : XOk G) (hI : RI B m0 h0 w0 S a w) {m : List Pl} (hst : Step B m0 h0 w0 m S.h w) (hs : SlOk m S.sl a.tmps) : ∀ (rs : List ResultVar) (l : List AV), (resL G.T S rs).eval = some l →
    ∃ vs, (rs.mapM (resRun a.tmps)).run G.P w = .ok vs w ∧ VRs m l vs
  | [], l, he => by
    simp only [resL, Tr.eval, Option.some.injEq] at he
    subst he
    exact ⟨[], by simp, by simp [VRs]⟩
  | r :: rs, l, he => by
    simp only [resL, Tr.eval_bind] at he
    cases h1 : (resOf G.T S r).eval with
    | none => simp [h1] at he
    | some x =>
      rw [h1] at he
      simp only [Option.bind_some] at he
      cases h2 : (resL G.T S rs).eval with
      | none => simp [h2] at he
      | some xs =>
        rw [h2] at he
        simp only [Option.bind_some, Tr.eval, Option.some.injEq] at he
        subst he
        obtain ⟨y, hy, hv⟩ := resOf_ok hG hI hst hs h1
        obtain ⟨ys, hys, hvs⟩ := resL_ok hG hI hst hs rs xs h2
        refine ⟨y :: ys, ?_, by simp only [VRs]; exact ⟨hv, hvs⟩⟩
        rw [List.mapM_cons]
        simp only [Sem.run_bind, hy, Result.andThen_ok, hys, Sem.run_pure]

theorem oneRes_ok {l : List AV} {vs : List Value} (hv : VRs m l vs) : VR m (oneRes l) (if h : vs.toArray.size = 1 then vs.toArray[0] else .tuple vs.toArray) := by
  match l, vs, hv with
  | [], [], _ => simp [oneRes, VR, VRs]
  | [x], [y], hv => simp only [VRs] at hv; simpa [oneRes] using hv.1
  | x :: y :: l, u :: v :: k, hv =>
    simp only [oneRes]
    rw [dif_neg (by simp)]
    simp only [VR]
    exact ⟨_, rfl, by simpa using hv⟩
  | [], _ :: _, hv => simp [VRs] at hv
  | _ :: _, [], hv => simp [VRs] at hv
  | [_], _ :: _ :: _, hv => simp [VRs] at hv
  | _ :: _ :: _, [_], hv => simp [VRs] at hv

theorem afun_ok (hG : XOk G) {f : FuncId} {fn : Func} (hf : G.P.funcs[f]? = some fn) (d : Nat) : SpecOk G.P f (afun G d fn) := by
  intro B args H r H' he m w vals hH hB hv
  unfold afun at he
  split at he
  · cases he
  · rename_i c hc
    refine calls_of_wp hf hc ?_
    rw [Tr.eval_bind] at he
    cases h1 : (arun G H.length d c ⟨args ++ List.replicate (fn.ntmps - args.length) (.c .any), H⟩).eval with
    | none => simp [h1] at he
    | some rS =>
      obtain ⟨e, S⟩ := rS
      rw [h1] at he
      simp only [Option.bind_some] at he
      have hlen : args.length = vals.size := by simpa using hv.length
      have hI0 : RI B m H w ⟨args ++ List.replicate (fn.ntmps - args.length) (.c .any), H⟩ { tmps := vals ++ Array.replicate (fn.ntmps - vals.size) undef, defers := [] } w := by
        refine ⟨hB, ⟨m, Step.refl hH, ?_⟩, rfl⟩
        refine ⟨by simp [hlen], fun t v ht => ?_⟩
        rcases Nat.lt_or_ge t args.length with hl | hl
        · simp only at ht
          rw [List.getElem?_append_left hl] at ht
          obtain ⟨y, hy, hr⟩ := hv.get t v ht
          refine ⟨y, ?_, hr⟩
          rw [Array.getElem?_append_left (by rw [← hlen]; exact hl)]
          simpa using hy
        · simp only at ht
          rw [List.getElem?_append_right hl, List.getElem?_replicate] at ht
          split at ht
          · rename_i hlt
            cases ht
            refine ⟨undef, ?_, by simp [VR, CR]⟩
            rw [Array.getElem?_append_right (by rw [← hlen]; exact hl), Array.getElem?_replicate, if_pos (by rw [← hlen]; exact hlt)]
          · cases ht
      have fin : ∀ (e : Ex), ((resL G.T S fn.results.toList).bind fun l => (.ret (renAV (idxIn (closeOf S.h 10000 (refsOf S.h H.length ++ refAV (oneRes l)) (List.range H.length))) (oneRes l), subHeap S.h (closeOf S.h 10000 (refsOf S.h H.length ++ refAV (oneRes l)) (List.range H.length))) : Tr (AV × AHeap))).eval = some (r, H') →
          ∀ a' w', RI B m H w S a' w' → a'.defers = [] ∧ ∃ v, (results fn a'.tmps).run G.P w' = .ok v w' ∧ ∃ m' x, Ending.returned v = .returned x ∧ Step B m H w m' H' w' ∧ VR m' r x := by
        intro _ he a' w' hI
        obtain ⟨_, ⟨mf, hst, hs⟩, hd⟩ := hI
        refine ⟨hd, ?_⟩
        rw [Tr.eval_bind] at he
        cases h2 : (resL G.T S fn.results.toList).eval with
        | none => simp [h2] at he
        | some l =>
          rw [h2] at he
          simp only [Option.bind_some, Tr.eval, Option.some.injEq, Prod.mk.injEq] at he
          obtain ⟨rfl, rfl⟩ := he
          obtain ⟨vs, hr, hvs⟩ := resL_ok hG ⟨hB, ⟨mf, hst, hs⟩, hd⟩ hst hs _ l h2
          refine ⟨_, ?_, _, _, rfl, hst.sub hH.len, VR.ren (subPl_ren _) (oneRes_ok hvs)⟩
          rw [results_eq]
          simp only [Sem.run_bind, Array.mapM_eq_mapM_toList]
          have hmap : (List.toArray <$> (fn.results.toList.mapM (resRun a'.tmps))).run G.P w' = .ok vs.toArray w' := by
            rw [← bind_pure_comp, Sem.run_bind, hr]
            rfl
          rw [hmap]
          rfl
      have hfin := arun_ok hG hH.len d c _ e S _ w hI0 h1
      cases e with
      | normal => exact hfin _ fun a' w' hI => fin .normal he a' w' hI
      | exit id => cases he
      | ret => exact hfin _ fun a' w' hI => fin .ret he a' w' hI
end
end Go.Proofs.Ytcpahifgdppkbaa.QAI
end
section
/- '==' of structs whose cells are ints, bools and strings; the facts of a table of types, out of a test. -/
set_option linter.unusedVariables false
set_option linter.unusedSimpArgs false
namespace Go.Proofs.Ytcpahifgdppkbaa.QAI
open Go Go.RowKit

def kindD : TypeDesc → Nat
  | .int _ => 1
  | .bool => 2
  | .string => 3
  | _ => 0

def eqKindsFs (g : TypeId → Option (List Nat)) (T : List TI) : List Field → Nat → Option (List Nat)
  | [], _ => some []
  | f :: fs, off =>
    if f.name == "_" || f.offset != off then none else
    match lookT T f.type, g f.type, eqKindsFs g T fs (off + ((lookT T f.type).map TI.size).getD 0) with
    | some ti, some ks, some r => if ks.length = ti.size then some (ks ++ r) else none
    | _, _, _ => none

def eqKinds (P : Program) (T : List TI) : Nat → TypeId → Option (List Nat)
  | 0, _ => none
  | d + 1, t =>
    match lookT T t with
    | some ti =>
      if ti.agg then
        match ti.u with
        | .struct fs => if P.stoodInHeld t then none else eqKindsFs (eqKinds P T d) T fs.toList 0
        | _ => none
      else if kindD ti.u = 0 then none else some [kindD ti.u]
    | none => none

theorem ceqs_split : ∀ {l k : List AC} {r : Bool} (n : Nat), ceqs l k = some r → ∃ r1 r2, ceqs (l.take n) (k.take n) = some r1 ∧ ceqs (l.drop n) (k.drop n) = some r2 ∧ r = (r1 && r2)
  | l, k, r, 0, h => ⟨true, r, by simp [ceqs], by simpa using h, by simp⟩
  | [], [], r, n + 1, h => ⟨true, true, by simp [ceqs], by simp [ceqs], by simpa [ceqs] using h.symm⟩
  | [], y :: k, r, n + 1, h => by simp [ceqs] at h
  | x :: l, [], r, n + 1, h => by simp [ceqs] at h
  | x :: l, y :: k, r, n + 1, h => by
    simp only [ceqs] at h
    split at h
    · rename_i a b ha hb
      obtain ⟨r1, r2, h1, h2, e⟩ := ceqs_split n hb
      cases h
      exact ⟨a && r1, r2, by simp [ceqs, ha, h1], by simpa using h2, by rw [e, Bool.and_assoc]⟩
    · cases h

section
variable {P : Program} {T : List TI} {m : List Pl}

def packV (ti : TI) (xs : List Value) : Value := if ti.agg then .agg xs.toArray else xs.headD undef

theorem eqf_ok (hT : TOk P T) (h1 : ∀ t ti, lookT T t = some ti → ti.agg = false → ti.size = 1) {D : Nat} {g : TypeId → Option (List Nat)}
    (hg : ∀ t ks ti, g t = some ks → lookT T t = some ti → ∀ (lx ly : List AC) (xs ys : List Value) r (w : World), lx.map kindAC = ks → ceqs lx ly = some r → F2 (CR m) lx xs → F2 (CR m) ly ys → (Op.equalIn D t (packV ti xs) (packV ti ys)).run P w = .ok r w) :
    ∀ (fs : List Field) (off : Nat) (ks : List Nat), eqKindsFs g T fs off = some ks → ∀ (lx ly : List AC) (xs ys : Array Value) r (w : World), lx.map kindAC = ks → ceqs lx ly = some r → F2 (CR m) lx (xs.toList.drop off) → F2 (CR m) ly (ys.toList.drop off) →
      (Op.eqFields D xs ys fs).run P w = .ok r w
  | [], off, ks, hk, lx, ly, xs, ys, r, w, hks, hr, hx, hy => by
    simp only [eqKindsFs, Option.some.injEq] at hk
    subst hk
    have : lx = [] := by simpa using hks
    subst this
    have hly : ly = [] := by
      cases ly with
      | nil => rfl
      | cons a l => simp [ceqs] at hr
    subst hly
    simp only [ceqs, Option.some.injEq] at hr
    subst hr
    simp [Op.eqFields]
  | f :: fs, off, ks, hk, lx, ly, xs, ys, r, w, hks, hr, hx, hy => by
    simp only [eqKindsFs] at hk
    split at hk
    · cases hk
    · rename_i hc
      simp only [Bool.or_eq_true, beq_iff_eq, bne_iff_ne, ne_eq, not_or, Decidable.not_not] at hc
      obtain ⟨hn, ho⟩ := hc
      split at hk
      · rename_i ti k0 r0 hti hk0 hr0
        split at hk
        · rename_i hlen
          simp only [Option.some.injEq] at hk
          subst hk
          rw [hti] at hr0
          simp only [Option.map_some, Option.getD_some] at hr0
          obtain ⟨r1, r2, e1, e2, rfl⟩ := ceqs_split ti.size hr
          have hlx : lx.length = k0.length + r0.length := by
            have := congrArg List.length hks
            simpa using this
          have hlen2 : ∀ {l k : List AC} {r : Bool}, ceqs l k = some r → l.length = k.length := by
            intro l
            induction l with
            | nil => intro k r h; cases k <;> simp [ceqs] at h ⊢
            | cons a l ih =>
              intro k r h
              cases k with
              | nil => simp [ceqs] at h
              | cons b k =>
                simp only [ceqs] at h
                split at h
                · rename_i _ _ _ hb
                  simp [ih hb]
                · cases h
          have hly := hlen2 hr
          have hkt : (lx.take ti.size).map kindAC = k0 := by rw [List.map_take, hks, ← hlen]; simp
          have hkd : (lx.drop ti.size).map kindAC = r0 := by rw [List.map_drop, hks, ← hlen]; simp
          have hpx : ∀ (zs : Array Value) (l : List AC), l.length = lx.length → F2 (CR m) l (zs.toList.drop off) → (part f.type zs f.offset).run P w = .ok (packV ti ((zs.toList.drop off).take ti.size)) w := by
            intro zs l hl hz
            rw [ho]
            refine run_field' hT hti ?_ rfl (h1 _ _ hti)
            have := hz.length
            rw [List.length_take]
            omega
          have hA := hpx xs lx rfl hx
          have hB := hpx ys ly hly.symm hy
          have hE := hg f.type k0 ti hk0 hti _ _ _ _ r1 w hkt e1 (hx.take ti.size) (hy.take ti.size)
          have hR := eqf_ok hT h1 hg fs (off + ti.size) r0 hr0 (lx.drop ti.size) (ly.drop ti.size) xs ys r2 w hkd e2 (by have := hx.drop ti.size; rwa [List.drop_drop] at this) (by have := hy.drop ti.size; rwa [List.drop_drop] at this)
          have hn' : f.name ≠ "_" := hn
          rw [Op.eqFields]
          simp only [if_pos hn', Sem.run_bind, hA, hB, hE, Result.andThen_ok]
          cases r1
          · simp
          · simpa using hR
        · cases hk
      · cases hk

theorem eqk_ok (hT : TOk P T) (h1 : ∀ t ti, lookT T t = some ti → ti.agg = false → ti.size = 1) :
    ∀ (d : Nat) t ks ti, eqKinds P T d t = some ks → lookT T t = some ti → ∀ D, d ≤ D → ∀ (lx ly : List AC) (xs ys : List Value) r (w : World), lx.map kindAC = ks → ceqs lx ly = some r → F2 (CR m) lx xs → F2 (CR m) ly ys →
      (Op.equalIn D t (packV ti xs) (packV ti ys)).run P w = .ok r w
  | 0, t, ks, ti, hk, _, D, hD, lx, ly, xs, ys, r, w, hks, hr, hx, hy => by simp [eqKinds] at hk
  | d + 1, t, ks, ti, hk, ht, D, hD, lx, ly, xs, ys, r, w, hks, hr, hx, hy => by
    obtain ⟨D, rfl⟩ : ∃ D', D = D' + 1 := ⟨D - 1, by omega⟩
    have hu := hT.u t ti ht
    simp only [eqKinds, ht] at hk
    split at hk
    · rename_i hagg
      split at hk
      · rename_i fs hfs
        split at hk
        · cases hk
        · rename_i hst
          rw [hfs] at hu
          have hf : P.fieldsOf t = fs := by simp [Program.fieldsOf, hu]
          simp only [packV, hagg, if_true]
          rw [run_equalIn_struct (P := P) w D t _ _ (by rw [hf]; exact hu) (by simpa using hst), hf]
          exact eqf_ok hT h1 (D := D) (g := eqKinds P T d) (fun t' ks' ti' hk' ht' lx' ly' xs' ys' r' w' a b c e => eqk_ok hT h1 d t' ks' ti' hk' ht' D (by omega) lx' ly' xs' ys' r' w' a b c e) fs.toList 0 ks hk lx ly xs.toArray ys.toArray r w hks hr (by simpa using hx) (by simpa using hy)
      · cases hk
    · rename_i hagg
      split at hk
      · cases hk
      · simp only [Option.some.injEq] at hk
        subst hk
        have hag : ti.agg = false := by simpa using hagg
        simp only [packV, hag, Bool.false_eq_true, if_false]
        obtain ⟨a, rfl⟩ : ∃ a, lx = [a] := by
          cases lx with
          | nil => simp at hks
          | cons a l => cases l with
            | nil => exact ⟨a, rfl⟩
            | cons b l => simp at hks
        simp only [List.map_cons, List.map_nil, List.cons.injEq, and_true] at hks
        cases ly with
        | nil => simp [ceqs] at hr
        | cons b l =>
          cases l with
          | cons c l => simp only [ceqs] at hr; split at hr <;> (try cases hr); rename_i h; simp [ceqs] at h
          | nil =>
            simp only [ceqs] at hr
            obtain ⟨c, hc⟩ : ∃ c, ceq a b = some c := by
              cases e : ceq a b with
              | none => rw [e] at hr; cases hr
              | some c => exact ⟨c, rfl⟩
            rw [hc] at hr
            simp only [Bool.and_true, Option.some.injEq] at hr
            subst hr
            cases hx with
            | cons hxa hxr =>
            cases hxr
            cases hy with
            | cons hyb hyr =>
            cases hyr
            simp only [List.headD_cons]
            unfold ceq at hc
            split at hc
            · rename_i k p k' q
              split at hc
              · rename_i hkk
                subst hkk
                cases hc
                cases (show _ = _ from hxa)
                cases (show _ = _ from hyb)
                cases hd : ti.u <;> rw [hd] at hks <;> simp [kindAC, kindD] at hks
                rw [hd] at hu
                exact run_equalIn_int (P := P) w D t _ _ _ _ hu
              · cases hc
            · cases hc
              cases (show _ = _ from hxa)
              cases (show _ = _ from hyb)
              cases hd : ti.u <;> rw [hd] at hks <;> simp [kindAC, kindD] at hks
              rw [hd] at hu
              exact run_equalIn_bool' (P := P) w D t _ _ hu
            · cases hc
              cases (show _ = _ from hxa)
              cases (show _ = _ from hyb)
              cases hd : ti.u <;> rw [hd] at hks <;> simp [kindAC, kindD] at hks
              rw [hd] at hu
              rw [run_equalIn_string (P := P) w D t _ _ hu, ← beq_toListBytes]
            · cases hc

/-- What the kernel looks at. -/
def tiFact (P : Program) (i : TI) : Option (TypeDesc × Nat × Nat × Option (List Value)) :=
  match P.underlying i.t, P.info? i.t with
  | some u, some x => some (u, x.size, x.bytes, x.zero.map fun z => z.cells.toList)
  | _, _ => none
def tiWant (i : TI) : Option (TypeDesc × Nat × Nat × Option (List Value)) := some (i.u, i.size, i.bytes, some i.zero)
def tiTest (T : List TI) (i : TI) : Bool :=
  (i.agg == isAggD i.u) && i.zero.length == i.size && i.zero.all oneV && decide (0 < i.size) && (i.agg || i.size == 1) && decide (0 < i.bytes) &&
    (match i.u with | .struct fs => fs.toList.all fun f => (lookT T f.type).isSome | _ => true)
def shapeTest (i : TI) : Prop := ∀ n s, i.shape = some (n, s) → s = 1 ∧ i.agg = true ∧ i.size = n ∧ i.zero = List.replicate n (i.zero.headD undef) ∧ 0 < n

theorem lookT_mem {t : TypeId} {ti : TI} (h : lookT T t = some ti) : ti ∈ T ∧ ti.t = t := ⟨List.mem_of_find?_eq_some h, lookT_t h⟩

theorem tab_facts {G : Ctx} (hf : G.T.map (tiFact G.P) = G.T.map tiWant) (ht : G.T.all (tiTest G.T) = true) (hs : ∀ i ∈ G.T, shapeTest i)
    (he : G.eqs.all (fun p => !G.P.eqGuardType G.P.depth p.1 && eqKinds G.P G.T 9 p.1 == some p.2 && ((lookT G.T p.1).map TI.agg == some true)) = true) : GOk G ∧ FOk G := by
  have hfact : ∀ i ∈ G.T, tiFact G.P i = tiWant i := fun i hi => by
    obtain ⟨n, hn, e⟩ := List.getElem_of_mem hi
    have := congrArg (fun l => l[n]?) hf
    simp only [List.getElem?_map, List.getElem?_eq_getElem hn, Option.map_some, Option.some.injEq] at this
    rw [← e]
    exact this
  have htest : ∀ i ∈ G.T, tiTest G.T i = true := fun i hi => List.all_eq_true.1 ht i hi
  have hT : TOk G.P G.T := by
    refine ⟨?_, ?_, ?_, ?_, ?_, ?_⟩
    · intro t ti h
      obtain ⟨hm, rfl⟩ := lookT_mem h
      have := hfact ti hm
      unfold tiFact tiWant at this
      split at this
      · rename_i u x hu hx
        simp only [Option.some.injEq, Prod.mk.injEq] at this
        rw [hu, this.1]
      · cases this
    · intro t ti h
      obtain ⟨hm, rfl⟩ := lookT_mem h
      have := hfact ti hm
      unfold tiFact tiWant at this
      split at this
      · rename_i u x hu hx
        simp only [Option.some.injEq, Prod.mk.injEq] at this
        obtain ⟨_, e1, e2, e3⟩ := this
        cases hz : x.zero with
        | none => rw [hz] at e3; cases e3
        | some z =>
          rw [hz] at e3
          simp only [Option.map_some, Option.some.injEq] at e3
          exact ⟨x, z, hx, e1, e2, hz, e3⟩
      · cases this
    · intro t ti h
      have := htest ti (lookT_mem h).1
      simp only [tiTest, Bool.and_eq_true, beq_iff_eq] at this
      exact this.1.1.1.1.1.1
    · intro t ti h
      have := htest ti (lookT_mem h).1
      simp only [tiTest, Bool.and_eq_true, beq_iff_eq] at this
      exact this.1.1.1.1.1.2
    · intro t ti h
      have := htest ti (lookT_mem h).1
      simp only [tiTest, Bool.and_eq_true, beq_iff_eq] at this
      exact List.all_eq_true.1 this.1.1.1.1.2
    · intro t ti n s h
      exact hs ti (lookT_mem h).1 n s
  have hone : ∀ t ti, lookT G.T t = some ti → 0 < ti.size ∧ (ti.agg = false → ti.size = 1) := by
    intro t ti h
    have := htest ti (lookT_mem h).1
    simp only [tiTest, Bool.and_eq_true, beq_iff_eq, decide_eq_true_eq, Bool.or_eq_true] at this
    refine ⟨this.1.1.1.2, fun ha => ?_⟩
    rcases this.1.1.2 with h | h
    · rw [ha] at h; cases h
    · exact h
  refine ⟨⟨⟨hT, hone, ?_⟩, ?_, ?_⟩, ?_⟩
  · intro t ti h
    have := htest ti (lookT_mem h).1
    simp only [tiTest, Bool.and_eq_true, beq_iff_eq, decide_eq_true_eq] at this
    exact this.1.2
  · intro t n h
    have := List.all_eq_true.1 he _ h
    simp only [Bool.and_eq_true, Bool.not_eq_true', beq_iff_eq] at this
    exact this.1.1
  · intro t n h m l k xs ys r w hks hr hx hy
    have := List.all_eq_true.1 he _ h
    simp only [Bool.and_eq_true, Bool.not_eq_true', beq_iff_eq] at this
    obtain ⟨⟨_, hk⟩, hl⟩ := this
    cases hti : lookT G.T t with
    | none => rw [hti] at hl; cases hl
    | some ti =>
      rw [hti] at hl
      simp only [Option.map_some, Option.some.injEq] at hl
      have := eqk_ok (m := m) hT (fun t ti h => (hone t ti h).2) 9 t n ti hk hti 10000 (by omega) l k xs.toList ys.toList r w hks hr hx hy
      simpa [packV, hl] using this
  · intro t ti fs h hu f hf
    have := htest ti (lookT_mem h).1
    simp only [tiTest, Bool.and_eq_true, hu] at this
    exact List.all_eq_true.1 this.2 f hf
end
end Go.Proofs.Ytcpahifgdppkbaa.QAI
namespace Go.Proofs.Ytcpahifgdppkbaa.QAI
open Go Go.RowKit
def isZ64 : Value → Bool
  | .int .i64 0 => true
  | _ => false
def shapeT (i : TI) : Bool := match i.shape with
  | some (n, s) => s == 1 && i.agg && i.size == n && decide (0 < n) && i.zero.all isZ64 && i.zero.length == n
  | none => true
theorem shapeT_ok {i : TI} (h : shapeT i = true) : shapeTest i := by
  intro n s hs
  unfold shapeT at h
  rw [hs] at h
  simp only [Bool.and_eq_true, beq_iff_eq, decide_eq_true_eq] at h
  obtain ⟨⟨⟨⟨⟨h1, h2⟩, h3⟩, h4⟩, h5⟩, h6⟩ := h
  have hz : ∀ x ∈ i.zero, x = .int .i64 0 := fun x hx => by
    have := List.all_eq_true.1 h5 x hx
    unfold isZ64 at this
    split at this
    · rfl
    · cases this
  have he : i.zero = List.replicate n (.int .i64 0) := List.eq_replicate_iff.2 ⟨h6, hz⟩
  refine ⟨h1, h2, h3, ?_, h4⟩
  rw [he]
  cases n with
  | zero => omega
  | succ n => rfl
end Go.Proofs.Ytcpahifgdppkbaa.QAI
end
section
/- The table of the seat's types, and its facts. -/
set_option linter.unusedVariables false
set_option linter.unusedSimpArgs false
open Go Go.Proofs
namespace Go.Proofs.Ytcpahifgdppkbaa.QAI
set_option maxRecDepth 100000
def tab : List TI := [
  ⟨2, .int .i64, 1, 8, [.int .i64 0], false, true, none⟩,
  ⟨3, .int .i64, 1, 8, [.int .i64 0], false, true, none⟩,
  ⟨4, .bool, 1, 1, [.bool false], false, true, none⟩,
  ⟨5, .int .u8, 1, 1, [.int .u8 0], false, true, none⟩,
  ⟨6, .int .u8, 1, 1, [.int .u8 0], false, true, none⟩,
  ⟨7, .struct #[⟨ "x", 2, 0, false, "", "runtime", 0⟩, ⟨ "y", 3, 1, false, "", "runtime", 8⟩, ⟨ "signed", 4, 2, false, "", "runtime", 16⟩, ⟨ "code", 6, 3, false, "", "runtime", 17⟩], 4, 24, [.int .i64 0, .int .i64 0, .bool false, .int .u8 0], true, true, none⟩,
  ⟨8, .struct #[⟨ "x", 2, 0, false, "", "runtime", 0⟩, ⟨ "y", 3, 1, false, "", "runtime", 8⟩, ⟨ "signed", 4, 2, false, "", "runtime", 16⟩, ⟨ "code", 6, 3, false, "", "runtime", 17⟩], 4, 24, [.int .i64 0, .int .i64 0, .bool false, .int .u8 0], true, true, none⟩,
  ⟨9, .string, 1, 16, [.string ⟨#[]⟩], false, true, none⟩,
  ⟨10, .string, 1, 16, [.string ⟨#[]⟩], false, true, none⟩,
  ⟨11, .string, 1, 16, [.string ⟨#[]⟩], false, true, none⟩,
  ⟨12, .int .u64, 1, 8, [.int .u64 0], false, true, none⟩,
  ⟨13, .struct #[⟨ "msg", 9, 0, false, "", "runtime", 0⟩, ⟨ "addr", 12, 1, false, "", "runtime", 16⟩], 2, 24, [.string ⟨#[]⟩, .int .u64 0], true, true, none⟩,
  ⟨14, .struct #[⟨ "msg", 9, 0, false, "", "runtime", 0⟩, ⟨ "addr", 12, 1, false, "", "runtime", 16⟩], 2, 24, [.string ⟨#[]⟩, .int .u64 0], true, true, none⟩,
  ⟨15, .pointer 219, 1, 8, [.pointer none], false, false, none⟩,
  ⟨16, .pointer 222, 1, 8, [.pointer none], false, false, none⟩,
  ⟨17, .pointer 230, 1, 8, [.pointer none], false, false, none⟩,
  ⟨18, .struct #[⟨ "typ", 17, 0, false, "", "internal/runtime/maps", 0⟩], 1, 8, [.pointer none], true, false, none⟩,
  ⟨19, .struct #[⟨ "typ", 17, 0, false, "", "internal/runtime/maps", 0⟩], 1, 8, [.pointer none], true, false, none⟩,
  ⟨21, .int .i32, 1, 4, [.int .i32 0], false, true, none⟩,
  ⟨22, .slice 2, 1, 24, [.slice none 0 0], false, false, none⟩,
  ⟨24, .slice 27, 1, 24, [.slice none 0 0], false, false, none⟩,
  ⟨26, .struct #[⟨ "Pos", 2, 0, false, "", "", 0⟩, ⟨ "Neg", 2, 1, false, "", "", 8⟩], 2, 16, [.int .i64 0, .int .i64 0], true, true, none⟩,
  ⟨27, .struct #[⟨ "Pos", 2, 0, false, "", "", 0⟩, ⟨ "Neg", 2, 1, false, "", "", 8⟩], 2, 16, [.int .i64 0, .int .i64 0], true, true, none⟩,
  ⟨33, .array 256 2, 256, 2048, List.replicate 256 (.int .i64 0), true, true, some (256, 1)⟩,
  ⟨34, .struct #[⟨ "Adv", 33, 0, false, "", "", 0⟩], 256, 2048, List.replicate 256 (.int .i64 0), true, true, some (256, 1)⟩,
  ⟨35, .struct #[⟨ "Adv", 33, 0, false, "", "", 0⟩], 256, 2048, List.replicate 256 (.int .i64 0), true, true, some (256, 1)⟩,
  ⟨41, .int .u64, 1, 8, [.int .u64 0], false, true, none⟩,
  ⟨43, .struct #[⟨ "X", 2, 0, false, "", "", 0⟩, ⟨ "Y", 2, 1, false, "", "", 8⟩, ⟨ "W", 2, 2, false, "", "", 16⟩, ⟨ "H", 2, 3, false, "", "", 24⟩], 4, 32, [.int .i64 0, .int .i64 0, .int .i64 0, .int .i64 0], true, true, none⟩,
  ⟨44, .struct #[⟨ "X", 2, 0, false, "", "", 0⟩, ⟨ "Y", 2, 1, false, "", "", 8⟩, ⟨ "W", 2, 2, false, "", "", 16⟩, ⟨ "H", 2, 3, false, "", "", 24⟩], 4, 32, [.int .i64 0, .int .i64 0, .int .i64 0, .int .i64 0], true, true, none⟩,
  ⟨48, .slice 44, 1, 24, [.slice none 0 0], false, false, none⟩,
  ⟨58, .slice 61, 1, 24, [.slice none 0 0], false, false, none⟩,
  ⟨60, .struct #[⟨ "H", 2, 0, false, "", "", 0⟩, ⟨ "Top", 27, 1, false, "", "", 8⟩, ⟨ "Bottom", 27, 3, false, "", "", 24⟩, ⟨ "Through", 4, 5, false, "", "", 40⟩], 6, 48, [.int .i64 0, .int .i64 0, .int .i64 0, .int .i64 0, .int .i64 0, .bool false], true, true, none⟩,
  ⟨61, .struct #[⟨ "H", 2, 0, false, "", "", 0⟩, ⟨ "Top", 27, 1, false, "", "", 8⟩, ⟨ "Bottom", 27, 3, false, "", "", 24⟩, ⟨ "Through", 4, 5, false, "", "", 40⟩], 6, 48, [.int .i64 0, .int .i64 0, .int .i64 0, .int .i64 0, .int .i64 0, .bool false], true, true, none⟩,
  ⟨62, .struct #[⟨ "Top", 27, 0, false, "", "", 0⟩, ⟨ "Bottom", 27, 2, false, "", "", 16⟩, ⟨ "Through", 4, 4, false, "", "", 32⟩, ⟨ "H", 2, 5, false, "", "", 40⟩], 6, 48, [.int .i64 0, .int .i64 0, .int .i64 0, .int .i64 0, .bool false, .int .i64 0], true, true, none⟩,
  ⟨63, .struct #[⟨ "Top", 27, 0, false, "", "", 0⟩, ⟨ "Bottom", 27, 2, false, "", "", 16⟩, ⟨ "Through", 4, 4, false, "", "", 32⟩, ⟨ "H", 2, 5, false, "", "", 40⟩], 6, 48, [.int .i64 0, .int .i64 0, .int .i64 0, .int .i64 0, .bool false, .int .i64 0], true, true, none⟩,
  ⟨79, .slice 3, 1, 24, [.slice none 0 0], false, false, none⟩,
  ⟨80, .slice 83, 1, 24, [.slice none 0 0], false, false, none⟩,
  ⟨82, .struct #[⟨ "Node", 3, 0, false, "", "", 0⟩, ⟨ "Text", 9, 1, false, "", "", 8⟩, ⟨ "White", 3, 2, false, "", "", 24⟩, ⟨ "Line", 2, 3, false, "", "", 32⟩], 4, 40, [.int .i64 0, .string ⟨#[]⟩, .int .i64 0, .int .i64 0], true, true, none⟩,
  ⟨83, .struct #[⟨ "Node", 3, 0, false, "", "", 0⟩, ⟨ "Text", 9, 1, false, "", "", 8⟩, ⟨ "White", 3, 2, false, "", "", 24⟩, ⟨ "Line", 2, 3, false, "", "", 32⟩], 4, 40, [.int .i64 0, .string ⟨#[]⟩, .int .i64 0, .int .i64 0], true, true, none⟩,
  ⟨84, .slice 87, 1, 24, [.slice none 0 0], false, false, none⟩,
  ⟨86, .struct #[⟨ "Kind", 3, 0, false, "", "", 0⟩, ⟨ "Run", 3, 1, false, "", "", 8⟩, ⟨ "At", 3, 2, false, "", "", 16⟩, ⟨ "Adv", 2, 3, false, "", "", 24⟩], 4, 32, [.int .i64 0, .int .i64 0, .int .i64 0, .int .i64 0], true, true, none⟩,
  ⟨87, .struct #[⟨ "Kind", 3, 0, false, "", "", 0⟩, ⟨ "Run", 3, 1, false, "", "", 8⟩, ⟨ "At", 3, 2, false, "", "", 16⟩, ⟨ "Adv", 2, 3, false, "", "", 24⟩], 4, 32, [.int .i64 0, .int .i64 0, .int .i64 0, .int .i64 0], true, true, none⟩,
  ⟨93, .int .u64, 1, 8, [.int .u64 0], false, true, none⟩,
  ⟨95, .slice 98, 1, 24, [.slice none 0 0], false, false, none⟩,
  ⟨97, .struct #[⟨ "From", 3, 0, false, "", "", 0⟩, ⟨ "To", 3, 1, false, "", "", 8⟩, ⟨ "W", 2, 2, false, "", "", 16⟩], 3, 24, [.int .i64 0, .int .i64 0, .int .i64 0], true, true, none⟩,
  ⟨98, .struct #[⟨ "From", 3, 0, false, "", "", 0⟩, ⟨ "To", 3, 1, false, "", "", 8⟩, ⟨ "W", 2, 2, false, "", "", 16⟩], 3, 24, [.int .i64 0, .int .i64 0, .int .i64 0], true, true, none⟩,
  ⟨102, .array 2 2, 2, 16, [.int .i64 0, .int .i64 0], true, true, some (2, 1)⟩,
  ⟨108, .slice 112, 1, 24, [.slice none 0 0], false, false, none⟩,
  ⟨111, .struct #[⟨ "Node", 3, 0, false, "", "", 0⟩, ⟨ "Rect", 44, 1, false, "", "", 8⟩, ⟨ "From", 3, 5, false, "", "", 40⟩, ⟨ "To", 3, 6, false, "", "", 48⟩, ⟨ "Line", 3, 7, false, "", "", 56⟩], 8, 64, [.int .i64 0, .int .i64 0, .int .i64 0, .int .i64 0, .int .i64 0, .int .i64 0, .int .i64 0, .int .i64 0], true, true, none⟩,
  ⟨112, .struct #[⟨ "Node", 3, 0, false, "", "", 0⟩, ⟨ "Rect", 44, 1, false, "", "", 8⟩, ⟨ "From", 3, 5, false, "", "", 40⟩, ⟨ "To", 3, 6, false, "", "", 48⟩, ⟨ "Line", 3, 7, false, "", "", 56⟩], 8, 64, [.int .i64 0, .int .i64 0, .int .i64 0, .int .i64 0, .int .i64 0, .int .i64 0, .int .i64 0, .int .i64 0], true, true, none⟩,
  ⟨118, .slice 121, 1, 24, [.slice none 0 0], false, false, none⟩,
  ⟨120, .struct #[⟨ "Kind", 3, 0, false, "", "", 0⟩, ⟨ "ID", 3, 1, false, "", "", 8⟩, ⟨ "At", 3, 2, false, "", "", 16⟩, ⟨ "Before", 3, 3, false, "", "", 24⟩, ⟨ "Text", 9, 4, false, "", "", 32⟩], 5, 48, [.int .i64 0, .int .i64 0, .int .i64 0, .int .i64 0, .string ⟨#[]⟩], true, true, none⟩,
  ⟨121, .struct #[⟨ "Kind", 3, 0, false, "", "", 0⟩, ⟨ "ID", 3, 1, false, "", "", 8⟩, ⟨ "At", 3, 2, false, "", "", 16⟩, ⟨ "Before", 3, 3, false, "", "", 24⟩, ⟨ "Text", 9, 4, false, "", "", 32⟩], 5, 48, [.int .i64 0, .int .i64 0, .int .i64 0, .int .i64 0, .string ⟨#[]⟩], true, true, none⟩,
  ⟨122, .slice 5, 1, 24, [.slice none 0 0], false, false, none⟩,
  ⟨125, .struct #[⟨ "Place", 3, 0, false, "", "", 0⟩, ⟨ "Turn", 3, 1, false, "", "", 8⟩], 2, 16, [.int .i64 0, .int .i64 0], true, true, none⟩,
  ⟨126, .struct #[⟨ "Place", 3, 0, false, "", "", 0⟩, ⟨ "Turn", 3, 1, false, "", "", 8⟩], 2, 16, [.int .i64 0, .int .i64 0], true, true, none⟩,
  ⟨127, .struct #[⟨ "Kind", 3, 0, false, "", "", 0⟩, ⟨ "Node", 3, 1, false, "", "", 8⟩, ⟨ "Snap", 126, 2, false, "", "", 16⟩, ⟨ "X", 2, 4, false, "", "", 32⟩, ⟨ "Y", 2, 5, false, "", "", 40⟩, ⟨ "Ops", 118, 6, false, "", "", 48⟩], 7, 72, [.int .i64 0, .int .i64 0, .int .i64 0, .int .i64 0, .int .i64 0, .int .i64 0, .slice none 0 0], true, false, none⟩,
  ⟨128, .struct #[⟨ "Kind", 3, 0, false, "", "", 0⟩, ⟨ "Node", 3, 1, false, "", "", 8⟩, ⟨ "Snap", 126, 2, false, "", "", 16⟩, ⟨ "X", 2, 4, false, "", "", 32⟩, ⟨ "Y", 2, 5, false, "", "", 40⟩, ⟨ "Ops", 118, 6, false, "", "", 48⟩], 7, 72, [.int .i64 0, .int .i64 0, .int .i64 0, .int .i64 0, .int .i64 0, .int .i64 0, .slice none 0 0], true, false, none⟩,
  ⟨129, .slice 128, 1, 24, [.slice none 0 0], false, false, none⟩,
  ⟨130, .struct #[⟨ "Kind", 3, 0, false, "", "", 0⟩, ⟨ "E", 3, 1, false, "", "", 8⟩, ⟨ "At", 3, 2, false, "", "", 16⟩, ⟨ "Node", 3, 3, false, "", "", 24⟩, ⟨ "Snap", 126, 4, false, "", "", 32⟩, ⟨ "Rect", 44, 6, false, "", "", 48⟩], 10, 80, List.replicate 10 (.int .i64 0), true, true, none⟩,
  ⟨131, .struct #[⟨ "Kind", 3, 0, false, "", "", 0⟩, ⟨ "E", 3, 1, false, "", "", 8⟩, ⟨ "At", 3, 2, false, "", "", 16⟩, ⟨ "Node", 3, 3, false, "", "", 24⟩, ⟨ "Snap", 126, 4, false, "", "", 32⟩, ⟨ "Rect", 44, 6, false, "", "", 48⟩], 10, 80, List.replicate 10 (.int .i64 0), true, true, none⟩,
  ⟨134, .int .i64, 1, 8, [.int .i64 0], false, true, none⟩,
  ⟨149, .pointer 35, 1, 8, [.pointer none], false, false, none⟩,
  ⟨154, .slice 9, 1, 24, [.slice none 0 0], false, false, none⟩,
  ⟨166, .pointer 168, 1, 8, [.pointer none], false, false, none⟩,
  ⟨167, .struct #[⟨ "b", 122, 0, false, "", "quoin/wire", 0⟩, ⟨ "bad", 4, 1, false, "", "quoin/wire", 24⟩], 2, 32, [.slice none 0 0, .bool false], true, false, none⟩,
  ⟨168, .struct #[⟨ "b", 122, 0, false, "", "quoin/wire", 0⟩, ⟨ "bad", 4, 1, false, "", "quoin/wire", 24⟩], 2, 32, [.slice none 0 0, .bool false], true, false, none⟩,
  ⟨174, .pointer 175, 1, 8, [.pointer none], false, false, none⟩,
  ⟨175, .struct #[⟨ "b", 122, 0, false, "", "quoin/wire", 0⟩, ⟨ "bad", 4, 1, false, "", "quoin/wire", 24⟩], 2, 32, [.slice none 0 0, .bool false], true, false, none⟩,
  ⟨178, .array 4 2, 4, 32, [.int .i64 0, .int .i64 0, .int .i64 0, .int .i64 0], true, true, some (4, 1)⟩,
  ⟨188, .pointer 112, 1, 8, [.pointer none], false, false, none⟩,
  ⟨198, .slice 207, 1, 24, [.slice none 0 0], false, false, none⟩,
  ⟨201, .int .u32, 1, 4, [.int .u32 0], false, true, none⟩,
  ⟨204, .struct #[⟨ "Kind", 3, 0, false, "", "", 0⟩, ⟨ "N", 2, 1, false, "", "", 8⟩], 2, 16, [.int .i64 0, .int .i64 0], true, true, none⟩,
  ⟨205, .struct #[⟨ "Kind", 3, 0, false, "", "", 0⟩, ⟨ "N", 2, 1, false, "", "", 8⟩], 2, 16, [.int .i64 0, .int .i64 0], true, true, none⟩,
  ⟨206, .struct #[⟨ "Prop", 3, 0, false, "", "", 0⟩, ⟨ "Word", 3, 1, false, "", "", 8⟩, ⟨ "Len", 205, 2, false, "", "", 16⟩], 4, 32, [.int .i64 0, .int .i64 0, .int .i64 0, .int .i64 0], true, true, none⟩,
  ⟨207, .struct #[⟨ "Prop", 3, 0, false, "", "", 0⟩, ⟨ "Word", 3, 1, false, "", "", 8⟩, ⟨ "Len", 205, 2, false, "", "", 16⟩], 4, 32, [.int .i64 0, .int .i64 0, .int .i64 0, .int .i64 0], true, true, none⟩,
  ⟨223, .int .u8, 1, 1, [.int .u8 0], false, true, none⟩,
  ⟨224, .int .u8, 1, 1, [.int .u8 0], false, true, none⟩,
  ⟨226, .pointer 5, 1, 8, [.pointer none], false, false, none⟩,
  ⟨227, .int .i32, 1, 4, [.int .i32 0], false, true, none⟩,
  ⟨228, .int .i32, 1, 4, [.int .i32 0], false, true, none⟩]
def eqsT : List (TypeId × List Nat) := [
  (26, [1, 1]),
  (27, [1, 1]),
  (43, [1, 1, 1, 1]),
  (44, [1, 1, 1, 1]),
  (60, [1, 1, 1, 1, 1, 2]),
  (61, [1, 1, 1, 1, 1, 2]),
  (62, [1, 1, 1, 1, 2, 1]),
  (63, [1, 1, 1, 1, 2, 1]),
  (82, [1, 3, 1, 1]),
  (83, [1, 3, 1, 1]),
  (86, [1, 1, 1, 1]),
  (87, [1, 1, 1, 1]),
  (97, [1, 1, 1]),
  (98, [1, 1, 1]),
  (111, [1, 1, 1, 1, 1, 1, 1, 1]),
  (112, [1, 1, 1, 1, 1, 1, 1, 1]),
  (120, [1, 1, 1, 1, 3]),
  (121, [1, 1, 1, 1, 3]),
  (125, [1, 1]),
  (126, [1, 1]),
  (130, [1, 1, 1, 1, 1, 1, 1, 1, 1, 1]),
  (131, [1, 1, 1, 1, 1, 1, 1, 1, 1, 1]),
  (204, [1, 1]),
  (205, [1, 1]),
  (206, [1, 1, 1, 1]),
  (207, [1, 1, 1, 1])]
noncomputable def G0 : Ctx := { P := Try.prog, T := tab, eqs := eqsT }
theorem tab_f : tab.map (tiFact Try.prog) = tab.map tiWant := by kernel_rfl
theorem tab_t : tab.all (tiTest tab) = true := by kernel_rfl
theorem tab_s : tab.all shapeT = true := by kernel_rfl
theorem tab_e : eqsT.all (fun p => !Try.prog.eqGuardType Try.prog.depth p.1 && eqKinds Try.prog tab 9 p.1 == some p.2 && ((lookT tab p.1).map TI.agg == some true)) = true := by kernel_rfl
theorem tab_mixed : Try.prog.follows .mixedOrders = true := by kernel_rfl
theorem tab_ok : GOk G0 ∧ FOk G0 := tab_facts (G := G0) tab_f tab_t (fun i hi => shapeT_ok (List.all_eq_true.1 tab_s i hi)) tab_e

/-- The table of what is known of the functions that are called. -/
abbrev Known := List (Nat × Spec)
def Known.look (K : Known) (f : Nat) : Option Spec := (K.find? fun p => p.1 == f).map Prod.snd
def nameOk (P : Program) (f : Nat) : Bool := match P.funcs[f]? with
  | some fn => !(fn.name == "runtime.NumGoroutine") && !fn.body.isNone
  | none => false
def KnownOk (K : Known) : Prop := ∀ f F, (f, F) ∈ K → SpecOk Try.prog f F ∧ nameOk Try.prog f = true
noncomputable def GT (K : Known) (keep : Nat → List (Nat × Option TypeId)) (L : Nat) (ts : List Nat) : Ctx2 := { G0 with σ := K.look, keep := keep, L := L, tame := ts }
noncomputable def GK (K : Known) (keep : Nat → List (Nat × Option TypeId)) (L : Nat) : Ctx2 := { G0 with σ := K.look, keep := keep, L := L }

theorem GT_ok {K : Known} (hK : KnownOk K) (keep : Nat → List (Nat × Option TypeId)) (L : Nat) (ts : List Nat) : XOk (GT K keep L ts) where
  g := tab_ok.1
  f := tab_ok.2
  mixed := tab_mixed
  σ := fun f F h => by
    simp only [GT, Known.look, Option.map_eq_some_iff] at h
    obtain ⟨p, hp, rfl⟩ := h
    have hm := List.mem_of_find?_eq_some hp
    have he := List.find?_some hp
    have he' : p.1 = f := by simpa using he
    subst he'
    obtain ⟨h1, h2⟩ := hK p.1 p.2 hm
    refine ⟨h1, ?_⟩
    unfold nameOk at h2
    split at h2
    · rename_i fn hfn
      simp only [Bool.and_eq_true, Bool.not_eq_true'] at h2
      exact ⟨fn, hfn, h2.1, h2.2⟩
    · cases h2

theorem GK_ok {K : Known} (hK : KnownOk K) (keep : Nat → List (Nat × Option TypeId)) (L : Nat) : XOk (GK K keep L) := GT_ok hK keep L []

/-- A spec that is known of a function: what its code comes to, or anything that says less. -/
theorem known {K : Known} (hK : KnownOk K) (keep : Nat → List (Nat × Option TypeId)) (L d : Nat) {f : Nat} {fn : Func} (hf : Try.prog.funcs[f]? = some fn) {F : Spec}
    (h : ∀ args h r, (F args h).eval = some r → (afun (GK K keep L) d fn args h).eval = some r) : SpecOk Try.prog f F :=
  fun B args h' r H' he => afun_ok (GK_ok hK keep L) hf d B args h' r H' (h _ _ _ he)
end Go.Proofs.Ytcpahifgdppkbaa.QAI
end
section
/- Loops told from outside: what is shown of a loop stands in for it; questions. -/
set_option linter.unusedVariables false
set_option linter.unusedSimpArgs false
namespace Go.Proofs.Ytcpahifgdppkbaa.QAI
open Go Go.RowKit

abbrev Loops := Nat → Code → St → Tr (Ex × St)

noncomputable def lrun (G : Ctx2) (ℓ : Loops) (n0 : Nat) : Nat → Code → St → Tr (Ex × St)
  | 0, _, _ => .fail
  | _ + 1, .skip, S => .ret (.normal, S)
  | _ + 1, .region _ ops draw, S => (if draw then regDraw G ops S else regSeq G ops ops.toList S).bind fun S' => .ret (.normal, S')
  | d + 1, .seq a b, S => (lrun G ℓ n0 d a S).bind fun (e, S') => match e with
    | .normal => lrun G ℓ n0 d b S'
    | e => .ret (e, S')
  | d + 1, .cond c a b, S =>
    match c with
    | .tmp t =>
      match S.sl.getD t (.c .any) with
      | .c (.v (.bool x)) => .ite x (lrun G ℓ n0 d a (litB S t true)) (lrun G ℓ n0 d b (litB S t false))
      | _ => .fail
    | _ => .fail
  | d + 1, .block id b, S => (lrun G ℓ n0 d b S).bind fun (e, S') => match e with
    | .exit k => if k = id then .ret (.normal, S') else .ret (.exit k, S')
    | e => .ret (e, S')
  | d + 1, .loop b, S => ℓ d b (canon G.T n0 (G.keep (firstReg b)) S)
  | _ + 1, .exit id, S => .ret (.exit id, S)
  | _ + 1, .ret, S => .ret (.ret, S)
  | _ + 1, _, _ => .fail

noncomputable def lfun (G : Ctx2) (ℓ : Loops) (d : Nat) (fn : Func) : Spec := fun args h =>
  match fn.body with
  | none => .fail
  | some c => (lrun G ℓ h.length d c ⟨args ++ List.replicate (fn.ntmps - args.length) (.c .any), h⟩).bind fun (e, S) =>
    match e with
    | .exit _ => .fail
    | _ => (resL G.T S fn.results.toList).bind fun l =>
      let r := oneRes l
      let R := closeOf S.h 10000 (refsOf S.h h.length ++ refAV r) (List.range h.length)
      .ret (renAV (idxIn R) r, subHeap S.h R)

def LoopsOk (G : Ctx2) (n0 : Nat) (ℓ : Loops) : Prop :=
  ∀ d b S r, (ℓ d b S).eval = some r → (iter (arun G n0 d b) (canon G.T n0 (G.keep (firstReg b))) G.L S).eval = some r

theorem lrun_ok {G : Ctx2} {ℓ : Loops} {n0 : Nat} (hℓ : LoopsOk G n0 ℓ) : ∀ (d : Nat) (c : Code) (S : St) r, (lrun G ℓ n0 d c S).eval = some r → (arun G n0 d c S).eval = some r
  | 0, c, S, r, h => by cases c <;> exact absurd h (by simp [lrun, Tr.eval])
  | d + 1, c, S, r, h => by
    cases c with
    | skip => exact h
    | region id ops draw => exact h
    | exit id => exact h
    | ret => exact h
    | seq a b =>
      simp only [lrun, Tr.eval_bind] at h
      simp only [arun, Tr.eval_bind]
      cases h1 : (lrun G ℓ n0 d a S).eval with
      | none => simp [h1] at h
      | some r1 =>
        obtain ⟨e, S1⟩ := r1
        rw [lrun_ok hℓ d a S _ h1]
        rw [h1] at h
        simp only [Option.bind_some] at h ⊢
        cases e with
        | normal => exact lrun_ok hℓ d b S1 r h
        | exit k => exact h
        | ret => exact h
    | cond c a b =>
      cases c with
      | tmp t =>
        simp only [lrun] at h
        simp only [arun]
        split at h
        · rename_i x hx
          simp only [hx]
          simp only [Tr.eval_ite] at h ⊢
          split at h
          · rw [if_pos ‹_›]; exact lrun_ok hℓ d a _ r h
          · rw [if_neg ‹_›]; exact lrun_ok hℓ d b _ r h
        · cases h
      | const v => simp [lrun, Tr.eval] at h
      | global v => simp [lrun, Tr.eval] at h
      | func v => simp [lrun, Tr.eval] at h
    | block id b =>
      simp only [lrun, Tr.eval_bind] at h
      simp only [arun, Tr.eval_bind]
      cases h1 : (lrun G ℓ n0 d b S).eval with
      | none => simp [h1] at h
      | some r1 =>
        obtain ⟨e, S1⟩ := r1
        rw [lrun_ok hℓ d b S _ h1]
        rw [h1] at h
        simp only [Option.bind_some] at h ⊢
        cases e with
        | normal => exact h
        | exit k => exact h
        | ret => exact h
    | loop b => exact hℓ d b _ r h
    | _ => exact absurd h (by simp [lrun, Tr.eval])

theorem lfun_ok {G : Ctx2} {ℓ : Loops} {d : Nat} {fn : Func} {args : List AV} {h : AHeap} (hℓ : LoopsOk G h.length ℓ) {r} (he : (lfun G ℓ d fn args h).eval = some r) : (afun G d fn args h).eval = some r := by
  unfold lfun at he
  unfold afun
  split at he
  · cases he
  · rename_i c hc
    simp only [hc]
    rw [Tr.eval_bind] at he ⊢
    cases h1 : (lrun G ℓ h.length d c ⟨args ++ List.replicate (fn.ntmps - args.length) (.c .any), h⟩).eval with
    | none => simp [h1] at he
    | some r1 =>
      rw [lrun_ok hℓ d c _ _ h1]
      rw [h1] at he
      exact he

/-- One round, and what it leaves for the next. -/
noncomputable def round (f : St → Tr (Ex × St)) (k : St → St) (S : St) : Option (Ex × St) := ((f S).bind fun r => .ret (r.1, match r.1 with | .normal => k r.2 | _ => r.2)).eval
theorem round_eq {f : St → Tr (Ex × St)} {k : St → St} {S : St} : round f k S = (f S).eval.map fun r => (r.1, match r.1 with | .normal => k r.2 | _ => r.2) := by
  unfold round
  rw [Tr.eval_bind]
  cases (f S).eval <;> rfl

theorem iter_upto {f : St → Tr (Ex × St)} {k : St → St} (st : Nat → St) {N : Nat} {e : Ex} (he : e ≠ .normal) {Se : St} (hN : round f k (st N) = some (e, Se)) :
    ∀ (L i : Nat), i ≤ N → N < L + i → (∀ j, i ≤ j → j < N → round f k (st j) = some (.normal, st (j + 1))) → (iter f k L (st i)).eval = some (e, Se)
  | 0, i, hi, hL, _ => by omega
  | L + 1, i, hi, hL, h => by
    simp only [iter, Tr.eval_bind]
    rcases Nat.lt_or_ge i N with hlt | hge
    · have h1 := h i (Nat.le_refl _) hlt
      rw [round_eq] at h1
      cases h2 : (f (st i)).eval with
      | none => rw [h2] at h1; cases h1
      | some r =>
        obtain ⟨e1, S1⟩ := r
        rw [h2] at h1
        simp only [Option.map_some, Option.some.injEq, Prod.mk.injEq] at h1
        obtain ⟨rfl, h3⟩ := h1
        simp only [Option.bind_some]
        simp only at h3
        rw [h3]
        exact iter_upto st he hN L (i + 1) (by omega) (by omega) fun j hj hjN => h j (by omega) hjN
    · have : i = N := by omega
      subst this
      rw [round_eq] at hN
      cases h2 : (f (st i)).eval with
      | none => rw [h2] at hN; cases hN
      | some r =>
        obtain ⟨e1, S1⟩ := r
        rw [h2] at hN
        simp only [Option.map_some, Option.some.injEq, Prod.mk.injEq] at hN
        obtain ⟨rfl, h3⟩ := hN
        simp only [Option.bind_some]
        cases e1 with
        | normal => exact absurd rfl he
        | exit k => simp only at h3; rw [h3]; rfl
        | ret => simp only at h3; rw [h3]; rfl

theorem yes_of {p : Prop} (h : p) : yes p = true := by simp [yes, h]
/-- What one loop comes to. -/
noncomputable def told (d0 : Nat) (b0 : Code) (S0 : St) (r : Ex × St) : Loops := fun d b S => .need (yes (d = d0 ∧ b = b0 ∧ S = S0)) (.ret r)
abbrev was (d0 : Nat) (b0 : Code) (S0 : St) : Prop := d0 = d0 ∧ b0 = b0 ∧ S0 = S0
theorem told_ok {G : Ctx2} {n0 d0 : Nat} {b0 : Code} {S0 : St} {r : Ex × St} (h : (iter (arun G n0 d0 b0) (canon G.T n0 (G.keep (firstReg b0))) G.L S0).eval = some r) : LoopsOk G n0 (told d0 b0 S0 r) := by
  intro d b S r' he
  obtain ⟨h1, h2⟩ := Tr.eval_need.1 he
  have : d = d0 ∧ b = b0 ∧ S = S0 := by simpa [yes] using h1
  obtain ⟨rfl, rfl, rfl⟩ := this
  cases h2
  exact h
theorem Tr.eval_ask {α : Type} {p : Prop} {t : Tr α} {v : α} : (Tr.need (yes p) t).eval = some v ↔ p ∧ t.eval = some v := by
  rw [Tr.eval_need]
  simp [yes]

def loopsOf : Code → List Code
  | .seq a b => loopsOf a ++ loopsOf b
  | .block _ b => loopsOf b
  | .loop b => b :: loopsOf b
  | .cond _ a b => loopsOf a ++ loopsOf b
  | _ => []
def bodyOf (fn : Func) (n : Nat) : Code := (loopsOf (fn.body.getD .skip)).getD n .skip
/-- Slots of which some are told. -/
def slots (n : Nat) (l : List (Nat × AV)) : List AV := l.foldl (fun s p => s.set p.1 p.2) (List.replicate n (.c .any))
abbrev I64 (x : Int) : AV := .c (.v (.int .i64 x))
abbrev i64 (x : Int) : AC := .v (.int .i64 x)
abbrev Bo (x : Bool) : AV := .c (.v (.bool x))
theorem knownT {K : Known} (hK : KnownOk K) {f : Nat} {fn : Func} (hf : Try.prog.funcs[f]? = some fn) {F : Spec}
    (h : ∀ args h r, (F args h).eval = some r → ∃ keep L d ts, (afun (GT K keep L ts) d fn args h).eval = some r) : SpecOk Try.prog f F :=
  fun B args h' r H' he => by
    obtain ⟨keep, L, d, ts, h1⟩ := h _ _ _ he
    exact afun_ok (GT_ok hK keep L ts) hf d B args h' r H' h1
theorem known' {K : Known} (hK : KnownOk K) {f : Nat} {fn : Func} (hf : Try.prog.funcs[f]? = some fn) {F : Spec}
    (h : ∀ args h r, (F args h).eval = some r → ∃ keep L d, (afun (GK K keep L) d fn args h).eval = some r) : SpecOk Try.prog f F :=
  fun B args h' r H' he => by
    obtain ⟨keep, L, d, h1⟩ := h _ _ _ he
    exact afun_ok (GK_ok hK keep L) hf d B args h' r H' h1
theorem known0 {K : Known} (hK : KnownOk K) (d : Nat) {f : Nat} {fn : Func} (hf : Try.prog.funcs[f]? = some fn) : SpecOk Try.prog f (afun (GK K (fun _ => []) 0) d fn) :=
  known' hK hf fun _ _ _ h => ⟨_, _, _, h⟩
end Go.Proofs.Ytcpahifgdppkbaa.QAI
end
section
/- More of loops: several, and within each other. -/
set_option linter.unusedVariables false
set_option linter.unusedSimpArgs false
namespace Go.Proofs.Ytcpahifgdppkbaa.QAI
open Go Go.RowKit

noncomputable def byReg (r : Nat) (a b : Loops) : Loops := fun d c S => if firstReg c = r then a d c S else b d c S
theorem byReg_ok {G : Ctx2} {n0 r : Nat} {a b : Loops} (ha : LoopsOk G n0 a) (hb : LoopsOk G n0 b) : LoopsOk G n0 (byReg r a b) := by
  intro d c S x h
  unfold byReg at h
  split at h
  · exact ha d c S x h
  · exact hb d c S x h
theorem noLoops {G : Ctx2} {n0 : Nat} : LoopsOk G n0 (fun _ _ _ => .fail) := fun _ _ _ _ h => by cases h
theorem round_l {G : Ctx2} {n0 d : Nat} {ℓ : Loops} {c : Code} {k : St → St} {S : St} {r : Ex × St} (hℓ : LoopsOk G n0 ℓ) (h : round (lrun G ℓ n0 d c) k S = some r) : round (arun G n0 d c) k S = some r := by
  rw [round_eq] at h ⊢
  cases h1 : (lrun G ℓ n0 d c S).eval with
  | none => rw [h1] at h; cases h
  | some x => rw [lrun_ok hℓ d c S x h1]; rw [h1] at h; exact h
end Go.Proofs.Ytcpahifgdppkbaa.QAI
end
section
/- Short names for what often stands in values. -/
set_option linter.unusedVariables false
set_option linter.unusedSimpArgs false
namespace Go.Proofs.Ytcpahifgdppkbaa.QAI
open Go Go.RowKit
def w64 (x : Int) : Int := IntKind.wrap .i64 x
def and64 (a m : Int) : Int := bits .and .i64 a m
def mxI (a b : Int) : Int := if a > b then a else b
def mnI (a b : Int) : Int := if a < b then a else b
theorem mxI_eq (a b : Int) : mxI a b = max a b := by unfold mxI; omega
theorem mnI_eq (a b : Int) : mnI a b = min a b := by unfold mnI; omega
def u64 (x : Int) : Int := IntKind.wrap .u64 x
theorem w64_id {x : Int} (h1 : -(2 ^ 62 : Int) ≤ x) (h2 : x < (2 ^ 62 : Int)) : w64 x = x := by
  unfold w64
  rw [IntKind.wrap_i64]
  omega
/-- '& m' of a number, m one less than a power of 2. -/
theorem and_mask (k : Nat) (hk : k ≤ 62) (a m : Int) (hm : m = 2 ^ k - 1) : and64 a m = a % (2 ^ k : Int) := by
  have hp : (2 : Nat) ^ k ≤ 2 ^ 62 := Nat.pow_le_pow_right (by decide) hk
  have hp0 : 0 < (2 : Nat) ^ k := Nat.pow_pos (by decide)
  have hm' : m = ((2 ^ k - 1 : Nat) : Int) := by
    rw [hm]
    have : ((2 ^ k : Nat) : Int) = (2 : Int) ^ k := by simp
    omega
  have h2 : (BitVec.ofInt 64 m).toNat = 2 ^ k - 1 := by
    rw [hm', BitVec.ofInt_natCast, BitVec.toNat_ofNat]
    exact Nat.mod_eq_of_lt (by omega)
  have h1 : (BitVec.ofInt 64 a).toNat = (a % (2 ^ 64 : Int)).toNat := by
    rw [BitVec.toNat_ofInt]
    rfl
  show IntKind.i64.wrap ((BitVec.ofInt 64 a &&& BitVec.ofInt 64 m).toNat : Int) = _
  rw [BitVec.toNat_and, h1, h2, Nat.and_two_pow_sub_one_eq_mod, IntKind.wrap_i64]
  have e : (2 : Int) ^ k = ((2 ^ k : Nat) : Int) := by simp
  have h3 : ((a % (2 ^ 64 : Int)).toNat : Int) = a % (2 ^ 64 : Int) := Int.toNat_of_nonneg (Int.emod_nonneg _ (by decide))
  have h4 : (((a % (2 ^ 64 : Int)).toNat % 2 ^ k : Nat) : Int) = a % (2 ^ k : Int) := by
    rw [Int.natCast_emod, h3, e]
    refine Int.emod_emod_of_dvd _ ?_
    have : (2 : Nat) ^ k ∣ 2 ^ 64 := Nat.pow_dvd_pow 2 (by omega)
    exact Int.natCast_dvd_natCast.2 this
  have h5 : (a % (2 ^ 64 : Int)).toNat % 2 ^ k < 2 ^ k := Nat.mod_lt _ hp0
  rw [← h4]
  omega
theorem fdiv2 (a : Int) : a.fdiv (2 ^ (1 : Nat)) = a / 2 := by
  rw [Int.fdiv_eq_ediv_of_nonneg a (by decide)]
  rfl
theorem tdiv_nn {a b : Int} (h : 0 ≤ a) (hb : 0 ≤ b) : a.tdiv b = a / b := Int.tdiv_eq_ediv_of_nonneg h
theorem tmod_nn {a b : Int} (h : 0 ≤ a) : a.tmod b = a % b := Int.tmod_eq_emod_of_nonneg h
/-- A number, brought in between 0 and a power of 2. -/
theorem u64_mod (k : Nat) (hk : k ≤ 62) (a m : Int) (hm : m = 2 ^ k) : w64 ((u64 a).tmod m) = a % m := by
  unfold u64
  rw [IntKind.wrap_u64, tmod_nn (by omega), hm]
  have e : (2 : Int) ^ k = ((2 ^ k : Nat) : Int) := by simp
  have hp : (2 : Nat) ^ k ≤ 2 ^ 62 := Nat.pow_le_pow_right (by decide) hk
  have hp0 : 0 < (2 : Nat) ^ k := Nat.pow_pos (by decide)
  rw [e]
  have : a % 18446744073709551616 % ((2 ^ k : Nat) : Int) = a % ((2 ^ k : Nat) : Int) := by
    refine Int.emod_emod_of_dvd _ ?_
    have : (2 : Nat) ^ k ∣ 2 ^ 64 := Nat.pow_dvd_pow 2 (by omega)
    exact Int.natCast_dvd_natCast.2 this
  rw [this]
  have h1 : 0 ≤ a % ((2 ^ k : Nat) : Int) := Int.emod_nonneg _ (by omega)
  have h2 : a % ((2 ^ k : Nat) : Int) < ((2 ^ k : Nat) : Int) := Int.emod_lt_of_pos _ (by omega)
  exact w64_id (by omega) (by omega)
end Go.Proofs.Ytcpahifgdppkbaa.QAI
end
section
/- Blanks: rows of things of which some are blank, some part: plain. -/
set_option linter.unusedVariables false
set_option linter.unusedSimpArgs false
namespace Go.Proofs.Ytcpahifgdppkbaa.QAI
open Go Go.RowKit
section
variable {α β : Type}
def lastB (b : α → Bool) (l : List α) : Bool := match l.getLast? with
  | some x => b x
  | none => false
def put (b : α → Bool) (acc : List α) (g : α) : List α := bif b g && lastB b acc then acc else acc ++ [g]
def putAll (b : α → Bool) (acc l : List α) : List α := l.foldl (put b) acc
def headB (p : α → Bool) : List α → Bool
  | [] => true
  | x :: _ => p x
def trimF (b br : α → Bool) : Bool → List α → List α
  | _, [] => []
  | e, g :: l => bif b g && (e || headB br l) then trimF b br (br g) l else g :: trimF b br (br g) l
theorem putAll_app (b : α → Bool) (acc l l' : List α) : putAll b acc (l ++ l') = putAll b (putAll b acc l) l' := by simp [putAll, List.foldl_append]
theorem putAll_one (b : α → Bool) (acc : List α) (g : α) : putAll b acc [g] = put b acc g := rfl
theorem lastB_app (b : α → Bool) (l : List α) (x : α) : lastB b (l ++ [x]) = b x := by simp [lastB]
theorem lastB_map {b : α → Bool} {b' : β → Bool} {f : α → β} (hb : ∀ x, b' (f x) = b x) (l : List α) : lastB b' (l.map f) = lastB b l := by
  unfold lastB
  rw [List.getLast?_map]
  cases l.getLast? with
  | none => rfl
  | some x => simp [hb]
theorem put_map {b : α → Bool} {b' : β → Bool} {f : α → β} (hb : ∀ x, b' (f x) = b x) (l : List α) (g : α) : put b' (l.map f) (f g) = (put b l g).map f := by
  unfold put
  rw [lastB_map hb, hb]
  cases (b g && lastB b l) <;> simp
theorem putAll_map {b : α → Bool} {b' : β → Bool} {f : α → β} (hb : ∀ x, b' (f x) = b x) : ∀ (l acc : List α), putAll b' (acc.map f) (l.map f) = (putAll b acc l).map f
  | [], acc => rfl
  | g :: l, acc => by
    show putAll b' (put b' (acc.map f) (f g)) (l.map f) = (putAll b (put b acc g) l).map f
    rw [put_map hb]
    exact putAll_map hb l _
theorem headB_map {p : α → Bool} {p' : β → Bool} {f : α → β} (hp : ∀ x, p' (f x) = p x) : ∀ l : List α, headB p' (l.map f) = headB p l
  | [] => rfl
  | x :: l => hp x
theorem trimF_map {b br : α → Bool} {b' br' : β → Bool} {f : α → β} (hb : ∀ x, b' (f x) = b x) (hr : ∀ x, br' (f x) = br x) : ∀ (l : List α) (e : Bool), trimF b' br' e (l.map f) = (trimF b br e l).map f
  | [], e => rfl
  | g :: l, e => by
    show (bif b' (f g) && (e || headB br' (l.map f)) then trimF b' br' (br' (f g)) (l.map f) else f g :: trimF b' br' (br' (f g)) (l.map f)) = (bif b g && (e || headB br l) then trimF b br (br g) l else g :: trimF b br (br g) l).map f
    rw [hb, hr, headB_map hr, trimF_map hb hr l]
    cases (b g && (e || headB br l)) <;> rfl
theorem put_sub (b : α → Bool) {acc l : List α} (h : acc.Sublist l) (g : α) : (put b acc g).Sublist (l ++ [g]) := by
  unfold put
  cases (b g && lastB b acc)
  · exact List.Sublist.append h (List.Sublist.refl _)
  · exact h.trans (List.sublist_append_left _ _)
theorem putAll_sub (b : α → Bool) : ∀ (l acc k : List α), acc.Sublist k → (putAll b acc l).Sublist (k ++ l)
  | [], acc, k, h => by simpa [putAll] using h
  | g :: l, acc, k, h => by
    have := putAll_sub b l (put b acc g) (k ++ [g]) (put_sub b h g)
    rw [List.append_assoc] at this
    exact this
theorem trimF_sub (b br : α → Bool) : ∀ (l : List α) (e : Bool), (trimF b br e l).Sublist l
  | [], e => List.Sublist.refl _
  | g :: l, e => by
    unfold trimF
    cases (b g && (e || headB br l))
    · exact (trimF_sub b br l _).cons_cons g
    · exact (trimF_sub b br l _).cons g
/-- What is counted is never blank: as many as ever. -/
theorem put_count {b p : α → Bool} (hp : ∀ x, p x = true → b x = false) (acc : List α) (g : α) : (put b acc g).countP p = acc.countP p + [g].countP p := by
  unfold put
  cases h : (b g && lastB b acc)
  · simp [List.countP_append]
  · simp only [cond_true]
    have hb : b g = true := by simp only [Bool.and_eq_true] at h; exact h.1
    have : p g = false := by
      cases hpg : p g
      · rfl
      · rw [hp g hpg] at hb; cases hb
    simp [List.countP_cons, this]
theorem putAll_count {b p : α → Bool} (hp : ∀ x, p x = true → b x = false) : ∀ (l acc : List α), (putAll b acc l).countP p = acc.countP p + l.countP p
  | [], acc => by simp [putAll]
  | g :: l, acc => by
    show (putAll b (put b acc g) l).countP p = _
    rw [putAll_count hp l, put_count hp, List.countP_cons, List.countP_cons]
    simp; omega
theorem trimF_count {b br p : α → Bool} (hp : ∀ x, p x = true → b x = false) : ∀ (l : List α) (e : Bool), (trimF b br e l).countP p = l.countP p
  | [], e => rfl
  | g :: l, e => by
    unfold trimF
    cases h : (b g && (e || headB br l))
    · simp only [cond_false, List.countP_cons, trimF_count hp l]
    · simp only [cond_true, trimF_count hp l, List.countP_cons]
      have hb : b g = true := by simp only [Bool.and_eq_true] at h; exact h.1
      have : p g = false := by
        cases hpg : p g
        · rfl
        · rw [hp g hpg] at hb; cases hb
      simp [this]
/-- No two blanks side by side. -/
def noAdj (b : α → Bool) : Bool → List α → Prop
  | _, [] => True
  | p, g :: l => (b g = true → p = false) ∧ noAdj b (b g) l
theorem noAdj_app {b : α → Bool} : ∀ {l : List α} {p : Bool} {g : α}, noAdj b p l → (b g = true → (bif l.isEmpty then p else lastB b l) = false) → noAdj b p (l ++ [g])
  | [], p, g, _, h => ⟨by simpa using h, trivial⟩
  | [x], p, g, h1, h => ⟨h1.1, by simpa [lastB] using h, trivial⟩
  | x :: y :: l, p, g, h1, h => ⟨h1.1, noAdj_app (l := y :: l) h1.2 (by simpa [lastB] using h)⟩
theorem put_noAdj {b : α → Bool} {acc : List α} (h : noAdj b false acc) (g : α) : noAdj b false (put b acc g) := by
  unfold put
  cases hc : (b g && lastB b acc)
  · refine noAdj_app h fun hb => ?_
    rw [hb, Bool.true_and] at hc
    cases acc <;> simp [hc]
  · exact h
theorem putAll_noAdj {b : α → Bool} : ∀ (l acc : List α), noAdj b false acc → noAdj b false (putAll b acc l)
  | [], acc, h => h
  | g :: l, acc, h => putAll_noAdj l _ (put_noAdj h g)
/-- Each blank stands between two that are neither blank nor part. -/
def between (b br : α → Bool) : Bool → List α → Prop
  | _, [] => True
  | p, g :: l => (b g = true → p = false ∧ ∃ x l', l = x :: l' ∧ b x = false ∧ br x = false) ∧ between b br (b g || br g) l
theorem trimF_between {b br : α → Bool} (hx : ∀ x, b x = true → br x = false) : ∀ (l : List α) (e p pb : Bool), noAdj b pb l → (e = false → pb = false → p = false) → between b br p (trimF b br e l)
  | [], e, p, pb, _, _ => trivial
  | g :: l, e, p, pb, hn, hp => by
    unfold trimF
    cases hc : (b g && (e || headB br l))
    · simp only [cond_false]
      refine ⟨fun hb => ?_, trimF_between hx l (br g) _ (b g) hn.2 (fun h1 h2 => by simp [h1, h2])⟩
      rw [hb, Bool.true_and, Bool.or_eq_false_iff] at hc
      refine ⟨hp hc.1 (hn.1 hb), ?_⟩
      match l, hc.2, hn.2 with
      | [], h, _ => simp [headB] at h
      | x :: l', h, hn2 =>
        have hxb : b x = false := by
          cases hbx : b x
          · rfl
          · have := hn2.1 hbx; rw [hb] at this; cases this
        refine ⟨x, trimF b br (br x) l', ?_, hxb, h⟩
        simp [trimF, hxb]
    · simp only [cond_true]
      simp only [Bool.and_eq_true, Bool.or_eq_true] at hc
      have hb := hc.1
      -- what stands behind a blank is none
      match l, hn.2 with
      | [], _ => exact trivial
      | x :: l', hn2 =>
        have hxb : b x = false := by
          cases hbx : b x
          · rfl
          · have := hn2.1 hbx; rw [hb] at this; cases this
        have h2 := trimF_between hx (x :: l') (br g) (b g || br g) (b g) hn2 (fun h1 h2 => by simp [h1, h2])
        have e1 : trimF b br (br g) (x :: l') = x :: trimF b br (br x) l' := by simp [trimF, hxb]
        rw [e1] at h2 ⊢
        exact ⟨fun h => absurd h (by rw [hxb]; simp), h2.2⟩
theorem between_get {b br : α → Bool} : ∀ {l : List α} {p : Bool} {i : Nat} (hi : i < l.length), between b br p l → b l[i] = true → (i = 0 → p = false) ∧ (∀ h : 0 < i, b (l[i - 1]'(by omega)) = false ∧ br (l[i - 1]'(by omega)) = false) ∧ ∃ h : i + 1 < l.length, b l[i + 1] = false ∧ br l[i + 1] = false
  | g :: l, p, 0, hi, h, hb => by
    obtain ⟨h1, x, l', rfl, h2, h3⟩ := h.1 hb
    exact ⟨fun _ => h1, fun h => by omega, by simp, h2, h3⟩
  | g :: l, p, i + 1, hi, h, hb => by
    obtain ⟨h1, h2, h3, h4⟩ := between_get (i := i) (by simpa using hi) h.2 hb
    refine ⟨fun h => by omega, fun _ => ?_, by simpa using h3, h4⟩
    cases i with
    | zero =>
      have := h1 rfl
      simpa using this
    | succ j => exact h2 (by omega)
end
end Go.Proofs.Ytcpahifgdppkbaa.QAI
end
section
/- Glyphs of runs: plain. -/
set_option linter.unusedVariables false
set_option linter.unusedSimpArgs false
namespace Go.Proofs.Ytcpahifgdppkbaa.QAI
open Go Go.RowKit
structure Gl where
  k : Int
  r : Int
  a : Int
  w : Int
def zGl : Gl := ⟨0, 0, 0, 0⟩
def encG (g : Gl) : List Value := [.int .i64 g.k, .int .i64 g.r, .int .i64 g.a, .int .i64 g.w]
/-- A run: node, text, white-space, line-height. -/
structure Rn where
  n : Int
  s : ByteArray
  v : Int
  l : Int
def zRn : Rn := ⟨0, ⟨#[]⟩, 0, 0⟩
def encN (g : Rn) : List Value := [.int .i64 g.n, .string g.s, .int .i64 g.v, .int .i64 g.l]
/-- A list as a row. -/
def lrow {α : Type} (enc : α → List Value) (z : α) (l : List α) : Nat → List Value := fun j => enc (l.getD j z)
theorem upd_lrow {α : Type} (enc : α → List Value) (z : α) (l : List α) (x : α) : upd (lrow enc z l) l.length (enc x) = lrow enc z (l ++ [x]) := by
  funext j
  simp only [upd_def]; unfold lrow
  rcases Nat.lt_trichotomy j l.length with h | h | h
  · rw [if_neg (by omega), List.getD_eq_getElem?_getD, List.getD_eq_getElem?_getD, List.getElem?_append_left h]
  · subst h
    simp
  · rw [if_neg (by omega), List.getD_eq_getElem?_getD, List.getD_eq_getElem?_getD, List.getElem?_eq_none (by omega), List.getElem?_eq_none (by simp; omega)]
def blk (g : Gl) : Bool := g.k == 2 || g.k == 3
def brk (g : Gl) : Bool := g.k == 4
theorem blk_brk : ∀ g : Gl, blk g = true → brk g = false := by
  intro g h
  simp only [blk, brk, Bool.or_eq_true, beq_iff_eq] at h ⊢
  rcases h with h | h <;> simp [h]
def wht (c : Int) : Bool := c == 32 || c == 9 || c == 10 || c == 13
def gk (v c : Int) : Int := if v = 2 then (if c = 10 then 4 else 1) else if wht c then (if v = 1 then 3 else 2) else 1
def ga (M : Int → Int) (v c : Int) : Int := if v = 2 then (if c = 10 then 0 else M c) else if wht c then M 32 else M c
def gl (M : Int → Int) (v r : Int) (a : Nat) (c : Int) : Gl := ⟨gk v c, r, a, ga M v c⟩
/-- The glyphs of a run's first bytes, behind others; of the first runs. -/
def goB (M : Int → Int) (v r : Int) (s : ByteArray) (acc : List Gl) : Nat → List Gl
  | 0 => acc
  | n + 1 => put blk (goB M v r s acc n) (gl M v r n (bt s n))
def goR (M : Int → Int) (R : Nat → Rn) : Nat → List Gl
  | 0 => []
  | i + 1 => goB M (R i).v i (R i).s (goR M R i) (R i).s.size
def strB (M : Int → Int) (v r : Int) (s : ByteArray) (n : Nat) : List Gl := (List.range n).map fun a => gl M v r a (bt s a)
def strR (M : Int → Int) (R : Nat → Rn) (k : Nat) : List Gl := (List.range k).flatMap fun i => strB M (R i).v i (R i).s (R i).s.size
theorem goB_eq {M : Int → Int} {v r : Int} {s : ByteArray} {acc : List Gl} : ∀ n, goB M v r s acc n = putAll blk acc (strB M v r s n)
  | 0 => rfl
  | n + 1 => by
    have e : strB M v r s (n + 1) = strB M v r s n ++ [gl M v r n (bt s n)] := by simp [strB, List.range_succ]
    rw [goB, goB_eq n, e, putAll_app]
    rfl
theorem goR_eq {M : Int → Int} {R : Nat → Rn} : ∀ k, goR M R k = putAll blk [] (strR M R k)
  | 0 => rfl
  | k + 1 => by
    have e : strR M R (k + 1) = strR M R k ++ strB M (R k).v k (R k).s (R k).s.size := by simp [strR, List.range_succ]
    rw [goR, goB_eq, goR_eq k, e, putAll_app]
theorem goB_len {M : Int → Int} {v r : Int} {s : ByteArray} {acc : List Gl} : ∀ n, (goB M v r s acc n).length ≤ acc.length + n
  | 0 => Nat.le_refl _
  | n + 1 => by
    have := goB_len (M := M) (v := v) (r := r) (s := s) (acc := acc) n
    rw [goB, put]
    cases (blk (gl M v r n (bt s n)) && lastB blk (goB M v r s acc n)) <;> simp <;> omega
/-- All bytes of the first runs. -/
def lenR (R : Nat → Rn) : Nat → Nat
  | 0 => 0
  | i + 1 => lenR R i + (R i).s.size
theorem goR_len {M : Int → Int} {R : Nat → Rn} : ∀ k, (goR M R k).length ≤ lenR R k
  | 0 => Nat.le_refl _
  | k + 1 => by
    have h1 := goR_len (M := M) (R := R) k
    have h2 := goB_len (M := M) (v := (R k).v) (r := k) (s := (R k).s) (acc := goR M R k) (R k).s.size
    rw [goR, lenR]
    omega
/-- Is number i kept? -/
def keepAt (n : Nat) (g : Nat → Gl) (i : Nat) : Bool := !(blk (g i) && ((decide (i = 0) || brk (g (i - 1))) || (decide (i + 1 = n) || brk (g (i + 1)))))
def trimN (n : Nat) (g : Nat → Gl) : Nat → List Gl
  | 0 => []
  | i + 1 => bif keepAt n g i then trimN n g i ++ [g i] else trimN n g i
theorem trimN_len {n : Nat} {g : Nat → Gl} : ∀ i, (trimN n g i).length ≤ i
  | 0 => Nat.le_refl _
  | i + 1 => by
    have := trimN_len (n := n) (g := g) i
    rw [trimN]
    cases keepAt n g i <;> simp <;> omega
def at_ (l : List Gl) : Nat → Gl := fun j => l.getD j zGl
theorem trimN_inv (l : List Gl) : ∀ i, i ≤ l.length → trimN l.length (at_ l) i ++ trimF blk brk (decide (i = 0) || brk (at_ l (i - 1))) (l.drop i) = trimF blk brk true l
  | 0, _ => by simp [trimN]
  | i + 1, hi => by
    rw [← trimN_inv l i (by omega)]
    have hd : l.drop i = at_ l i :: l.drop (i + 1) := by
      rw [List.drop_eq_getElem_cons (by omega)]
      simp [at_, List.getD_eq_getElem?_getD, List.getElem?_eq_getElem (show i < l.length by omega)]
    have hh : headB brk (l.drop (i + 1)) = (decide (i + 1 = l.length) || brk (at_ l (i + 1))) := by
      by_cases e : i + 1 = l.length
      · rw [List.drop_eq_nil_of_le (by omega)]
        simp [headB, e]
      · rw [List.drop_eq_getElem_cons (show i + 1 < l.length by omega)]
        simp [headB, e, at_, List.getD_eq_getElem?_getD, List.getElem?_eq_getElem (show i + 1 < l.length by omega)]
    rw [hd]
    conv => rhs; rw [trimF]
    rw [trimN, keepAt, hh]
    have e1 : (decide (i + 1 = 0) || brk (at_ l (i + 1 - 1))) = brk (at_ l i) := by simp
    rw [e1]
    cases (blk (at_ l i) && ((decide (i = 0) || brk (at_ l (i - 1))) || (decide (i + 1 = l.length) || brk (at_ l (i + 1))))) <;> simp
theorem trimN_eq (l : List Gl) : trimN l.length (at_ l) l.length = trimF blk brk true l := by
  rw [← trimN_inv l l.length (Nat.le_refl _)]
  simp [trimF]
/-- The glyphs of runs. -/
def glyphs (M : Int → Int) (R : Nat → Rn) (k : Nat) : List Gl := trimF blk brk true (goR M R k)
theorem glyphs_len {M : Int → Int} {R : Nat → Rn} {k : Nat} : (glyphs M R k).length ≤ lenR R k :=
  Nat.le_trans (trimF_sub blk brk _ _).length_le (goR_len k)
end Go.Proofs.Ytcpahifgdppkbaa.QAI
end
section
/- Blanks: the plain laws. -/
set_option linter.unusedVariables false
set_option linter.unusedSimpArgs false
namespace Go.Proofs.Ytcpahifgdppkbaa.QAI
open Go Go.RowKit
theorem strR_mem {M : Int → Int} {R : Nat → Rn} {k : Nat} {x : Gl} (h : x ∈ strR M R k) : ∃ r a, r < k ∧ a < (R r).s.size ∧ x = gl M (R r).v r a (bt (R r).s a) := by
  simp only [strR, strB, List.mem_flatMap, List.mem_range, List.mem_map] at h
  obtain ⟨r, hr, a, ha, rfl⟩ := h
  exact ⟨r, a, hr, ha, rfl⟩
theorem goR_sub {M : Int → Int} {R : Nat → Rn} {k : Nat} : (goR M R k).Sublist (strR M R k) := by
  rw [goR_eq]
  simpa using putAll_sub blk (strR M R k) [] [] (List.Sublist.refl _)
theorem glyphs_sub {M : Int → Int} {R : Nat → Rn} {k : Nat} : (glyphs M R k).Sublist (strR M R k) := (trimF_sub blk brk _ _).trans goR_sub
theorem glyphs_mem {M : Int → Int} {R : Nat → Rn} {k : Nat} {x : Gl} (h : x ∈ glyphs M R k) : ∃ r a, r < k ∧ a < (R r).s.size ∧ x = gl M (R r).v r a (bt (R r).s a) := strR_mem (glyphs_sub.subset h)
theorem at_get {l : List Gl} {i : Nat} (h : i < l.length) : at_ l i = l[i] := by simp [at_, List.getD_eq_getElem?_getD, List.getElem?_eq_getElem h]
theorem at_mem {l : List Gl} {i : Nat} (h : i < l.length) : at_ l i ∈ l := by rw [at_get h]; exact List.getElem_mem h
def ltG (x y : Gl) : Prop := x.r < y.r ∨ (x.r = y.r ∧ x.a < y.a)
theorem strR_lt {M : Int → Int} {R : Nat → Rn} {k : Nat} : (strR M R k).Pairwise ltG := by
  unfold strR
  rw [List.pairwise_flatMap]
  refine ⟨fun r _ => ?_, ?_⟩
  · unfold strB
    rw [List.pairwise_map]
    exact List.pairwise_lt_range.imp fun h => .inr ⟨rfl, by simp only [gl]; omega⟩
  · refine List.pairwise_lt_range.imp fun h x hx y hy => ?_
    simp only [strB, List.mem_map] at hx hy
    obtain ⟨_, _, rfl⟩ := hx
    obtain ⟨_, _, rfl⟩ := hy
    exact .inl (by simp only [gl]; omega)
theorem glyphs_lt {M : Int → Int} {R : Nat → Rn} {k i : Nat} (h0 : 0 < i) (hi : i < (glyphs M R k).length) : ltG (at_ (glyphs M R k) (i - 1)) (at_ (glyphs M R k) i) := by
  have := List.Pairwise.sublist glyphs_sub (strR_lt (M := M) (R := R) (k := k))
  rw [at_get hi, at_get (show i - 1 < _ by omega)]
  exact List.pairwise_iff_getElem.1 this (i - 1) i (by omega) hi (by omega)
theorem goR_noAdj {M : Int → Int} {R : Nat → Rn} {k : Nat} : noAdj blk false (goR M R k) := by
  rw [goR_eq]
  exact putAll_noAdj _ _ trivial
theorem glyphs_between {M : Int → Int} {R : Nat → Rn} {k : Nat} : between blk brk true (glyphs M R k) := trimF_between blk_brk _ _ _ _ goR_noAdj (fun h => by cases h)
theorem ink_of {M : Int → Int} {v r : Int} {a : Nat} {c : Int} (h1 : blk (gl M v r a c) = false) (h2 : brk (gl M v r a c) = false) : (gl M v r a c).k = 1 := by
  simp only [gl, blk, brk, gk, Bool.or_eq_false_iff, beq_eq_false_iff_ne] at h1 h2 ⊢
  repeat' split
  all_goals simp_all
theorem glyphs_blank {M : Int → Int} {R : Nat → Rn} {k i : Nat} (hi : i < (glyphs M R k).length) (hb : blk (at_ (glyphs M R k) i) = true) :
    0 < i ∧ i + 1 < (glyphs M R k).length ∧ (at_ (glyphs M R k) (i - 1)).k = 1 ∧ (at_ (glyphs M R k) (i + 1)).k = 1 := by
  rw [at_get hi] at hb
  obtain ⟨h1, h2, h3, h4⟩ := between_get hi glyphs_between hb
  have h0 : 0 < i := by
    rcases Nat.eq_zero_or_pos i with h | h
    · exact absurd (h1 h) (by simp)
    · exact h
  obtain ⟨h5, h6⟩ := h2 h0
  have ink : ∀ x ∈ glyphs M R k, blk x = false → brk x = false → x.k = 1 := by
    intro x hx h1 h2
    obtain ⟨r, a, _, _, rfl⟩ := glyphs_mem hx
    exact ink_of h1 h2
  refine ⟨h0, h3, ?_, ?_⟩
  · rw [at_get (show i - 1 < _ by omega)]; exact ink _ (List.getElem_mem _) h5 h6
  · rw [at_get h3]; exact ink _ (List.getElem_mem _) h4.1 h4.2
/-- How many of the first are not white. -/
def byteOf (R : Nat → Rn) (x : Gl) : Int := bt (R x.r.toNat).s x.a
def inkL (R : Nat → Rn) (l : List Gl) : Nat → Nat
  | 0 => 0
  | i + 1 => inkL R l i + (bif wht (byteOf R (at_ l i)) then 0 else 1)
def inkB (s : ByteArray) : Nat → Nat
  | 0 => 0
  | i + 1 => inkB s i + (bif wht (bt s i) then 0 else 1)
def inkR (R : Nat → Rn) : Nat → Nat
  | 0 => 0
  | i + 1 => inkR R i + inkB (R i).s (R i).s.size
theorem inkL_eq (R : Nat → Rn) (l : List Gl) : ∀ i, i ≤ l.length → inkL R l i = (l.take i).countP fun x => !wht (byteOf R x)
  | 0, _ => by simp [inkL]
  | i + 1, hi => by
    rw [inkL, inkL_eq R l i (by omega), List.take_add_one, List.getElem?_eq_getElem (by omega), at_get (by omega)]
    simp only [Option.toList_some, List.countP_append, List.countP_cons, List.countP_nil]
    cases wht (byteOf R l[i]) <;> simp
theorem inkL_le (R : Nat → Rn) (l : List Gl) : ∀ i, inkL R l i ≤ i
  | 0 => Nat.le_refl _
  | i + 1 => by
    have := inkL_le R l i
    rw [inkL]
    cases wht (byteOf R (at_ l i)) <;> simp <;> omega
theorem inkB_le (s : ByteArray) : ∀ i, inkB s i ≤ i
  | 0 => Nat.le_refl _
  | i + 1 => by
    have := inkB_le s i
    rw [inkB]
    cases wht (bt s i) <;> simp <;> omega
theorem inkR_le (R : Nat → Rn) : ∀ i, inkR R i ≤ lenR R i
  | 0 => Nat.le_refl _
  | i + 1 => by
    have := inkR_le R i
    have := inkB_le (R i).s (R i).s.size
    rw [inkR, lenR]
    omega
theorem byte_gl (M : Int → Int) (R : Nat → Rn) (r a : Nat) (v c : Int) : byteOf R (gl M v r a c) = bt (R r).s a := by simp [byteOf, gl]
theorem blk_wht {M : Int → Int} {v r : Int} {a : Nat} {c : Int} : blk (gl M v r a c) = (wht c && !(v == 2)) := by
  simp only [gl, blk, gk]
  by_cases h : v = 2
  · simp only [h, if_true, BEq.rfl, Bool.not_true, Bool.and_false]
    split <;> rfl
  · have : (v == 2) = false := by simpa using h
    simp only [h, if_false, this, Bool.not_false, Bool.and_true]
    cases hw : wht c
    · simp
    · simp only [if_true]
      split <;> rfl
theorem strB_ink (M : Int → Int) (R : Nat → Rn) (r : Nat) : ∀ n, (strB M (R r).v r (R r).s n).countP (fun x => !wht (byteOf R x)) = inkB (R r).s n
  | 0 => rfl
  | n + 1 => by
    have ih := strB_ink M R r n
    unfold strB at ih ⊢
    rw [List.range_succ, List.map_append, List.countP_append, ih, inkB]
    simp only [List.map_cons, List.map_nil, List.countP_cons, List.countP_nil, byte_gl]
    cases wht (bt (R r).s n) <;> simp
theorem strR_ink (M : Int → Int) (R : Nat → Rn) : ∀ k, (strR M R k).countP (fun x => !wht (byteOf R x)) = inkR R k
  | 0 => rfl
  | k + 1 => by
    have ih := strR_ink M R k
    unfold strR at ih ⊢
    rw [List.range_succ, List.flatMap_append, List.countP_append, ih, inkR]
    simp only [List.flatMap_cons, List.flatMap_nil, List.append_nil, strB_ink]
theorem glyphs_ink {M : Int → Int} {R : Nat → Rn} {k : Nat} : inkL R (glyphs M R k) (glyphs M R k).length = inkR R k := by
  rw [inkL_eq R _ _ (Nat.le_refl _), List.take_length, ← strR_ink M R k]
  have key : ∀ l : List Gl, l.Sublist (strR M R k) → l.countP (fun x => !wht (byteOf R x)) = l.countP (fun x => !blk x && !wht (byteOf R x)) := by
    intro l hl
    refine List.countP_congr fun x hx => ?_
    obtain ⟨r, a, _, _, rfl⟩ := strR_mem (hl.subset hx)
    rw [blk_wht, byte_gl]
    cases wht (bt (R r).s a) <;> simp
  have hp : ∀ x : Gl, (!blk x && !wht (byteOf R x)) = true → blk x = false := by
    intro x h
    simp only [Bool.and_eq_true, Bool.not_eq_true'] at h
    exact h.1
  rw [key _ glyphs_sub, key _ (List.Sublist.refl _)]
  unfold glyphs
  rw [trimF_count (p := fun x => !blk x && !wht (byteOf R x)) hp, goR_eq, putAll_count (p := fun x => !blk x && !wht (byteOf R x)) hp]
  simp

/- A row turned into another one, thing by thing. -/
theorem glyphs_map {β : Type} {M : Int → Int} {R : Nat → Rn} {k : Nat} {f : Gl → β} {b br : β → Bool} (hb : ∀ x, b (f x) = blk x) (hr : ∀ x, br (f x) = brk x) : (glyphs M R k).map f = trimF b br true (putAll b [] ((strR M R k).map f)) := by
  unfold glyphs
  rw [goR_eq, ← trimF_map hb hr, ← putAll_map hb]
  rfl
def holdG (x : Gl) : Gl := bif x.k == 2 then { x with k := 3 } else x
def setV (R : Nat → Rn) (v : Int) : Nat → Rn := fun i => { R i with v := v }
theorem glyphs_holds {M : Int → Int} {R : Nat → Rn} {k : Nat} : glyphs M (setV R 1) k = (glyphs M (setV R 0) k).map holdG := by
  have e := glyphs_map (M := M) (R := setV R 0) (k := k) (f := holdG) (b := blk) (br := brk) (fun x => by
    unfold holdG blk
    cases h : x.k == 2
    · simp [h]
    · have : x.k = 2 := by simpa using h
      simp [this]) (fun x => by
    unfold holdG brk
    cases h : x.k == 2
    · simp
    · have : x.k = 2 := by simpa using h
      simp [this])
  rw [e]
  unfold glyphs
  rw [goR_eq]
  congr 2
  unfold strR
  rw [List.map_flatMap]
  congr 1
  funext r
  unfold strB setV
  simp only [List.map_map]
  refine List.map_congr_left fun a _ => ?_
  simp only [Function.comp, gl, gk, ga, holdG]
  cases wht (bt (R r).s a) <;> rfl
end Go.Proofs.Ytcpahifgdppkbaa.QAI
end
section
/- Where lines end: plain. -/
set_option linter.unusedVariables false
set_option linter.unusedSimpArgs false
namespace Go.Proofs.Ytcpahifgdppkbaa.QAI
open Go Go.RowKit
/-- Widths that are none below 0, none too great. -/
def WOk (L : Nat → Gl) : Prop := ∀ i, 0 ≤ (L i).w ∧ (L i).w ≤ 1048576
/-- The sum of c widths from a place on. -/
def sw (L : Nat → Gl) (o : Nat) : Nat → Int
  | 0 => 0
  | c + 1 => sw L o c + (L (o + c)).w
theorem sw_b {L : Nat → Gl} (h : WOk L) (o : Nat) : ∀ c, 0 ≤ sw L o c ∧ sw L o c ≤ 1048576 * c
  | 0 => by simp [sw]
  | c + 1 => by
    have := sw_b h o c
    have := h (o + c)
    simp only [sw]
    omega
theorem sw_mono {L : Nat → Gl} (h : WOk L) (o : Nat) {c d : Nat} (hcd : c ≤ d) : sw L o c ≤ sw L o d := by
  induction d with
  | zero =>
    have : c = 0 := by omega
    subst this
    exact Int.le_refl _
  | succ d ih =>
    rcases Nat.lt_or_ge c (d + 1) with h1 | h1
    · have := ih (by omega)
      have := h (o + d)
      simp only [sw]
      omega
    · have : c = d + 1 := by omega
      subst this
      exact Int.le_refl _
def spc (g : Gl) : Bool := g.k == 2
/-- At a place nothing goes on; at a place a line may end. -/
def stopA (n : Nat) (L : Nat → Gl) (i : Nat) : Bool := decide (i = n) || brk (L i)
def partA (n : Nat) (L : Nat → Gl) (i : Nat) : Bool := stopA n L i || spc (L i)
/-- Where a line that begins at o would end, and how wide it is, after c places. -/
def lnU (n : Nat) (L : Nat → Gl) (A : Int) (o : Nat) : Nat → Int × Int
  | 0 => (-1, 0)
  | c + 1 => bif partA n L (o + c) && (decide ((lnU n L A o c).1 < 0) || decide (sw L o c ≤ A)) then (((o + c : Nat) : Int), sw L o c) else lnU n L A o c
theorem lnU_to {n : Nat} {L : Nat → Gl} {A : Int} {o : Nat} : ∀ c, (lnU n L A o c).1 = -1 ∨ ((o : Int) ≤ (lnU n L A o c).1 ∧ (lnU n L A o c).1 < ((o + c : Nat) : Int))
  | 0 => .inl rfl
  | c + 1 => by
    have ih := lnU_to (n := n) (L := L) (A := A) (o := o) c
    rw [lnU]
    cases (partA n L (o + c) && (decide ((lnU n L A o c).1 < 0) || decide (sw L o c ≤ A)))
    · simp only [cond_false]
      rcases ih with h | h
      · exact .inl h
      · exact .inr ⟨h.1, by omega⟩
    · simp only [cond_true]
      exact .inr ⟨by omega, by omega⟩
/-- Once it may end and there is no room it stays where it is. -/
theorem lnU_stay {n : Nat} {L : Nat → Gl} {A : Int} {o : Nat} (h : WOk L) {c : Nat} (h1 : 0 ≤ (lnU n L A o (c + 1)).1) (h2 : A < sw L o c) : ∀ d, c ≤ d → lnU n L A o (d + 1) = lnU n L A o (c + 1)
  | 0, hd => by
    have : c = 0 := by omega
    subst this
    rfl
  | d + 1, hd => by
    rcases Nat.lt_or_ge c (d + 1) with hlt | hge
    · have ih := lnU_stay h h1 h2 d (by omega)
      rw [lnU, ih]
      have m := sw_mono h o (show c ≤ d + 1 by omega)
      have e1 : decide ((lnU n L A o (c + 1)).1 < 0) = false := decide_eq_false (by omega)
      have e2 : decide (sw L o (d + 1) ≤ A) = false := decide_eq_false (by omega)
      rw [e1, e2]
      simp
    · have : c = d + 1 := by omega
      subst this
      rfl
/-- How many places there are from o on up to the first where nothing goes on. -/
def stopC (n : Nat) (L : Nat → Gl) (o : Nat) : Nat → Nat
  | 0 => 0
  | f + 1 => bif stopA n L o then 0 else stopC n L (o + 1) f + 1
theorem stopC_spec {n : Nat} {L : Nat → Gl} : ∀ (f o : Nat), o + f = n → stopC n L o f ≤ f ∧ stopA n L (o + stopC n L o f) = true ∧ ∀ d, d < stopC n L o f → stopA n L (o + d) = false
  | 0, o, h => by
    refine ⟨Nat.le_refl _, ?_, fun d hd => absurd hd (Nat.not_lt_zero _)⟩
    simp [stopC, stopA, show o = n by omega]
  | f + 1, o, h => by
    rw [stopC]
    cases hs : stopA n L o
    · simp only [cond_false]
      obtain ⟨h1, h2, h3⟩ := stopC_spec (n := n) (L := L) f (o + 1) (by omega)
      refine ⟨by omega, ?_, fun d hd => ?_⟩
      · rw [show o + (stopC n L (o + 1) f + 1) = o + 1 + stopC n L (o + 1) f by omega]
        exact h2
      · cases d with
        | zero => exact hs
        | succ d =>
          rw [show o + (d + 1) = o + 1 + d by omega]
          exact h3 d (by omega)
    · simp only [cond_true]
      exact ⟨Nat.zero_le _, hs, fun d hd => absurd hd (Nat.not_lt_zero _)⟩
/-- The document's line, from o on: where it ends, how wide it is. -/
def lineR (n : Nat) (L : Nat → Gl) (A : Int) (o : Nat) : Int × Int := lnU n L A o (stopC n L o (n - o) + 1)
theorem lnU_stop {n : Nat} {L : Nat → Gl} {A : Int} {o c : Nat} (h : stopA n L (o + c) = true) : 0 ≤ (lnU n L A o (c + 1)).1 := by
  rw [lnU]
  have e : partA n L (o + c) = true := by simp [partA, h]
  rw [e, Bool.true_and]
  by_cases h1 : (lnU n L A o c).1 < 0
  · simp only [h1, decide_true, Bool.true_or, cond_true]
    omega
  · cases (decide ((lnU n L A o c).1 < 0) || decide (sw L o c ≤ A))
    · simp only [cond_false]; omega
    · simp only [cond_true]; omega
theorem lineR_b {n : Nat} {L : Nat → Gl} {A : Int} {o : Nat} (ho : o ≤ n) : (o : Int) ≤ (lineR n L A o).1 ∧ (lineR n L A o).1 ≤ n := by
  obtain ⟨h1, h2, h3⟩ := stopC_spec (n := n) (L := L) (n - o) o (by omega)
  have h4 := lnU_stop (A := A) h2
  have h5 := lnU_to (n := n) (L := L) (A := A) (o := o) (stopC n L o (n - o) + 1)
  unfold lineR
  omega
/-- Is the program done at place o + c? -/
def doneP (n : Nat) (L : Nat → Gl) (A : Int) (o c : Nat) : Bool := stopA n L (o + c) || (decide (0 ≤ (lnU n L A o (c + 1)).1) && decide (A < sw L o c))
theorem doneP_line {n : Nat} {L : Nat → Gl} {A : Int} {o c : Nat} (h : WOk L) (ho : o ≤ n) (hc : doneP n L A o c = true) (hb : ∀ d, d < c → doneP n L A o d = false) : lnU n L A o (c + 1) = lineR n L A o := by
  obtain ⟨h1, h2, h3⟩ := stopC_spec (n := n) (L := L) (n - o) o (by omega)
  have hle : c ≤ stopC n L o (n - o) := by
    rcases Nat.lt_or_ge (stopC n L o (n - o)) c with hlt | hge
    · have := hb _ hlt
      simp [doneP, h2] at this
    · exact hge
  unfold lineR
  cases hs : stopA n L (o + c)
  · simp only [doneP, hs, Bool.false_or, Bool.and_eq_true, decide_eq_true_eq] at hc
    exact (lnU_stay h hc.1 hc.2 _ hle).symm
  · have : c = stopC n L o (n - o) := by
      rcases Nat.lt_or_ge c (stopC n L o (n - o)) with hlt | hge
      · have := h3 c hlt
        rw [this] at hs; cases hs
      · omega
    rw [← this]
/-- The first place where the program is done. -/
theorem doneP_first {n : Nat} {L : Nat → Gl} {A : Int} {o : Nat} (ho : o ≤ n) : ∃ c, c ≤ n - o ∧ doneP n L A o c = true ∧ ∀ d, d < c → doneP n L A o d = false := by
  obtain ⟨h1, h2, h3⟩ := stopC_spec (n := n) (L := L) (n - o) o (by omega)
  have key : ∀ k, k ≤ stopC n L o (n - o) → (∃ c, c ≤ stopC n L o (n - o) ∧ doneP n L A o c = true ∧ ∀ d, d < c → doneP n L A o d = false) ∨ ∀ d, d < k → doneP n L A o d = false := by
    intro k
    induction k with
    | zero => intro _; exact .inr fun d hd => absurd hd (Nat.not_lt_zero _)
    | succ k ih =>
      intro hk
      rcases ih (by omega) with h | h
      · exact .inl h
      · cases hd : doneP n L A o k
        · refine .inr fun d hdk => ?_
          rcases Nat.lt_or_ge d k with hlt | hge
          · exact h d hlt
          · have : d = k := by omega
            subst this; exact hd
        · exact .inl ⟨k, by omega, hd, h⟩
  rcases key _ (Nat.le_refl _) with ⟨c, h4, h5, h6⟩ | h
  · exact ⟨c, by omega, h5, h6⟩
  · exact ⟨stopC n L o (n - o), h1, by simp [doneP, h2], h⟩
/-- A line: from, to, width. -/
structure Sp where
  f : Int
  t : Int
  w : Int
def zSp : Sp := ⟨0, 0, 0⟩
def encP (s : Sp) : List Value := [.int .i64 s.f, .int .i64 s.t, .int .i64 s.w]
def decP : List Value → Sp
  | [.int _ a, .int _ b, .int _ c] => ⟨a, b, c⟩
  | _ => zSp
def spOf (n : Nat) (L : Nat → Gl) (A : Int) (o : Nat) : Sp := ⟨o, (lineR n L A o).1, (lineR n L A o).2⟩
/-- Where the line number i begins. -/
def lnAt (n : Nat) (L : Nat → Gl) (A : Int) : Nat → Nat
  | 0 => 0
  | i + 1 => (lineR n L A (lnAt n L A i)).1.toNat + 1
/-- The first lines. -/
def lnsN (n : Nat) (L : Nat → Gl) (A : Int) (i : Nat) : List Sp := (List.range i).map fun j => spOf n L A (lnAt n L A j)
/-- How many there are. -/
def lnCnt (n : Nat) (L : Nat → Gl) (A : Int) : Nat → Nat → Nat
  | 0, _ => 0
  | f + 1, i => bif decide (lnAt n L A i < n) then lnCnt n L A f (i + 1) + 1 else 0
theorem lnAt_le {n : Nat} {L : Nat → Gl} {A : Int} {i : Nat} (h : lnAt n L A i ≤ n) : lnAt n L A i < lnAt n L A (i + 1) ∧ lnAt n L A (i + 1) ≤ n + 1 := by
  have := lineR_b (n := n) (L := L) (A := A) h
  rw [lnAt]
  omega
theorem lnCnt_spec {n : Nat} {L : Nat → Gl} {A : Int} : ∀ f i, n ≤ f + lnAt n L A i → lnAt n L A i ≤ n + 1 → lnCnt n L A f i ≤ f ∧ (∀ j, j < lnCnt n L A f i → lnAt n L A (i + j) < n) ∧ n ≤ lnAt n L A (i + lnCnt n L A f i)
  | 0, i, h, _ => ⟨Nat.le_refl _, fun j hj => absurd hj (Nat.not_lt_zero _), by rw [lnCnt]; simpa using h⟩
  | f + 1, i, h, h' => by
    rw [lnCnt]
    by_cases hc : lnAt n L A i < n
    · have h2 := lnAt_le (n := n) (L := L) (A := A) (i := i) (by omega)
      obtain ⟨a1, a2, a3⟩ := lnCnt_spec f (i + 1) (by omega) h2.2
      simp only [hc, decide_true, cond_true]
      refine ⟨by omega, fun j hj => ?_, ?_⟩
      · cases j with
        | zero => exact hc
        | succ j =>
          rw [show i + (j + 1) = i + 1 + j by omega]
          exact a2 j (by omega)
      · rw [show i + (lnCnt n L A f (i + 1) + 1) = i + 1 + lnCnt n L A f (i + 1) by omega]
        exact a3
    · simp only [hc, decide_false, cond_false]
      exact ⟨Nat.zero_le _, fun j hj => absurd hj (Nat.not_lt_zero _), by simpa using hc⟩
/-- All lines. -/
def lnC (n : Nat) (L : Nat → Gl) (A : Int) : Nat := lnCnt n L A n 0
def lns (n : Nat) (L : Nat → Gl) (A : Int) : List Sp := lnsN n L A (lnC n L A)
theorem lnC_spec (n : Nat) (L : Nat → Gl) (A : Int) : lnC n L A ≤ n ∧ (∀ j, j < lnC n L A → lnAt n L A j < n) ∧ n ≤ lnAt n L A (lnC n L A) := by
  have h := lnCnt_spec (n := n) (L := L) (A := A) n 0 (Nat.le_add_right _ _) (by rw [lnAt]; omega)
  simpa [lnC] using h
theorem lnsN_len (n : Nat) (L : Nat → Gl) (A : Int) (i : Nat) : (lnsN n L A i).length = i := by simp [lnsN]
theorem lnsN_succ (n : Nat) (L : Nat → Gl) (A : Int) (i : Nat) : lnsN n L A (i + 1) = lnsN n L A i ++ [spOf n L A (lnAt n L A i)] := by simp [lnsN, List.range_succ]
/-- The greatest sum of a row without some. -/
def lgS (p : Gl → Bool) (L : Nat → Gl) : Nat → Int × Int
  | 0 => (0, 0)
  | i + 1 => bif p (L i) then ((lgS p L i).1, 0) else (mxI ((lgS p L i).2 + (L i).w) (lgS p L i).1, (lgS p L i).2 + (L i).w)
theorem lgS_b {p : Gl → Bool} {L : Nat → Gl} (h : WOk L) : ∀ i, 0 ≤ (lgS p L i).1 ∧ (lgS p L i).1 ≤ 1048576 * i ∧ 0 ≤ (lgS p L i).2 ∧ (lgS p L i).2 ≤ (lgS p L i).1
  | 0 => by simp [lgS]
  | i + 1 => by
    have := lgS_b (p := p) h i
    have := h i
    rw [lgS]
    cases p (L i)
    · simp only [cond_false, mxI_eq]; omega
    · simp only [cond_true]; omega
end Go.Proofs.Ytcpahifgdppkbaa.QAI
end
section
/- Where lines end: what a line is. -/
set_option linter.unusedVariables false
set_option linter.unusedSimpArgs false
namespace Go.Proofs.Ytcpahifgdppkbaa.QAI
open Go Go.RowKit
theorem lnU_inv {n : Nat} {L : Nat → Gl} {A : Int} {o : Nat} : ∀ c, ((∀ p : Nat, o ≤ p → p < o + c → partA n L p = false) ∧ lnU n L A o c = (-1, 0)) ∨
    ∃ t : Nat, lnU n L A o c = ((t : Int), sw L o (t - o)) ∧ o ≤ t ∧ t < o + c ∧ partA n L t = true ∧ ((∀ p, o ≤ p → p < t → partA n L p = false) ∨ sw L o (t - o) ≤ A) ∧ (∀ p, o ≤ p → p < o + c → partA n L p = true → sw L o (p - o) ≤ A → p ≤ t)
  | 0 => .inl ⟨fun p h1 h2 => by omega, rfl⟩
  | c + 1 => by
    rw [lnU]
    rcases lnU_inv (n := n) (L := L) (A := A) (o := o) c with ⟨h1, h2⟩ | ⟨t, h2, h3, h4, h5, h6, h7⟩
    · rw [h2]
      cases hp : partA n L (o + c)
      · refine .inl ⟨fun p hp1 hp2 => ?_, rfl⟩
        rcases Nat.lt_or_ge p (o + c) with h | h
        · exact h1 p hp1 h
        · have : p = o + c := by omega
          rw [this]; exact hp
      · refine .inr ⟨o + c, ?_, by omega, by omega, hp, .inl fun p hp1 hp2 => h1 p hp1 hp2, fun p hp1 hp2 _ _ => by omega⟩
        rw [show o + c - o = c by omega]
        rfl
    · rw [h2]
      have ht : decide ((t : Int) < 0) = false := decide_eq_false (by omega)
      cases hp : partA n L (o + c)
      · refine .inr ⟨t, rfl, h3, by omega, h5, h6, fun p hp1 hp2 hp3 hp4 => ?_⟩
        rcases Nat.lt_or_ge p (o + c) with h | h
        · exact h7 p hp1 h hp3 hp4
        · have : p = o + c := by omega
          rw [this, hp] at hp3; cases hp3
      · by_cases hA : sw L o c ≤ A
        · refine .inr ⟨o + c, ?_, by omega, by omega, hp, .inr ?_, fun p hp1 hp2 _ _ => by omega⟩
          · rw [show o + c - o = c by omega]
            simp [hA]
          · rw [show o + c - o = c by omega]
            exact hA
        · refine .inr ⟨t, ?_, h3, by omega, h5, h6, fun p hp1 hp2 hp3 hp4 => ?_⟩
          · have e2 : decide (sw L o c ≤ A) = false := decide_eq_false hA
            simp only [ht, e2]
            rfl
          · rcases Nat.lt_or_ge p (o + c) with h | h
            · exact h7 p hp1 h hp3 hp4
            · have : p = o + c := by omega
              subst this
              rw [show o + c - o = c by omega] at hp4
              exact absurd hp4 hA
/-- A line: where it ends, and why. -/
structure IsLine (n : Nat) (L : Nat → Gl) (A : Int) (o t : Nat) : Prop where
  eq : lineR n L A o = ((t : Int), sw L o (t - o))
  le : o ≤ t
  ln : t ≤ n
  part : partA n L t = true
  go : ∀ p, o ≤ p → p < t → stopA n L p = false
  why : (∀ p, o ≤ p → p < t → partA n L p = false) ∨ sw L o (t - o) ≤ A
  most : ∀ p, o ≤ p → p ≤ n → (∀ q, o ≤ q → q < p → stopA n L q = false) → partA n L p = true → sw L o (p - o) ≤ A → p ≤ t
theorem isLine {n : Nat} {L : Nat → Gl} {A : Int} {o : Nat} (ho : o ≤ n) : ∃ t, IsLine n L A o t := by
  obtain ⟨h1, h2, h3⟩ := stopC_spec (n := n) (L := L) (n - o) o (by omega)
  have h4 := lnU_stop (A := A) h2
  rcases lnU_inv (n := n) (L := L) (A := A) (o := o) (stopC n L o (n - o) + 1) with ⟨a1, a2⟩ | ⟨t, a2, a3, a4, a5, a6, a7⟩
  · rw [a2] at h4
    exact absurd h4 (by decide)
  · refine ⟨t, a2, a3, by omega, a5, fun p hp1 hp2 => ?_, a6, fun p hp1 hp2 hp3 hp4 hp5 => ?_⟩
    · have := h3 (p - o) (by omega)
      rw [show o + (p - o) = p by omega] at this
      exact this
    · refine a7 p hp1 ?_ hp4 hp5
      rcases Nat.lt_or_ge (o + stopC n L o (n - o)) p with h | h
      · have := hp3 (o + stopC n L o (n - o)) (by omega) h
        rw [h2] at this; cases this
      · omega
theorem sw_add {L : Nat → Gl} (o c : Nat) : ∀ d, sw L o (c + d) = sw L o c + sw L (o + c) d
  | 0 => by simp [sw]
  | d + 1 => by
    rw [← Nat.add_assoc, sw, sw_add o c d, sw, Nat.add_assoc]
    omega
/-- A place where a line may begin. -/
def startA (n : Nat) (L : Nat → Gl) (o : Nat) : Prop := o = 0 ∨ (0 < o ∧ partA n L (o - 1) = true)
/-- More room, a later beginning: it ends no earlier. -/
theorem line_mono {n : Nat} {L : Nat → Gl} {A A' : Int} {o o' t t' : Nat} (hL : WOk L) (hA : A ≤ A') (hoo : o ≤ o') (hs : startA n L o') (h : IsLine n L A o t) (h' : IsLine n L A' o' t') : t ≤ t' := by
  rcases Nat.lt_or_ge t o' with hlt | hge
  · have := h'.le; omega
  · rcases h.why with hf | hf
    · -- nothing parts ahead of t: so o' is o
      have heq : o' = o := by
        rcases hs with h0 | ⟨h0, h1⟩
        · omega
        · rcases Nat.lt_or_ge o o' with h2 | h2
          · have := hf (o' - 1) (by omega) (by omega)
            rw [this] at h1; cases h1
          · omega
      subst heq
      rcases Nat.lt_or_ge t' t with h3 | h3
      · have := hf t' h'.le h3
        have h5 := h'.part
        rw [this] at h5
        cases h5
      · exact h3
    · refine h'.most t hge h.ln (fun q hq1 hq2 => h.go q (by omega) hq2) h.part ?_
      have e := sw_add (L := L) o (o' - o) (t - o')
      rw [show o' - o + (t - o') = t - o by omega, show o + (o' - o) = o' by omega] at e
      have := sw_b hL o (o' - o)
      omega
theorem lnAt_start {n : Nat} {L : Nat → Gl} {A : Int} : ∀ i, lnAt n L A i ≤ n → (∀ j, j < i → lnAt n L A j ≤ n) → startA n L (lnAt n L A i)
  | 0, _, _ => .inl rfl
  | i + 1, h, hb => by
    obtain ⟨t, ht⟩ := isLine (n := n) (L := L) (A := A) (o := lnAt n L A i) (hb i (by omega))
    have e : lnAt n L A (i + 1) = t + 1 := by rw [lnAt, ht.eq]; rfl
    refine .inr ⟨by omega, ?_⟩
    rw [e, Nat.add_sub_cancel]
    exact ht.part
theorem lnAt_up {n : Nat} {L : Nat → Gl} {A : Int} : ∀ i, i ≤ lnC n L A → ∀ j, j < i → lnAt n L A j ≤ n := fun i hi j hj => by
  have := (lnC_spec n L A).2.1 j (by omega)
  omega
/-- More room makes no more lines. -/
theorem lns_mono {n : Nat} {L : Nat → Gl} {A A' : Int} (hL : WOk L) (hA : A ≤ A') : lnC n L A' ≤ lnC n L A := by
  obtain ⟨a1, a2, a3⟩ := lnC_spec n L A
  obtain ⟨b1, b2, b3⟩ := lnC_spec n L A'
  rcases Nat.lt_or_ge (lnC n L A) (lnC n L A') with hlt | hge
  · have key : ∀ i, i ≤ lnC n L A → lnAt n L A i ≤ lnAt n L A' i := by
      intro i
      induction i with
      | zero => intro _; exact Nat.le_refl _
      | succ i ih =>
        intro hi
        have h1 := a2 i (by omega)
        have h2 := b2 i (by omega)
        obtain ⟨t, ht⟩ := isLine (n := n) (L := L) (A := A) (o := lnAt n L A i) (by omega)
        obtain ⟨t', ht'⟩ := isLine (n := n) (L := L) (A := A') (o := lnAt n L A' i) (by omega)
        have hs := lnAt_start (n := n) (L := L) (A := A') i (by omega) (lnAt_up i (by omega))
        have := line_mono hL hA (ih (by omega)) hs ht ht'
        rw [lnAt, lnAt, ht.eq, ht'.eq]
        show t + 1 ≤ t' + 1
        omega
    have h1 := key (lnC n L A) (Nat.le_refl _)
    have h2 := b2 (lnC n L A) hlt
    omega
  · exact hge
/-- The least is no more than the most. -/
theorem lgS_le {p q : Gl → Bool} {L : Nat → Gl} (hL : WOk L) (hpq : ∀ g, q g = true → p g = true) : ∀ i, (lgS p L i).1 ≤ (lgS q L i).1 ∧ (lgS p L i).2 ≤ (lgS q L i).2
  | 0 => ⟨Int.le_refl _, Int.le_refl _⟩
  | i + 1 => by
    obtain ⟨h1, h2⟩ := lgS_le hL hpq i
    have hb := lgS_b (p := q) hL i
    have hb2 := lgS_b (p := p) hL i
    have hw := hL i
    rw [lgS, lgS]
    cases hp : p (L i)
    · have hq : q (L i) = false := by
        cases hq : q (L i)
        · rfl
        · rw [hpq _ hq] at hp; cases hp
      rw [hq]
      simp only [cond_false, mxI_eq]
      omega
    · cases q (L i)
      · simp only [cond_true, cond_false, mxI_eq]
        omega
      · simp only [cond_true]
        omega
/-- Sums within a row that nothing parts are no more than the greatest. -/
theorem lgS_sw {p : Gl → Bool} {L : Nat → Gl} (hL : WOk L) {o : Nat} (ho : o = 0 ∨ (0 < o ∧ p (L (o - 1)) = true)) : ∀ c, (∀ j, j < c → p (L (o + j)) = false) → (lgS p L (o + c)).2 = sw L o c
  | 0, _ => by
    rcases ho with h | ⟨h1, h2⟩
    · subst h; rfl
    · obtain ⟨m, rfl⟩ : ∃ m, o = m + 1 := ⟨o - 1, by omega⟩
      rw [Nat.add_sub_cancel] at h2
      rw [Nat.add_zero, lgS, h2]
      rfl
  | c + 1, h => by
    have ih := lgS_sw hL ho c fun j hj => h j (by omega)
    rw [← Nat.add_assoc, lgS, h c (by omega), ih]
    rfl
theorem lgS_up {p : Gl → Bool} {L : Nat → Gl} (hL : WOk L) : ∀ {i j : Nat}, i ≤ j → (lgS p L i).1 ≤ (lgS p L j).1 := by
  intro i j
  induction j with
  | zero => intro h; have : i = 0 := by omega
            subst this; exact Int.le_refl _
  | succ j ih =>
    intro h
    rcases Nat.lt_or_ge i (j + 1) with h1 | h1
    · have := ih (by omega)
      rw [lgS]
      cases p (L j)
      · simp only [cond_false, mxI_eq]; omega
      · simpa using this
    · have : i = j + 1 := by omega
      subst this; exact Int.le_refl _
theorem sw_lg {p : Gl → Bool} {L : Nat → Gl} (hL : WOk L) {n o c : Nat} (ho : o = 0 ∨ (0 < o ∧ p (L (o - 1)) = true)) (hc : ∀ j, j < c → p (L (o + j)) = false) (hn : o + c ≤ n) : sw L o c ≤ (lgS p L n).1 := by
  have h1 := lgS_sw hL ho c hc
  have h2 := lgS_b (p := p) hL (o + c)
  have h3 := lgS_up (p := p) hL hn
  omega
end Go.Proofs.Ytcpahifgdppkbaa.QAI
end
