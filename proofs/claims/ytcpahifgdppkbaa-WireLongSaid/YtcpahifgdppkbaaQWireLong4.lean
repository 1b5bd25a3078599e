/- Loops, code, functions. -/
import Derived.Test.YtcpahifgdppkbaaQWireLong3
import Derived.LoopN
import Derived.Laws.StructEq
import Derived.Test.YtcpahifgdppkbaaChecked
import Derived.KernelRfl
import Derived.Laws.Bits64b
import Derived.Test.YtcpahifgdppkbaaRows
import Derived.ProofKit
set_option linter.unusedVariables false
set_option linter.unusedSimpArgs false
set_option maxRecDepth 100000
namespace Go.Proofs.Ytcpahifgdppkbaa.QAI
section
open Go Go.RowKit

theorem renAVs_get (g : Nat → Option Nat) : ∀ (l : List AV) (t : Nat), (renAVs g l)[t]? = (l[t]?).map (renAV g)
  | [], t => by simp [renAVs]
  | x :: l, 0 => by simp [renAVs]
  | x :: l, t + 1 => by simp [renAVs, renAVs_get g l t]
theorem renAVs_len (g : Nat → Option Nat) : ∀ (l : List AV), (renAVs g l).length = l.length
  | [] => rfl
  | x :: l => by simp [renAVs, renAVs_len g l]

section
variable {G : Ctx2} {S S' : St} {m m0 : List Pl} {h h0 h' : AHeap} {w w0 : World} {B : Nat} {a : Act} {v : AV}

theorem SlOk.set {sl : List AV} {tmps : Array Value} (hs : SlOk m sl tmps) {t : Nat} {x : AV} (hx : VR m x (tmps.getD t undef)) : SlOk m (sl.set t x) tmps := by
  refine ⟨by simp [hs.1], fun u v hu => ?_⟩
  by_cases e : u = t
  · subst e
    have hlt : u < sl.length := by simpa using (List.getElem?_eq_some_iff.1 hu).1
    rw [List.getElem?_set_self hlt] at hu
    cases hu
    have hlt' : u < tmps.size := by rw [← hs.1]; exact hlt
    refine ⟨tmps.getD u undef, ?_, hx⟩
    rw [Array.getD_eq_getD_getElem?, Array.getElem?_eq_getElem hlt']
    rfl
  · rw [List.getElem?_set_ne (fun e' => e e'.symm)] at hu
    exact hs.2 u v hu

/-- A row without elements, that lies nowhere. -/
theorem Step.ghost (H : HR B m h w) (t : TypeId) {c : Cont} (hn : c.n = 0) : Step B m h w (m ++ [⟨none, 0, c.sz⟩]) (h ++ [some ⟨t, true, c⟩]) w := by
  refine ⟨Ext.app _ _, H.push ?_ (fun _ _ _ _ _ _ _ _ _ h => nomatch h), Fr.refl _ _, ?_⟩
  · exact { sz := rfl, len := fun i hi => by rw [hn] at hi; omega, cap := by rw [hn]; exact Nat.le_refl _, cell := fun i j a hi => by rw [hn] at hi; omega, own := fun _ => And.intro (fun _ => rfl) (fun A h => nomatch h), came := fun e => nomatch e }
  · intro q hq
    rcases Own.push H.len hq with hq | ⟨A, hA, _⟩
    · exact .inl hq
    · cases hA

theorem keepSl_ok {T : List TI} {tmps : Array Value} : ∀ (k : List (Nat × Option TypeId)) (sl : List AV) (h : AHeap), SlOk m sl tmps → HR B m h w →
    ∃ m', Step B m h w m' (keepSl T k sl h).2 w ∧ SlOk m' (keepSl T k sl h).1 tmps
  | [], sl, h, hs, H => ⟨m, Step.refl H, by simp [keepSl, hs.1], fun t v ht => by
      simp only [keepSl, List.getElem?_map, Option.map_eq_some_iff] at ht
      obtain ⟨u, hu, rfl⟩ := ht
      obtain ⟨x, hx, _⟩ := hs.2 t u hu
      exact ⟨x, hx, by simp [VR, CR]⟩⟩
  | (t, e) :: rest, sl, h, hs, H => by
    obtain ⟨m1, hst, hs1⟩ := keepSl_ok (T := T) rest sl h hs H
    have hx : VR m1 (sl.getD t (.c .any)) (tmps.getD t undef) := VR.ext hst.ext (hs.getD t)
    simp only [keepSl]
    split
    · rename_i e' heq
      rw [heq] at hx
      split
      · rename_i ti hti
        generalize hc : (if ti.flat then Cont.row ti.size 0 fun _ => ti.zero else Cont.lst ti.size [] (ofCells ti.zero)) = c
        have hn : c.n = 0 := by rw [← hc]; split <;> rfl
        have hg := Step.ghost hst.hr e' hn
        refine ⟨_, hst.trans hg, (hs1.ext hg.ext).set ?_⟩
        have hxv : tmps.getD t undef = .slice none 0 0 := hx
        rw [hxv]
        refine ⟨⟨none, 0, c.sz⟩, none, 0, ?_, rfl, ⟨Nat.le_refl _, fun _ => rfl⟩, fun _ => ⟨rfl, rfl⟩, fun h => by omega⟩
        rw [← hst.hr.len]
        simp
      · exact ⟨m1, hst, hs1⟩
    · exact ⟨m1, hst, hs1.set hx⟩

theorem Step.sub {mf : List Pl} {hf : AHeap} {w' : World} (hst : Step B m0 h0 w0 mf hf w') (H0 : m0.length = h0.length) {todo : List Nat} {f : Nat} :
    Step B m0 h0 w0 (subPl mf (closeOf hf f todo (List.range h0.length))) (subHeap hf (closeOf hf f todo (List.range h0.length))) w' := by
  obtain ⟨l, e, hd, hb⟩ := closeOf_ok hf f todo (List.range h0.length)
  rw [e]
  have hle : h0.length ≤ hf.length := by
    rw [← H0, ← hst.hr.len]
    rcases Nat.eq_zero_or_pos m0.length with h0' | h0'
    · omega
    · have hlt : m0.length - 1 < m0.length := by omega
      have := hst.ext _ _ (List.getElem?_eq_getElem hlt)
      have := (List.getElem?_eq_some_iff.1 this).1
      omega
  have hlt : ∀ x ∈ List.range h0.length ++ l, x < hf.length := by
    intro x hx
    rcases List.mem_append.1 hx with hx | hx
    · have := List.mem_range.1 hx; omega
    · exact hb x hx
  have hnd := hd List.nodup_range
  refine ⟨?_, hst.hr.sub hnd hlt, hst.fr, fun k hk => hst.own k (Own.sub hst.hr hlt hk)⟩
  intro id p hp
  have hid : id < h0.length := by rw [← H0]; exact (List.getElem?_eq_some_iff.1 hp).1
  exact subPl_get (by rw [List.getElem?_append_left (by simpa using hid), List.getElem?_range hid]) (hst.ext id p hp)

theorem canon_ok {T : List TI} {k : List (Nat × Option TypeId)} (H0 : m0.length = h0.length) (hI : RI B m0 h0 w0 S a w) : RI B m0 h0 w0 (canon T h0.length k S) a w := by
  obtain ⟨hB, ⟨m, hst, hs⟩, hd⟩ := hI
  obtain ⟨m1, hst1, hs1⟩ := keepSl_ok (T := T) k S.sl S.h hs hst.hr
  have hst2 := hst.trans hst1
  refine ⟨hB, ⟨_, hst2.sub H0, ?_⟩, hd⟩
  refine ⟨by simp [canon, renAVs_len, hs1.1], fun t v ht => ?_⟩
  simp only [canon, renAVs_get, Option.map_eq_some_iff] at ht
  obtain ⟨u, hu, rfl⟩ := ht
  obtain ⟨x, hx, hr⟩ := hs1.2 t u hu
  exact ⟨x, hx, VR.ren (subPl_ren _) hr⟩

def toExit : Ex → Exit
  | .normal => .normal
  | .exit id => .exit id
  | .ret => .ret

theorem iter_ok {P : Program} {c : Code} {n0 : Nat} {T : List TI} {k : List (Nat × Option TypeId)} {f : St → Tr (Ex × St)} (H0 : m0.length = h0.length) (hn : n0 = h0.length)
    (hf : ∀ S e S' a w, RI B m0 h0 w0 S a w → (f S).eval = some (e, S') → ∀ Q, (∀ a' w', RI B m0 h0 w0 S' a' w' → Q (toExit e) a' w') → c.wp P Q a w) :
    ∀ (n : Nat) S e S' a w, RI B m0 h0 w0 S a w → (iter f (canon T n0 k) n S).eval = some (e, S') → ∀ Q, (∀ a' w', RI B m0 h0 w0 S' a' w' → Q (toExit e) a' w') → Code.rounds P c Q n a w
  | 0, S, e, S', a, w, _, he, _, _ => by simp [iter, Tr.eval] at he
  | n + 1, S, e, S', a, w, hI, he, Q, hQ => by
    simp only [iter, Tr.eval_bind] at he
    cases h1 : (f S).eval with
    | none => simp [h1] at he
    | some r =>
      obtain ⟨e1, S1⟩ := r
      rw [h1] at he
      simp only [Option.bind_some] at he
      rw [rounds_succ]
      refine hf S e1 S1 a w hI h1 _ ?_
      intro a' w' hI'
      cases e1 with
      | normal =>
        simp only at he
        show Code.rounds P c Q n a' w'
        subst hn
        exact iter_ok H0 rfl hf n _ e S' a' w' (canon_ok H0 hI') he Q hQ
      | exit id =>
        simp only [Tr.eval, Option.some.injEq, Prod.mk.injEq] at he
        obtain ⟨rfl, rfl⟩ := he
        exact hQ a' w' hI'
      | ret =>
        simp only [Tr.eval, Option.some.injEq, Prod.mk.injEq] at he
        obtain ⟨rfl, rfl⟩ := he
        exact hQ a' w' hI'

theorem arun_ok (hG : XOk G) (H0 : m0.length = h0.length) : ∀ (d : Nat) (c : Code) (S : St) (e : Ex) (S' : St) (a : Act) (w : World), RI B m0 h0 w0 S a w → (arun G h0.length d c S).eval = some (e, S') →
    ∀ Q, (∀ a' w', RI B m0 h0 w0 S' a' w' → Q (toExit e) a' w') → c.wp G.P Q a w
  | 0, c, S, e, S', a, w, _, he, _, _ => by simp [arun, Tr.eval] at he
  | d + 1, c, S, e, S', a, w, hI, he, Q, hQ => by
    have ih := arun_ok hG H0 d
    cases c with
    | skip =>
      simp only [arun, Tr.eval, Option.some.injEq, Prod.mk.injEq] at he
      obtain ⟨rfl, rfl⟩ := he
      exact wp_skip (hQ a w hI)
    | region id ops draw =>
      simp only [arun, Tr.eval_bind] at he
      cases draw with
      | false =>
        simp only [Bool.false_eq_true, if_false] at he
        cases h1 : (regSeq G ops ops.toList S).eval with
        | none => simp [h1] at he
        | some S1 =>
          rw [h1] at he
          simp only [Option.bind_some, Tr.eval, Option.some.injEq, Prod.mk.injEq] at he
          obtain ⟨rfl, rfl⟩ := he
          exact wp_region_list (regSeq_ok hG ops.toList S a w hI h1 hQ)
      | true =>
        simp only [if_true] at he
        cases h1 : (regDraw G ops S).eval with
        | none => simp [h1] at he
        | some S1 =>
          rw [h1] at he
          simp only [Option.bind_some, Tr.eval, Option.some.injEq, Prod.mk.injEq] at he
          obtain ⟨rfl, rfl⟩ := he
          exact regDraw_ok hG hI h1 Q hQ
    | seq x y =>
      simp only [arun, Tr.eval_bind] at he
      cases h1 : (arun G h0.length d x S).eval with
      | none => simp [h1] at he
      | some r =>
        obtain ⟨e1, S1⟩ := r
        rw [h1] at he
        simp only [Option.bind_some] at he
        refine wp_seq (ih x S e1 S1 a w hI h1 _ ?_)
        intro a' w' hI'
        cases e1 with
        | normal => exact ih y S1 e S' a' w' hI' he Q hQ
        | exit id =>
          simp only [Tr.eval, Option.some.injEq, Prod.mk.injEq] at he
          obtain ⟨rfl, rfl⟩ := he
          exact hQ a' w' hI'
        | ret =>
          simp only [Tr.eval, Option.some.injEq, Prod.mk.injEq] at he
          obtain ⟨rfl, rfl⟩ := he
          exact hQ a' w' hI'
    | cond c x y =>
      simp only [arun] at he
      split at he
      · rename_i t
        split at he
        · rename_i b hb
          rw [Tr.eval_ite] at he
          have hbv := hI.bool hb
          have hev : a.eval (.tmp t) = .bool b := by
            simp [Act.eval, Array.getD_eq_getD_getElem?, hbv]
          cases b with
          | true =>
            rw [if_pos rfl] at he
            exact wp_cond_true hev (ih x _ e S' a w (hI.lit hb) he Q hQ)
          | false =>
            rw [if_neg (by simp)] at he
            exact wp_cond_false hev (ih y _ e S' a w (hI.lit hb) he Q hQ)
        · cases he
      · cases he
    | block id x =>
      simp only [arun, Tr.eval_bind] at he
      cases h1 : (arun G h0.length d x S).eval with
      | none => simp [h1] at he
      | some r =>
        obtain ⟨e1, S1⟩ := r
        rw [h1] at he
        simp only [Option.bind_some] at he
        refine wp_block (ih x S e1 S1 a w hI h1 _ ?_)
        intro a' w' hI'
        cases e1 with
        | normal =>
          simp only [Tr.eval, Option.some.injEq, Prod.mk.injEq] at he
          obtain ⟨rfl, rfl⟩ := he
          exact hQ a' w' hI'
        | exit k =>
          simp only at he
          split at he
          · rename_i hk
            simp only [Tr.eval, Option.some.injEq, Prod.mk.injEq] at he
            obtain ⟨rfl, rfl⟩ := he
            show (if k = id then Q .normal a' w' else Q (.exit k) a' w')
            rw [if_pos hk]
            exact hQ a' w' hI'
          · rename_i hk
            simp only [Tr.eval, Option.some.injEq, Prod.mk.injEq] at he
            obtain ⟨rfl, rfl⟩ := he
            show (if k = id then Q .normal a' w' else Q (.exit k) a' w')
            rw [if_neg hk]
            exact hQ a' w' hI'
        | ret =>
          simp only [Tr.eval, Option.some.injEq, Prod.mk.injEq] at he
          obtain ⟨rfl, rfl⟩ := he
          exact hQ a' w' hI'
    | loop x =>
      simp only [arun] at he
      refine wp_loop_rounds G.L (iter_ok H0 rfl (fun S e S' a w hI he Q hQ => ih x S e S' a w hI he Q hQ) G.L _ e S' a w (canon_ok H0 hI) he Q hQ)
    | exit id =>
      simp only [arun, Tr.eval, Option.some.injEq, Prod.mk.injEq] at he
      obtain ⟨rfl, rfl⟩ := he
      exact wp_exit (hQ a w hI)
    | ret =>
      simp only [arun, Tr.eval, Option.some.injEq, Prod.mk.injEq] at he
      obtain ⟨rfl, rfl⟩ := he
      exact wp_ret (hQ a w hI)
    | rangeFunc _ _ _ _ => simp [arun, Tr.eval] at he
    | scope _ => simp [arun, Tr.eval] at he
    | label _ => simp [arun, Tr.eval] at he
    | goto _ => simp [arun, Tr.eval] at he
    | refuse _ => simp [arun, Tr.eval] at he

def resRun (tmps : Array Value) : ResultVar → Sem Value
  | .tmp t => pure (tmps.getD t undef)
  | .cell a t => do loadVar t (← asAddr (tmps.getD a undef))

theorem results_eq (fn : Func) (tmps : Array Value) : results fn tmps = (do let vs ← fn.results.mapM (resRun tmps); pure (if h : vs.size = 1 then vs[0] else .tuple vs)) := by
  have : (fun (x : ResultVar) => match x with | .tmp t => (pure (tmps.getD t undef) : Sem Value) | .cell a t => do loadVar t (← asAddr (tmps.getD a undef))) = resRun tmps := by
    funext r; cases r <;> rfl
  exact congrArg (fun f => (do let vs ← fn.results.mapM f; pure (if h : vs.size = 1 then vs[0] else .tuple vs) : Sem Value)) this

theorem resOf_ok (hG : XOk G) (hI : RI B m0 h0 w0 S a w) {m : List Pl} (hst : Step B m0 h0 w0 m S.h w) (hs : SlOk m S.sl a.tmps) {r : ResultVar} {v : AV} (he : (resOf G.T S r).eval = some v) :
    ∃ x, (resRun a.tmps r).run G.P w = .ok x w ∧ VR m v x := by
  cases r with
  | tmp t =>
    simp only [resOf, Tr.eval, Option.some.injEq] at he
    subst he
    exact ⟨_, rfl, hs.getD t⟩
  | cell p t =>
    simp only [resOf] at he
    obtain ⟨x, hr, hv⟩ := aload_ok hG.g.c (hs.getD p) hst.hr he
    refine ⟨x, ?_, hv⟩
    have hp : ∃ A, a.tmps.getD p undef = .pointer (some A) := by
      have hsp := hs.getD p
      have he := aload_sub he
      unfold aload0 at he
      split at he
      · rename_i id i j hq
        rw [hq] at hsp
        obtain ⟨_, _, _, _, _, h⟩ := hsp
        exact ⟨_, h⟩
      · cases he
    obtain ⟨A, hA⟩ := hp
    simp only [resRun]
    rw [hA] at hr ⊢
    simpa [asAddr, Instr.loadAt, Instr.sureAddr, Sem.run_bind] using hr

theorem resL_ok (hG : XOk G) (hI : RI B m0 h0 w0 S a w) {m : List Pl} (hst : Step B m0 h0 w0 m S.h w) (hs : SlOk m S.sl a.tmps) : ∀ (rs : List ResultVar) (l : List AV), (resL G.T S rs).eval = some l →
    ∃ vs, (rs.mapM (resRun a.tmps)).run G.P w = .ok vs w ∧ VRs m l vs
  | [], l, he => by
    simp only [resL, Tr.eval, Option.some.injEq] at he
    subst he
    exact ⟨[], by simp, by simp [VRs]⟩
  | r :: rs, l, he => by
    simp only [resL, Tr.eval_bind] at he
    cases h1 : (resOf G.T S r).eval with
    | none => simp [h1] at he
    | some x =>
      rw [h1] at he
      simp only [Option.bind_some] at he
      cases h2 : (resL G.T S rs).eval with
      | none => simp [h2] at he
      | some xs =>
        rw [h2] at he
        simp only [Option.bind_some, Tr.eval, Option.some.injEq] at he
        subst he
        obtain ⟨y, hy, hv⟩ := resOf_ok hG hI hst hs h1
        obtain ⟨ys, hys, hvs⟩ := resL_ok hG hI hst hs rs xs h2
        refine ⟨y :: ys, ?_, by simp only [VRs]; exact ⟨hv, hvs⟩⟩
        rw [List.mapM_cons]
        simp only [Sem.run_bind, hy, Result.andThen_ok, hys, Sem.run_pure]

theorem oneRes_ok {l : List AV} {vs : List Value} (hv : VRs m l vs) : VR m (oneRes l) (if h : vs.toArray.size = 1 then vs.toArray[0] else .tuple vs.toArray) := by
  match l, vs, hv with
  | [], [], _ => simp [oneRes, VR, VRs]
  | [x], [y], hv => simp only [VRs] at hv; simpa [oneRes] using hv.1
  | x :: y :: l, u :: v :: k, hv =>
    simp only [oneRes]
    rw [dif_neg (by simp)]
    simp only [VR]
    exact ⟨_, rfl, by simpa using hv⟩
  | [], _ :: _, hv => simp [VRs] at hv
  | _ :: _, [], hv => simp [VRs] at hv
  | [_], _ :: _ :: _, hv => simp [VRs] at hv
  | _ :: _ :: _, [_], hv => simp [VRs] at hv

theorem afun_ok (hG : XOk G) {f : FuncId} {fn : Func} (hf : G.P.funcs[f]? = some fn) (d : Nat) : SpecOk G.P f (afun G d fn) := by
  intro B args H r H' he m w vals hH hB hv
  unfold afun at he
  split at he
  · cases he
  · rename_i c hc
    refine calls_of_wp hf hc ?_
    rw [Tr.eval_bind] at he
    cases h1 : (arun G H.length d c ⟨args ++ List.replicate (fn.ntmps - args.length) (.c .any), H⟩).eval with
    | none => simp [h1] at he
    | some rS =>
      obtain ⟨e, S⟩ := rS
      rw [h1] at he
      simp only [Option.bind_some] at he
      have hlen : args.length = vals.size := by simpa using hv.length
      have hI0 : RI B m H w ⟨args ++ List.replicate (fn.ntmps - args.length) (.c .any), H⟩ { tmps := vals ++ Array.replicate (fn.ntmps - vals.size) undef, defers := [] } w := by
        refine ⟨hB, ⟨m, Step.refl hH, ?_⟩, rfl⟩
        refine ⟨by simp [hlen], fun t v ht => ?_⟩
        rcases Nat.lt_or_ge t args.length with hl | hl
        · simp only at ht
          rw [List.getElem?_append_left hl] at ht
          obtain ⟨y, hy, hr⟩ := hv.get t v ht
          refine ⟨y, ?_, hr⟩
          rw [Array.getElem?_append_left (by rw [← hlen]; exact hl)]
          simpa using hy
        · simp only at ht
          rw [List.getElem?_append_right hl, List.getElem?_replicate] at ht
          split at ht
          · rename_i hlt
            cases ht
            refine ⟨undef, ?_, by simp [VR, CR]⟩
            rw [Array.getElem?_append_right (by rw [← hlen]; exact hl), Array.getElem?_replicate, if_pos (by rw [← hlen]; exact hlt)]
          · cases ht
      have fin : ∀ (e : Ex), ((resL G.T S fn.results.toList).bind fun l => (.ret (renAV (idxIn (closeOf S.h 10000 (refsOf S.h H.length ++ refAV (oneRes l)) (List.range H.length))) (oneRes l), subHeap S.h (closeOf S.h 10000 (refsOf S.h H.length ++ refAV (oneRes l)) (List.range H.length))) : Tr (AV × AHeap))).eval = some (r, H') →
          ∀ a' w', RI B m H w S a' w' → a'.defers = [] ∧ ∃ v, (results fn a'.tmps).run G.P w' = .ok v w' ∧ ∃ m' x, Ending.returned v = .returned x ∧ Step B m H w m' H' w' ∧ VR m' r x := by
        intro _ he a' w' hI
        obtain ⟨_, ⟨mf, hst, hs⟩, hd⟩ := hI
        refine ⟨hd, ?_⟩
        rw [Tr.eval_bind] at he
        cases h2 : (resL G.T S fn.results.toList).eval with
        | none => simp [h2] at he
        | some l =>
          rw [h2] at he
          simp only [Option.bind_some, Tr.eval, Option.some.injEq, Prod.mk.injEq] at he
          obtain ⟨rfl, rfl⟩ := he
          obtain ⟨vs, hr, hvs⟩ := resL_ok hG ⟨hB, ⟨mf, hst, hs⟩, hd⟩ hst hs _ l h2
          refine ⟨_, ?_, _, _, rfl, hst.sub hH.len, VR.ren (subPl_ren _) (oneRes_ok hvs)⟩
          rw [results_eq]
          simp only [Sem.run_bind, Array.mapM_eq_mapM_toList]
          have hmap : (List.toArray <$> (fn.results.toList.mapM (resRun a'.tmps))).run G.P w' = .ok vs.toArray w' := by
            rw [← bind_pure_comp, Sem.run_bind, hr]
            rfl
          rw [hmap]
          rfl
      have hfin := arun_ok hG hH.len d c _ e S _ w hI0 h1
      cases e with
      | normal => exact hfin _ fun a' w' hI => fin .normal he a' w' hI
      | exit id => cases he
      | ret => exact hfin _ fun a' w' hI => fin .ret he a' w' hI
end
end
section
open Go Go.RowKit

def kindD : TypeDesc → Nat
  | .int _ => 1
  | .bool => 2
  | .string => 3
  | _ => 0

def eqKindsFs (g : TypeId → Option (List Nat)) (T : List TI) : List Field → Nat → Option (List Nat)
  | [], _ => some []
  | f :: fs, off =>
    if f.name == "_" || f.offset != off then none else
    match lookT T f.type, g f.type, eqKindsFs g T fs (off + ((lookT T f.type).map TI.size).getD 0) with
    | some ti, some ks, some r => if ks.length = ti.size then some (ks ++ r) else none
    | _, _, _ => none

def eqKinds (P : Program) (T : List TI) : Nat → TypeId → Option (List Nat)
  | 0, _ => none
  | d + 1, t =>
    match lookT T t with
    | some ti =>
      if ti.agg then
        match ti.u with
        | .struct fs => if P.stoodInHeld t then none else eqKindsFs (eqKinds P T d) T fs.toList 0
        | _ => none
      else if kindD ti.u = 0 then none else some [kindD ti.u]
    | none => none

theorem ceqs_split : ∀ {l k : List AC} {r : Bool} (n : Nat), ceqs l k = some r → ∃ r1 r2, ceqs (l.take n) (k.take n) = some r1 ∧ ceqs (l.drop n) (k.drop n) = some r2 ∧ r = (r1 && r2)
  | l, k, r, 0, h => ⟨true, r, by simp [ceqs], by simpa using h, by simp⟩
  | [], [], r, n + 1, h => ⟨true, true, by simp [ceqs], by simp [ceqs], by simpa [ceqs] using h.symm⟩
  | [], y :: k, r, n + 1, h => by simp [ceqs] at h
  | x :: l, [], r, n + 1, h => by simp [ceqs] at h
  | x :: l, y :: k, r, n + 1, h => by
    simp only [ceqs] at h
    split at h
    · rename_i a b ha hb
      obtain ⟨r1, r2, h1, h2, e⟩ := ceqs_split n hb
      cases h
      exact ⟨a && r1, r2, by simp [ceqs, ha, h1], by simpa using h2, by rw [e, Bool.and_assoc]⟩
    · cases h

section
variable {P : Program} {T : List TI} {m : List Pl}

def packV (ti : TI) (xs : List Value) : Value := if ti.agg then .agg xs.toArray else xs.headD undef

theorem eqf_ok (hT : TOk P T) (h1 : ∀ t ti, lookT T t = some ti → ti.agg = false → ti.size = 1) {D : Nat} {g : TypeId → Option (List Nat)}
    (hg : ∀ t ks ti, g t = some ks → lookT T t = some ti → ∀ (lx ly : List AC) (xs ys : List Value) r (w : World), lx.map kindAC = ks → ceqs lx ly = some r → F2 (CR m) lx xs → F2 (CR m) ly ys → (Op.equalIn D t (packV ti xs) (packV ti ys)).run P w = .ok r w) :
    ∀ (fs : List Field) (off : Nat) (ks : List Nat), eqKindsFs g T fs off = some ks → ∀ (lx ly : List AC) (xs ys : Array Value) r (w : World), lx.map kindAC = ks → ceqs lx ly = some r → F2 (CR m) lx (xs.toList.drop off) → F2 (CR m) ly (ys.toList.drop off) →
      (Op.eqFields D xs ys fs).run P w = .ok r w
  | [], off, ks, hk, lx, ly, xs, ys, r, w, hks, hr, hx, hy => by
    simp only [eqKindsFs, Option.some.injEq] at hk
    subst hk
    have : lx = [] := by simpa using hks
    subst this
    have hly : ly = [] := by
      cases ly with
      | nil => rfl
      | cons a l => simp [ceqs] at hr
    subst hly
    simp only [ceqs, Option.some.injEq] at hr
    subst hr
    simp [Op.eqFields]
  | f :: fs, off, ks, hk, lx, ly, xs, ys, r, w, hks, hr, hx, hy => by
    simp only [eqKindsFs] at hk
    split at hk
    · cases hk
    · rename_i hc
      simp only [Bool.or_eq_true, beq_iff_eq, bne_iff_ne, ne_eq, not_or, Decidable.not_not] at hc
      obtain ⟨hn, ho⟩ := hc
      split at hk
      · rename_i ti k0 r0 hti hk0 hr0
        split at hk
        · rename_i hlen
          simp only [Option.some.injEq] at hk
          subst hk
          rw [hti] at hr0
          simp only [Option.map_some, Option.getD_some] at hr0
          obtain ⟨r1, r2, e1, e2, rfl⟩ := ceqs_split ti.size hr
          have hlx : lx.length = k0.length + r0.length := by
            have := congrArg List.length hks
            simpa using this
          have hlen2 : ∀ {l k : List AC} {r : Bool}, ceqs l k = some r → l.length = k.length := by
            intro l
            induction l with
            | nil => intro k r h; cases k <;> simp [ceqs] at h ⊢
            | cons a l ih =>
              intro k r h
              cases k with
              | nil => simp [ceqs] at h
              | cons b k =>
                simp only [ceqs] at h
                split at h
                · rename_i _ _ _ hb
                  simp [ih hb]
                · cases h
          have hly := hlen2 hr
          have hkt : (lx.take ti.size).map kindAC = k0 := by rw [List.map_take, hks, ← hlen]; simp
          have hkd : (lx.drop ti.size).map kindAC = r0 := by rw [List.map_drop, hks, ← hlen]; simp
          have hpx : ∀ (zs : Array Value) (l : List AC), l.length = lx.length → F2 (CR m) l (zs.toList.drop off) → (part f.type zs f.offset).run P w = .ok (packV ti ((zs.toList.drop off).take ti.size)) w := by
            intro zs l hl hz
            rw [ho]
            refine run_field' hT hti ?_ rfl (h1 _ _ hti)
            have := hz.length
            rw [List.length_take]
            omega
          have hA := hpx xs lx rfl hx
          have hB := hpx ys ly hly.symm hy
          have hE := hg f.type k0 ti hk0 hti _ _ _ _ r1 w hkt e1 (hx.take ti.size) (hy.take ti.size)
          have hR := eqf_ok hT h1 hg fs (off + ti.size) r0 hr0 (lx.drop ti.size) (ly.drop ti.size) xs ys r2 w hkd e2 (by have := hx.drop ti.size; rwa [List.drop_drop] at this) (by have := hy.drop ti.size; rwa [List.drop_drop] at this)
          have hn' : f.name ≠ "_" := hn
          rw [Op.eqFields]
          simp only [if_pos hn', Sem.run_bind, hA, hB, hE, Result.andThen_ok]
          cases r1
          · simp
          · simpa using hR
        · cases hk
      · cases hk

theorem eqk_ok (hT : TOk P T) (h1 : ∀ t ti, lookT T t = some ti → ti.agg = false → ti.size = 1) :
    ∀ (d : Nat) t ks ti, eqKinds P T d t = some ks → lookT T t = some ti → ∀ D, d ≤ D → ∀ (lx ly : List AC) (xs ys : List Value) r (w : World), lx.map kindAC = ks → ceqs lx ly = some r → F2 (CR m) lx xs → F2 (CR m) ly ys →
      (Op.equalIn D t (packV ti xs) (packV ti ys)).run P w = .ok r w
  | 0, t, ks, ti, hk, _, D, hD, lx, ly, xs, ys, r, w, hks, hr, hx, hy => by simp [eqKinds] at hk
  | d + 1, t, ks, ti, hk, ht, D, hD, lx, ly, xs, ys, r, w, hks, hr, hx, hy => by
    obtain ⟨D, rfl⟩ : ∃ D', D = D' + 1 := ⟨D - 1, by omega⟩
    have hu := hT.u t ti ht
    simp only [eqKinds, ht] at hk
    split at hk
    · rename_i hagg
      split at hk
      · rename_i fs hfs
        split at hk
        · cases hk
        · rename_i hst
          rw [hfs] at hu
          have hf : P.fieldsOf t = fs := by simp [Program.fieldsOf, hu]
          simp only [packV, hagg, if_true]
          rw [run_equalIn_struct (P := P) w D t _ _ (by rw [hf]; exact hu) (by simpa using hst), hf]
          exact eqf_ok hT h1 (D := D) (g := eqKinds P T d) (fun t' ks' ti' hk' ht' lx' ly' xs' ys' r' w' a b c e => eqk_ok hT h1 d t' ks' ti' hk' ht' D (by omega) lx' ly' xs' ys' r' w' a b c e) fs.toList 0 ks hk lx ly xs.toArray ys.toArray r w hks hr (by simpa using hx) (by simpa using hy)
      · cases hk
    · rename_i hagg
      split at hk
      · cases hk
      · simp only [Option.some.injEq] at hk
        subst hk
        have hag : ti.agg = false := by simpa using hagg
        simp only [packV, hag, Bool.false_eq_true, if_false]
        obtain ⟨a, rfl⟩ : ∃ a, lx = [a] := by
          cases lx with
          | nil => simp at hks
          | cons a l => cases l with
            | nil => exact ⟨a, rfl⟩
            | cons b l => simp at hks
        simp only [List.map_cons, List.map_nil, List.cons.injEq, and_true] at hks
        cases ly with
        | nil => simp [ceqs] at hr
        | cons b l =>
          cases l with
          | cons c l => simp only [ceqs] at hr; split at hr <;> (try cases hr); rename_i h; simp [ceqs] at h
          | nil =>
            simp only [ceqs] at hr
            obtain ⟨c, hc⟩ : ∃ c, ceq a b = some c := by
              cases e : ceq a b with
              | none => rw [e] at hr; cases hr
              | some c => exact ⟨c, rfl⟩
            rw [hc] at hr
            simp only [Bool.and_true, Option.some.injEq] at hr
            subst hr
            cases hx with
            | cons hxa hxr =>
            cases hxr
            cases hy with
            | cons hyb hyr =>
            cases hyr
            simp only [List.headD_cons]
            unfold ceq at hc
            split at hc
            · rename_i k p k' q
              split at hc
              · rename_i hkk
                subst hkk
                cases hc
                cases (show _ = _ from hxa)
                cases (show _ = _ from hyb)
                cases hd : ti.u <;> rw [hd] at hks <;> simp [kindAC, kindD] at hks
                rw [hd] at hu
                exact run_equalIn_int (P := P) w D t _ _ _ _ hu
              · cases hc
            · cases hc
              cases (show _ = _ from hxa)
              cases (show _ = _ from hyb)
              cases hd : ti.u <;> rw [hd] at hks <;> simp [kindAC, kindD] at hks
              rw [hd] at hu
              exact run_equalIn_bool' (P := P) w D t _ _ hu
            · cases hc
              cases (show _ = _ from hxa)
              cases (show _ = _ from hyb)
              cases hd : ti.u <;> rw [hd] at hks <;> simp [kindAC, kindD] at hks
              rw [hd] at hu
              rw [run_equalIn_string (P := P) w D t _ _ hu, ← beq_toListBytes]
            · cases hc

/-- What the kernel looks at. -/
def tiFact (P : Program) (i : TI) : Option (TypeDesc × Nat × Nat × Option (List Value)) :=
  match P.underlying i.t, P.info? i.t with
  | some u, some x => some (u, x.size, x.bytes, x.zero.map fun z => z.cells.toList)
  | _, _ => none
def tiWant (i : TI) : Option (TypeDesc × Nat × Nat × Option (List Value)) := some (i.u, i.size, i.bytes, some i.zero)
def tiTest (T : List TI) (i : TI) : Bool :=
  (i.agg == isAggD i.u) && i.zero.length == i.size && i.zero.all oneV && decide (0 < i.size) && (i.agg || i.size == 1) && decide (0 < i.bytes) &&
    (match i.u with | .struct fs => fs.toList.all fun f => (lookT T f.type).isSome | _ => true)
def shapeTest (i : TI) : Prop := ∀ n s, i.shape = some (n, s) → s = 1 ∧ i.agg = true ∧ i.size = n ∧ i.zero = List.replicate n (i.zero.headD undef) ∧ 0 < n

theorem lookT_mem {t : TypeId} {ti : TI} (h : lookT T t = some ti) : ti ∈ T ∧ ti.t = t := ⟨List.mem_of_find?_eq_some h, lookT_t h⟩

theorem tab_facts {G : Ctx} (hf : G.T.map (tiFact G.P) = G.T.map tiWant) (ht : G.T.all (tiTest G.T) = true) (hs : ∀ i ∈ G.T, shapeTest i)
    (he : G.eqs.all (fun p => !G.P.eqGuardType G.P.depth p.1 && eqKinds G.P G.T 9 p.1 == some p.2 && ((lookT G.T p.1).map TI.agg == some true)) = true) : GOk G ∧ FOk G := by
  have hfact : ∀ i ∈ G.T, tiFact G.P i = tiWant i := fun i hi => by
    obtain ⟨n, hn, e⟩ := List.getElem_of_mem hi
    have := congrArg (fun l => l[n]?) hf
    simp only [List.getElem?_map, List.getElem?_eq_getElem hn, Option.map_some, Option.some.injEq] at this
    rw [← e]
    exact this
  have htest : ∀ i ∈ G.T, tiTest G.T i = true := fun i hi => List.all_eq_true.1 ht i hi
  have hT : TOk G.P G.T := by
    refine ⟨?_, ?_, ?_, ?_, ?_, ?_⟩
    · intro t ti h
      obtain ⟨hm, rfl⟩ := lookT_mem h
      have := hfact ti hm
      unfold tiFact tiWant at this
      split at this
      · rename_i u x hu hx
        simp only [Option.some.injEq, Prod.mk.injEq] at this
        rw [hu, this.1]
      · cases this
    · intro t ti h
      obtain ⟨hm, rfl⟩ := lookT_mem h
      have := hfact ti hm
      unfold tiFact tiWant at this
      split at this
      · rename_i u x hu hx
        simp only [Option.some.injEq, Prod.mk.injEq] at this
        obtain ⟨_, e1, e2, e3⟩ := this
        cases hz : x.zero with
        | none => rw [hz] at e3; cases e3
        | some z =>
          rw [hz] at e3
          simp only [Option.map_some, Option.some.injEq] at e3
          exact ⟨x, z, hx, e1, e2, hz, e3⟩
      · cases this
    · intro t ti h
      have := htest ti (lookT_mem h).1
      simp only [tiTest, Bool.and_eq_true, beq_iff_eq] at this
      exact this.1.1.1.1.1.1
    · intro t ti h
      have := htest ti (lookT_mem h).1
      simp only [tiTest, Bool.and_eq_true, beq_iff_eq] at this
      exact this.1.1.1.1.1.2
    · intro t ti h
      have := htest ti (lookT_mem h).1
      simp only [tiTest, Bool.and_eq_true, beq_iff_eq] at this
      exact List.all_eq_true.1 this.1.1.1.1.2
    · intro t ti n s h
      exact hs ti (lookT_mem h).1 n s
  have hone : ∀ t ti, lookT G.T t = some ti → 0 < ti.size ∧ (ti.agg = false → ti.size = 1) := by
    intro t ti h
    have := htest ti (lookT_mem h).1
    simp only [tiTest, Bool.and_eq_true, beq_iff_eq, decide_eq_true_eq, Bool.or_eq_true] at this
    refine ⟨this.1.1.1.2, fun ha => ?_⟩
    rcases this.1.1.2 with h | h
    · rw [ha] at h; cases h
    · exact h
  refine ⟨⟨⟨hT, hone, ?_⟩, ?_, ?_⟩, ?_⟩
  · intro t ti h
    have := htest ti (lookT_mem h).1
    simp only [tiTest, Bool.and_eq_true, beq_iff_eq, decide_eq_true_eq] at this
    exact this.1.2
  · intro t n h
    have := List.all_eq_true.1 he _ h
    simp only [Bool.and_eq_true, Bool.not_eq_true', beq_iff_eq] at this
    exact this.1.1
  · intro t n h m l k xs ys r w hks hr hx hy
    have := List.all_eq_true.1 he _ h
    simp only [Bool.and_eq_true, Bool.not_eq_true', beq_iff_eq] at this
    obtain ⟨⟨_, hk⟩, hl⟩ := this
    cases hti : lookT G.T t with
    | none => rw [hti] at hl; cases hl
    | some ti =>
      rw [hti] at hl
      simp only [Option.map_some, Option.some.injEq] at hl
      have := eqk_ok (m := m) hT (fun t ti h => (hone t ti h).2) 9 t n ti hk hti 10000 (by omega) l k xs.toList ys.toList r w hks hr hx hy
      simpa [packV, hl] using this
  · intro t ti fs h hu f hf
    have := htest ti (lookT_mem h).1
    simp only [tiTest, Bool.and_eq_true, hu] at this
    exact List.all_eq_true.1 this.2 f hf
end
open Go Go.RowKit
def isZ64 : Value → Bool
  | .int .i64 0 => true
  | _ => false
def shapeT (i : TI) : Bool := match i.shape with
  | some (n, s) => s == 1 && i.agg && i.size == n && decide (0 < n) && i.zero.all isZ64 && i.zero.length == n
  | none => true
theorem shapeT_ok {i : TI} (h : shapeT i = true) : shapeTest i := by
  intro n s hs
  unfold shapeT at h
  rw [hs] at h
  simp only [Bool.and_eq_true, beq_iff_eq, decide_eq_true_eq] at h
  obtain ⟨⟨⟨⟨⟨h1, h2⟩, h3⟩, h4⟩, h5⟩, h6⟩ := h
  have hz : ∀ x ∈ i.zero, x = .int .i64 0 := fun x hx => by
    have := List.all_eq_true.1 h5 x hx
    unfold isZ64 at this
    split at this
    · rfl
    · cases this
  have he : i.zero = List.replicate n (.int .i64 0) := List.eq_replicate_iff.2 ⟨h6, hz⟩
  refine ⟨h1, h2, h3, ?_, h4⟩
  rw [he]
  cases n with
  | zero => omega
  | succ n => rfl
end
section
open Go Go.Proofs
def tab : List TI := [
  ⟨2, .int .i64, 1, 8, [.int .i64 0], false, true, none⟩,
  ⟨3, .int .i64, 1, 8, [.int .i64 0], false, true, none⟩,
  ⟨4, .bool, 1, 1, [.bool false], false, true, none⟩,
  ⟨5, .int .u8, 1, 1, [.int .u8 0], false, true, none⟩,
  ⟨6, .int .u8, 1, 1, [.int .u8 0], false, true, none⟩,
  ⟨7, .struct #[⟨"x", 2, 0, false, "", "runtime", 0⟩, ⟨"y", 3, 1, false, "", "runtime", 8⟩, ⟨"signed", 4, 2, false, "", "runtime", 16⟩, ⟨"code", 6, 3, false, "", "runtime", 17⟩], 4, 24, [.int .i64 0, .int .i64 0, .bool false, .int .u8 0], true, true, none⟩,
  ⟨8, .struct #[⟨"x", 2, 0, false, "", "runtime", 0⟩, ⟨"y", 3, 1, false, "", "runtime", 8⟩, ⟨"signed", 4, 2, false, "", "runtime", 16⟩, ⟨"code", 6, 3, false, "", "runtime", 17⟩], 4, 24, [.int .i64 0, .int .i64 0, .bool false, .int .u8 0], true, true, none⟩,
  ⟨9, .string, 1, 16, [.string ⟨#[]⟩], false, true, none⟩,
  ⟨10, .string, 1, 16, [.string ⟨#[]⟩], false, true, none⟩,
  ⟨11, .string, 1, 16, [.string ⟨#[]⟩], false, true, none⟩,
  ⟨12, .int .u64, 1, 8, [.int .u64 0], false, true, none⟩,
  ⟨13, .struct #[⟨"msg", 9, 0, false, "", "runtime", 0⟩, ⟨"addr", 12, 1, false, "", "runtime", 16⟩], 2, 24, [.string ⟨#[]⟩, .int .u64 0], true, true, none⟩,
  ⟨14, .struct #[⟨"msg", 9, 0, false, "", "runtime", 0⟩, ⟨"addr", 12, 1, false, "", "runtime", 16⟩], 2, 24, [.string ⟨#[]⟩, .int .u64 0], true, true, none⟩,
  ⟨15, .pointer 219, 1, 8, [.pointer none], false, false, none⟩,
  ⟨16, .pointer 222, 1, 8, [.pointer none], false, false, none⟩,
  ⟨17, .pointer 230, 1, 8, [.pointer none], false, false, none⟩,
  ⟨18, .struct #[⟨"typ", 17, 0, false, "", "internal/runtime/maps", 0⟩], 1, 8, [.pointer none], true, false, none⟩,
  ⟨19, .struct #[⟨"typ", 17, 0, false, "", "internal/runtime/maps", 0⟩], 1, 8, [.pointer none], true, false, none⟩,
  ⟨21, .int .i32, 1, 4, [.int .i32 0], false, true, none⟩,
  ⟨22, .slice 2, 1, 24, [.slice none 0 0], false, false, none⟩,
  ⟨24, .slice 27, 1, 24, [.slice none 0 0], false, false, none⟩,
  ⟨26, .struct #[⟨"Pos", 2, 0, false, "", "", 0⟩, ⟨"Neg", 2, 1, false, "", "", 8⟩], 2, 16, [.int .i64 0, .int .i64 0], true, true, none⟩,
  ⟨27, .struct #[⟨"Pos", 2, 0, false, "", "", 0⟩, ⟨"Neg", 2, 1, false, "", "", 8⟩], 2, 16, [.int .i64 0, .int .i64 0], true, true, none⟩,
  ⟨33, .array 256 2, 256, 2048, List.replicate 256 (.int .i64 0), true, true, some (256, 1)⟩,
  ⟨34, .struct #[⟨"Adv", 33, 0, false, "", "", 0⟩], 256, 2048, List.replicate 256 (.int .i64 0), true, true, some (256, 1)⟩,
  ⟨35, .struct #[⟨"Adv", 33, 0, false, "", "", 0⟩], 256, 2048, List.replicate 256 (.int .i64 0), true, true, some (256, 1)⟩,
  ⟨41, .int .u64, 1, 8, [.int .u64 0], false, true, none⟩,
  ⟨43, .struct #[⟨"X", 2, 0, false, "", "", 0⟩, ⟨"Y", 2, 1, false, "", "", 8⟩, ⟨"W", 2, 2, false, "", "", 16⟩, ⟨"H", 2, 3, false, "", "", 24⟩], 4, 32, [.int .i64 0, .int .i64 0, .int .i64 0, .int .i64 0], true, true, none⟩,
  ⟨44, .struct #[⟨"X", 2, 0, false, "", "", 0⟩, ⟨"Y", 2, 1, false, "", "", 8⟩, ⟨"W", 2, 2, false, "", "", 16⟩, ⟨"H", 2, 3, false, "", "", 24⟩], 4, 32, [.int .i64 0, .int .i64 0, .int .i64 0, .int .i64 0], true, true, none⟩,
  ⟨48, .slice 44, 1, 24, [.slice none 0 0], false, false, none⟩,
  ⟨58, .slice 61, 1, 24, [.slice none 0 0], false, false, none⟩,
  ⟨60, .struct #[⟨"H", 2, 0, false, "", "", 0⟩, ⟨"Top", 27, 1, false, "", "", 8⟩, ⟨"Bottom", 27, 3, false, "", "", 24⟩, ⟨"Through", 4, 5, false, "", "", 40⟩], 6, 48, [.int .i64 0, .int .i64 0, .int .i64 0, .int .i64 0, .int .i64 0, .bool false], true, true, none⟩,
  ⟨61, .struct #[⟨"H", 2, 0, false, "", "", 0⟩, ⟨"Top", 27, 1, false, "", "", 8⟩, ⟨"Bottom", 27, 3, false, "", "", 24⟩, ⟨"Through", 4, 5, false, "", "", 40⟩], 6, 48, [.int .i64 0, .int .i64 0, .int .i64 0, .int .i64 0, .int .i64 0, .bool false], true, true, none⟩,
  ⟨62, .struct #[⟨"Top", 27, 0, false, "", "", 0⟩, ⟨"Bottom", 27, 2, false, "", "", 16⟩, ⟨"Through", 4, 4, false, "", "", 32⟩, ⟨"H", 2, 5, false, "", "", 40⟩], 6, 48, [.int .i64 0, .int .i64 0, .int .i64 0, .int .i64 0, .bool false, .int .i64 0], true, true, none⟩,
  ⟨63, .struct #[⟨"Top", 27, 0, false, "", "", 0⟩, ⟨"Bottom", 27, 2, false, "", "", 16⟩, ⟨"Through", 4, 4, false, "", "", 32⟩, ⟨"H", 2, 5, false, "", "", 40⟩], 6, 48, [.int .i64 0, .int .i64 0, .int .i64 0, .int .i64 0, .bool false, .int .i64 0], true, true, none⟩,
  ⟨79, .slice 3, 1, 24, [.slice none 0 0], false, false, none⟩,
  ⟨80, .slice 83, 1, 24, [.slice none 0 0], false, false, none⟩,
  ⟨82, .struct #[⟨"Node", 3, 0, false, "", "", 0⟩, ⟨"Text", 9, 1, false, "", "", 8⟩, ⟨"White", 3, 2, false, "", "", 24⟩, ⟨"Line", 2, 3, false, "", "", 32⟩], 4, 40, [.int .i64 0, .string ⟨#[]⟩, .int .i64 0, .int .i64 0], true, true, none⟩,
  ⟨83, .struct #[⟨"Node", 3, 0, false, "", "", 0⟩, ⟨"Text", 9, 1, false, "", "", 8⟩, ⟨"White", 3, 2, false, "", "", 24⟩, ⟨"Line", 2, 3, false, "", "", 32⟩], 4, 40, [.int .i64 0, .string ⟨#[]⟩, .int .i64 0, .int .i64 0], true, true, none⟩,
  ⟨84, .slice 87, 1, 24, [.slice none 0 0], false, false, none⟩,
  ⟨86, .struct #[⟨"Kind", 3, 0, false, "", "", 0⟩, ⟨"Run", 3, 1, false, "", "", 8⟩, ⟨"At", 3, 2, false, "", "", 16⟩, ⟨"Adv", 2, 3, false, "", "", 24⟩], 4, 32, [.int .i64 0, .int .i64 0, .int .i64 0, .int .i64 0], true, true, none⟩,
  ⟨87, .struct #[⟨"Kind", 3, 0, false, "", "", 0⟩, ⟨"Run", 3, 1, false, "", "", 8⟩, ⟨"At", 3, 2, false, "", "", 16⟩, ⟨"Adv", 2, 3, false, "", "", 24⟩], 4, 32, [.int .i64 0, .int .i64 0, .int .i64 0, .int .i64 0], true, true, none⟩,
  ⟨93, .int .u64, 1, 8, [.int .u64 0], false, true, none⟩,
  ⟨95, .slice 98, 1, 24, [.slice none 0 0], false, false, none⟩,
  ⟨97, .struct #[⟨"From", 3, 0, false, "", "", 0⟩, ⟨"To", 3, 1, false, "", "", 8⟩, ⟨"W", 2, 2, false, "", "", 16⟩], 3, 24, [.int .i64 0, .int .i64 0, .int .i64 0], true, true, none⟩,
  ⟨98, .struct #[⟨"From", 3, 0, false, "", "", 0⟩, ⟨"To", 3, 1, false, "", "", 8⟩, ⟨"W", 2, 2, false, "", "", 16⟩], 3, 24, [.int .i64 0, .int .i64 0, .int .i64 0], true, true, none⟩,
  ⟨102, .array 2 2, 2, 16, [.int .i64 0, .int .i64 0], true, true, some (2, 1)⟩,
  ⟨108, .slice 112, 1, 24, [.slice none 0 0], false, false, none⟩,
  ⟨111, .struct #[⟨"Node", 3, 0, false, "", "", 0⟩, ⟨"Rect", 44, 1, false, "", "", 8⟩, ⟨"From", 3, 5, false, "", "", 40⟩, ⟨"To", 3, 6, false, "", "", 48⟩, ⟨"Line", 3, 7, false, "", "", 56⟩], 8, 64, [.int .i64 0, .int .i64 0, .int .i64 0, .int .i64 0, .int .i64 0, .int .i64 0, .int .i64 0, .int .i64 0], true, true, none⟩,
  ⟨112, .struct #[⟨"Node", 3, 0, false, "", "", 0⟩, ⟨"Rect", 44, 1, false, "", "", 8⟩, ⟨"From", 3, 5, false, "", "", 40⟩, ⟨"To", 3, 6, false, "", "", 48⟩, ⟨"Line", 3, 7, false, "", "", 56⟩], 8, 64, [.int .i64 0, .int .i64 0, .int .i64 0, .int .i64 0, .int .i64 0, .int .i64 0, .int .i64 0, .int .i64 0], true, true, none⟩,
  ⟨118, .slice 121, 1, 24, [.slice none 0 0], false, false, none⟩,
  ⟨120, .struct #[⟨"Kind", 3, 0, false, "", "", 0⟩, ⟨"ID", 3, 1, false, "", "", 8⟩, ⟨"At", 3, 2, false, "", "", 16⟩, ⟨"Before", 3, 3, false, "", "", 24⟩, ⟨"Text", 9, 4, false, "", "", 32⟩], 5, 48, [.int .i64 0, .int .i64 0, .int .i64 0, .int .i64 0, .string ⟨#[]⟩], true, true, none⟩,
  ⟨121, .struct #[⟨"Kind", 3, 0, false, "", "", 0⟩, ⟨"ID", 3, 1, false, "", "", 8⟩, ⟨"At", 3, 2, false, "", "", 16⟩, ⟨"Before", 3, 3, false, "", "", 24⟩, ⟨"Text", 9, 4, false, "", "", 32⟩], 5, 48, [.int .i64 0, .int .i64 0, .int .i64 0, .int .i64 0, .string ⟨#[]⟩], true, true, none⟩,
  ⟨122, .slice 5, 1, 24, [.slice none 0 0], false, false, none⟩,
  ⟨125, .struct #[⟨"Place", 3, 0, false, "", "", 0⟩, ⟨"Turn", 3, 1, false, "", "", 8⟩], 2, 16, [.int .i64 0, .int .i64 0], true, true, none⟩,
  ⟨126, .struct #[⟨"Place", 3, 0, false, "", "", 0⟩, ⟨"Turn", 3, 1, false, "", "", 8⟩], 2, 16, [.int .i64 0, .int .i64 0], true, true, none⟩,
  ⟨127, .struct #[⟨"Kind", 3, 0, false, "", "", 0⟩, ⟨"Node", 3, 1, false, "", "", 8⟩, ⟨"Snap", 126, 2, false, "", "", 16⟩, ⟨"X", 2, 4, false, "", "", 32⟩, ⟨"Y", 2, 5, false, "", "", 40⟩, ⟨"Ops", 118, 6, false, "", "", 48⟩], 7, 72, [.int .i64 0, .int .i64 0, .int .i64 0, .int .i64 0, .int .i64 0, .int .i64 0, .slice none 0 0], true, false, none⟩,
  ⟨128, .struct #[⟨"Kind", 3, 0, false, "", "", 0⟩, ⟨"Node", 3, 1, false, "", "", 8⟩, ⟨"Snap", 126, 2, false, "", "", 16⟩, ⟨"X", 2, 4, false, "", "", 32⟩, ⟨"Y", 2, 5, false, "", "", 40⟩, ⟨"Ops", 118, 6, false, "", "", 48⟩], 7, 72, [.int .i64 0, .int .i64 0, .int .i64 0, .int .i64 0, .int .i64 0, .int .i64 0, .slice none 0 0], true, false, none⟩,
  ⟨129, .slice 128, 1, 24, [.slice none 0 0], false, false, none⟩,
  ⟨130, .struct #[⟨"Kind", 3, 0, false, "", "", 0⟩, ⟨"E", 3, 1, false, "", "", 8⟩, ⟨"At", 3, 2, false, "", "", 16⟩, ⟨"Node", 3, 3, false, "", "", 24⟩, ⟨"Snap", 126, 4, false, "", "", 32⟩, ⟨"Rect", 44, 6, false, "", "", 48⟩], 10, 80, List.replicate 10 (.int .i64 0), true, true, none⟩,
  ⟨131, .struct #[⟨"Kind", 3, 0, false, "", "", 0⟩, ⟨"E", 3, 1, false, "", "", 8⟩, ⟨"At", 3, 2, false, "", "", 16⟩, ⟨"Node", 3, 3, false, "", "", 24⟩, ⟨"Snap", 126, 4, false, "", "", 32⟩, ⟨"Rect", 44, 6, false, "", "", 48⟩], 10, 80, List.replicate 10 (.int .i64 0), true, true, none⟩,
  ⟨134, .int .i64, 1, 8, [.int .i64 0], false, true, none⟩,
  ⟨149, .pointer 35, 1, 8, [.pointer none], false, false, none⟩,
  ⟨154, .slice 9, 1, 24, [.slice none 0 0], false, false, none⟩,
  ⟨166, .pointer 168, 1, 8, [.pointer none], false, false, none⟩,
  ⟨167, .struct #[⟨"b", 122, 0, false, "", "quoin/wire", 0⟩, ⟨"bad", 4, 1, false, "", "quoin/wire", 24⟩], 2, 32, [.slice none 0 0, .bool false], true, false, none⟩,
  ⟨168, .struct #[⟨"b", 122, 0, false, "", "quoin/wire", 0⟩, ⟨"bad", 4, 1, false, "", "quoin/wire", 24⟩], 2, 32, [.slice none 0 0, .bool false], true, false, none⟩,
  ⟨174, .pointer 175, 1, 8, [.pointer none], false, false, none⟩,
  ⟨175, .struct #[⟨"b", 122, 0, false, "", "quoin/wire", 0⟩, ⟨"bad", 4, 1, false, "", "quoin/wire", 24⟩], 2, 32, [.slice none 0 0, .bool false], true, false, none⟩,
  ⟨178, .array 4 2, 4, 32, [.int .i64 0, .int .i64 0, .int .i64 0, .int .i64 0], true, true, some (4, 1)⟩,
  ⟨188, .pointer 112, 1, 8, [.pointer none], false, false, none⟩,
  ⟨198, .slice 207, 1, 24, [.slice none 0 0], false, false, none⟩,
  ⟨201, .int .u32, 1, 4, [.int .u32 0], false, true, none⟩,
  ⟨204, .struct #[⟨"Kind", 3, 0, false, "", "", 0⟩, ⟨"N", 2, 1, false, "", "", 8⟩], 2, 16, [.int .i64 0, .int .i64 0], true, true, none⟩,
  ⟨205, .struct #[⟨"Kind", 3, 0, false, "", "", 0⟩, ⟨"N", 2, 1, false, "", "", 8⟩], 2, 16, [.int .i64 0, .int .i64 0], true, true, none⟩,
  ⟨206, .struct #[⟨"Prop", 3, 0, false, "", "", 0⟩, ⟨"Word", 3, 1, false, "", "", 8⟩, ⟨"Len", 205, 2, false, "", "", 16⟩], 4, 32, [.int .i64 0, .int .i64 0, .int .i64 0, .int .i64 0], true, true, none⟩,
  ⟨207, .struct #[⟨"Prop", 3, 0, false, "", "", 0⟩, ⟨"Word", 3, 1, false, "", "", 8⟩, ⟨"Len", 205, 2, false, "", "", 16⟩], 4, 32, [.int .i64 0, .int .i64 0, .int .i64 0, .int .i64 0], true, true, none⟩,
  ⟨223, .int .u8, 1, 1, [.int .u8 0], false, true, none⟩,
  ⟨224, .int .u8, 1, 1, [.int .u8 0], false, true, none⟩,
  ⟨226, .pointer 5, 1, 8, [.pointer none], false, false, none⟩,
  ⟨227, .int .i32, 1, 4, [.int .i32 0], false, true, none⟩,
  ⟨228, .int .i32, 1, 4, [.int .i32 0], false, true, none⟩]
def eqsT : List (TypeId × List Nat) := [
  (26, [1, 1]),
  (27, [1, 1]),
  (43, [1, 1, 1, 1]),
  (44, [1, 1, 1, 1]),
  (60, [1, 1, 1, 1, 1, 2]),
  (61, [1, 1, 1, 1, 1, 2]),
  (62, [1, 1, 1, 1, 2, 1]),
  (63, [1, 1, 1, 1, 2, 1]),
  (82, [1, 3, 1, 1]),
  (83, [1, 3, 1, 1]),
  (86, [1, 1, 1, 1]),
  (87, [1, 1, 1, 1]),
  (97, [1, 1, 1]),
  (98, [1, 1, 1]),
  (111, [1, 1, 1, 1, 1, 1, 1, 1]),
  (112, [1, 1, 1, 1, 1, 1, 1, 1]),
  (120, [1, 1, 1, 1, 3]),
  (121, [1, 1, 1, 1, 3]),
  (125, [1, 1]),
  (126, [1, 1]),
  (130, [1, 1, 1, 1, 1, 1, 1, 1, 1, 1]),
  (131, [1, 1, 1, 1, 1, 1, 1, 1, 1, 1]),
  (204, [1, 1]),
  (205, [1, 1]),
  (206, [1, 1, 1, 1]),
  (207, [1, 1, 1, 1])]
noncomputable def G0 : Ctx := { P := Try.prog, T := tab, eqs := eqsT }
theorem tab_f : tab.map (tiFact Try.prog) = tab.map tiWant := by kernel_rfl
theorem tab_t : tab.all (tiTest tab) = true := by kernel_rfl
theorem tab_s : tab.all shapeT = true := by kernel_rfl
theorem tab_e : eqsT.all (fun p => !Try.prog.eqGuardType Try.prog.depth p.1 && eqKinds Try.prog tab 9 p.1 == some p.2 && ((lookT tab p.1).map TI.agg == some true)) = true := by kernel_rfl
theorem tab_mixed : Try.prog.follows .mixedOrders = true := by kernel_rfl
theorem tab_ok : GOk G0 ∧ FOk G0 := tab_facts (G := G0) tab_f tab_t (fun i hi => shapeT_ok (List.all_eq_true.1 tab_s i hi)) tab_e

/-- The table of what is known of the functions that are called. -/
abbrev Known := List (Nat × Spec)
def Known.look (K : Known) (f : Nat) : Option Spec := (K.find? fun p => p.1 == f).map Prod.snd
def nameOk (P : Program) (f : Nat) : Bool := match P.funcs[f]? with
  | some fn => !(fn.name == "runtime.NumGoroutine") && !fn.body.isNone
  | none => false
def KnownOk (K : Known) : Prop := ∀ f F, (f, F) ∈ K → SpecOk Try.prog f F ∧ nameOk Try.prog f = true
noncomputable def GT (K : Known) (keep : Nat → List (Nat × Option TypeId)) (L : Nat) (ts : List Nat) : Ctx2 := { G0 with σ := K.look, keep := keep, L := L, tame := ts }
noncomputable def GK (K : Known) (keep : Nat → List (Nat × Option TypeId)) (L : Nat) : Ctx2 := { G0 with σ := K.look, keep := keep, L := L }

theorem GT_ok {K : Known} (hK : KnownOk K) (keep : Nat → List (Nat × Option TypeId)) (L : Nat) (ts : List Nat) : XOk (GT K keep L ts) where
  g := tab_ok.1
  f := tab_ok.2
  mixed := tab_mixed
  σ := fun f F h => by
    simp only [GT, Known.look, Option.map_eq_some_iff] at h
    obtain ⟨p, hp, rfl⟩ := h
    have hm := List.mem_of_find?_eq_some hp
    have he := List.find?_some hp
    have he' : p.1 = f := by simpa using he
    subst he'
    obtain ⟨h1, h2⟩ := hK p.1 p.2 hm
    refine ⟨h1, ?_⟩
    unfold nameOk at h2
    split at h2
    · rename_i fn hfn
      simp only [Bool.and_eq_true, Bool.not_eq_true'] at h2
      exact ⟨fn, hfn, h2.1, h2.2⟩
    · cases h2

theorem GK_ok {K : Known} (hK : KnownOk K) (keep : Nat → List (Nat × Option TypeId)) (L : Nat) : XOk (GK K keep L) := GT_ok hK keep L []

/-- A spec that is known of a function: what its code comes to, or anything that says less. -/
theorem known {K : Known} (hK : KnownOk K) (keep : Nat → List (Nat × Option TypeId)) (L d : Nat) {f : Nat} {fn : Func} (hf : Try.prog.funcs[f]? = some fn) {F : Spec}
    (h : ∀ args h r, (F args h).eval = some r → (afun (GK K keep L) d fn args h).eval = some r) : SpecOk Try.prog f F :=
  fun B args h' r H' he => afun_ok (GK_ok hK keep L) hf d B args h' r H' (h _ _ _ he)
end
section
open Go Go.RowKit

abbrev Loops := Nat → Code → St → Tr (Ex × St)

noncomputable def lrun (G : Ctx2) (ℓ : Loops) (n0 : Nat) : Nat → Code → St → Tr (Ex × St)
  | 0, _, _ => .fail
  | _ + 1, .skip, S => .ret (.normal, S)
  | _ + 1, .region _ ops draw, S => (if draw then regDraw G ops S else regSeq G ops ops.toList S).bind fun S' => .ret (.normal, S')
  | d + 1, .seq a b, S => (lrun G ℓ n0 d a S).bind fun (e, S') => match e with
    | .normal => lrun G ℓ n0 d b S'
    | e => .ret (e, S')
  | d + 1, .cond c a b, S =>
    match c with
    | .tmp t =>
      match S.sl.getD t (.c .any) with
      | .c (.v (.bool x)) => .ite x (lrun G ℓ n0 d a (litB S t true)) (lrun G ℓ n0 d b (litB S t false))
      | _ => .fail
    | _ => .fail
  | d + 1, .block id b, S => (lrun G ℓ n0 d b S).bind fun (e, S') => match e with
    | .exit k => if k = id then .ret (.normal, S') else .ret (.exit k, S')
    | e => .ret (e, S')
  | d + 1, .loop b, S => ℓ d b (canon G.T n0 (G.keep (firstReg b)) S)
  | _ + 1, .exit id, S => .ret (.exit id, S)
  | _ + 1, .ret, S => .ret (.ret, S)
  | _ + 1, _, _ => .fail

noncomputable def lfun (G : Ctx2) (ℓ : Loops) (d : Nat) (fn : Func) : Spec := fun args h =>
  match fn.body with
  | none => .fail
  | some c => (lrun G ℓ h.length d c ⟨args ++ List.replicate (fn.ntmps - args.length) (.c .any), h⟩).bind fun (e, S) =>
    match e with
    | .exit _ => .fail
    | _ => (resL G.T S fn.results.toList).bind fun l =>
      let r := oneRes l
      let R := closeOf S.h 10000 (refsOf S.h h.length ++ refAV r) (List.range h.length)
      .ret (renAV (idxIn R) r, subHeap S.h R)

def LoopsOk (G : Ctx2) (n0 : Nat) (ℓ : Loops) : Prop :=
  ∀ d b S r, (ℓ d b S).eval = some r → (iter (arun G n0 d b) (canon G.T n0 (G.keep (firstReg b))) G.L S).eval = some r

theorem lrun_ok {G : Ctx2} {ℓ : Loops} {n0 : Nat} (hℓ : LoopsOk G n0 ℓ) : ∀ (d : Nat) (c : Code) (S : St) r, (lrun G ℓ n0 d c S).eval = some r → (arun G n0 d c S).eval = some r
  | 0, c, S, r, h => by cases c <;> exact absurd h (by simp [lrun, Tr.eval])
  | d + 1, c, S, r, h => by
    cases c with
    | skip => exact h
    | region id ops draw => exact h
    | exit id => exact h
    | ret => exact h
    | seq a b =>
      simp only [lrun, Tr.eval_bind] at h
      simp only [arun, Tr.eval_bind]
      cases h1 : (lrun G ℓ n0 d a S).eval with
      | none => simp [h1] at h
      | some r1 =>
        obtain ⟨e, S1⟩ := r1
        rw [lrun_ok hℓ d a S _ h1]
        rw [h1] at h
        simp only [Option.bind_some] at h ⊢
        cases e with
        | normal => exact lrun_ok hℓ d b S1 r h
        | exit k => exact h
        | ret => exact h
    | cond c a b =>
      cases c with
      | tmp t =>
        simp only [lrun] at h
        simp only [arun]
        split at h
        · rename_i x hx
          simp only [hx]
          simp only [Tr.eval_ite] at h ⊢
          split at h
          · rw [if_pos ‹_›]; exact lrun_ok hℓ d a _ r h
          · rw [if_neg ‹_›]; exact lrun_ok hℓ d b _ r h
        · cases h
      | const v => simp [lrun, Tr.eval] at h
      | global v => simp [lrun, Tr.eval] at h
      | func v => simp [lrun, Tr.eval] at h
    | block id b =>
      simp only [lrun, Tr.eval_bind] at h
      simp only [arun, Tr.eval_bind]
      cases h1 : (lrun G ℓ n0 d b S).eval with
      | none => simp [h1] at h
      | some r1 =>
        obtain ⟨e, S1⟩ := r1
        rw [lrun_ok hℓ d b S _ h1]
        rw [h1] at h
        simp only [Option.bind_some] at h ⊢
        cases e with
        | normal => exact h
        | exit k => exact h
        | ret => exact h
    | loop b => exact hℓ d b _ r h
    | _ => exact absurd h (by simp [lrun, Tr.eval])

theorem lfun_ok {G : Ctx2} {ℓ : Loops} {d : Nat} {fn : Func} {args : List AV} {h : AHeap} (hℓ : LoopsOk G h.length ℓ) {r} (he : (lfun G ℓ d fn args h).eval = some r) : (afun G d fn args h).eval = some r := by
  unfold lfun at he
  unfold afun
  split at he
  · cases he
  · rename_i c hc
    simp only [hc]
    rw [Tr.eval_bind] at he ⊢
    cases h1 : (lrun G ℓ h.length d c ⟨args ++ List.replicate (fn.ntmps - args.length) (.c .any), h⟩).eval with
    | none => simp [h1] at he
    | some r1 =>
      rw [lrun_ok hℓ d c _ _ h1]
      rw [h1] at he
      exact he

/-- One round, and what it leaves for the next. -/
noncomputable def round (f : St → Tr (Ex × St)) (k : St → St) (S : St) : Option (Ex × St) := ((f S).bind fun r => .ret (r.1, match r.1 with | .normal => k r.2 | _ => r.2)).eval
theorem round_eq {f : St → Tr (Ex × St)} {k : St → St} {S : St} : round f k S = (f S).eval.map fun r => (r.1, match r.1 with | .normal => k r.2 | _ => r.2) := by
  unfold round
  rw [Tr.eval_bind]
  cases (f S).eval <;> rfl

theorem iter_upto {f : St → Tr (Ex × St)} {k : St → St} (st : Nat → St) {N : Nat} {e : Ex} (he : e ≠ .normal) {Se : St} (hN : round f k (st N) = some (e, Se)) :
    ∀ (L i : Nat), i ≤ N → N < L + i → (∀ j, i ≤ j → j < N → round f k (st j) = some (.normal, st (j + 1))) → (iter f k L (st i)).eval = some (e, Se)
  | 0, i, hi, hL, _ => by omega
  | L + 1, i, hi, hL, h => by
    simp only [iter, Tr.eval_bind]
    rcases Nat.lt_or_ge i N with hlt | hge
    · have h1 := h i (Nat.le_refl _) hlt
      rw [round_eq] at h1
      cases h2 : (f (st i)).eval with
      | none => rw [h2] at h1; cases h1
      | some r =>
        obtain ⟨e1, S1⟩ := r
        rw [h2] at h1
        simp only [Option.map_some, Option.some.injEq, Prod.mk.injEq] at h1
        obtain ⟨rfl, h3⟩ := h1
        simp only [Option.bind_some]
        simp only at h3
        rw [h3]
        exact iter_upto st he hN L (i + 1) (by omega) (by omega) fun j hj hjN => h j (by omega) hjN
    · have : i = N := by omega
      subst this
      rw [round_eq] at hN
      cases h2 : (f (st i)).eval with
      | none => rw [h2] at hN; cases hN
      | some r =>
        obtain ⟨e1, S1⟩ := r
        rw [h2] at hN
        simp only [Option.map_some, Option.some.injEq, Prod.mk.injEq] at hN
        obtain ⟨rfl, h3⟩ := hN
        simp only [Option.bind_some]
        cases e1 with
        | normal => exact absurd rfl he
        | exit k => simp only at h3; rw [h3]; rfl
        | ret => simp only at h3; rw [h3]; rfl

theorem yes_of {p : Prop} (h : p) : yes p = true := by simp [yes, h]
/-- What one loop comes to. -/
noncomputable def told (d0 : Nat) (b0 : Code) (S0 : St) (r : Ex × St) : Loops := fun d b S => .need (yes (d = d0 ∧ b = b0 ∧ S = S0)) (.ret r)
abbrev was (d0 : Nat) (b0 : Code) (S0 : St) : Prop := d0 = d0 ∧ b0 = b0 ∧ S0 = S0
theorem told_ok {G : Ctx2} {n0 d0 : Nat} {b0 : Code} {S0 : St} {r : Ex × St} (h : (iter (arun G n0 d0 b0) (canon G.T n0 (G.keep (firstReg b0))) G.L S0).eval = some r) : LoopsOk G n0 (told d0 b0 S0 r) := by
  intro d b S r' he
  obtain ⟨h1, h2⟩ := Tr.eval_need.1 he
  have : d = d0 ∧ b = b0 ∧ S = S0 := by simpa [yes] using h1
  obtain ⟨rfl, rfl, rfl⟩ := this
  cases h2
  exact h
theorem Tr.eval_ask {α : Type} {p : Prop} {t : Tr α} {v : α} : (Tr.need (yes p) t).eval = some v ↔ p ∧ t.eval = some v := by
  rw [Tr.eval_need]
  simp [yes]

def loopsOf : Code → List Code
  | .seq a b => loopsOf a ++ loopsOf b
  | .block _ b => loopsOf b
  | .loop b => b :: loopsOf b
  | .cond _ a b => loopsOf a ++ loopsOf b
  | _ => []
def bodyOf (fn : Func) (n : Nat) : Code := (loopsOf (fn.body.getD .skip)).getD n .skip
/-- Slots of which some are told. -/
def slots (n : Nat) (l : List (Nat × AV)) : List AV := l.foldl (fun s p => s.set p.1 p.2) (List.replicate n (.c .any))
abbrev I64 (x : Int) : AV := .c (.v (.int .i64 x))
abbrev i64 (x : Int) : AC := .v (.int .i64 x)
abbrev Bo (x : Bool) : AV := .c (.v (.bool x))
theorem knownT {K : Known} (hK : KnownOk K) {f : Nat} {fn : Func} (hf : Try.prog.funcs[f]? = some fn) {F : Spec}
    (h : ∀ args h r, (F args h).eval = some r → ∃ keep L d ts, (afun (GT K keep L ts) d fn args h).eval = some r) : SpecOk Try.prog f F :=
  fun B args h' r H' he => by
    obtain ⟨keep, L, d, ts, h1⟩ := h _ _ _ he
    exact afun_ok (GT_ok hK keep L ts) hf d B args h' r H' h1
theorem known' {K : Known} (hK : KnownOk K) {f : Nat} {fn : Func} (hf : Try.prog.funcs[f]? = some fn) {F : Spec}
    (h : ∀ args h r, (F args h).eval = some r → ∃ keep L d, (afun (GK K keep L) d fn args h).eval = some r) : SpecOk Try.prog f F :=
  fun B args h' r H' he => by
    obtain ⟨keep, L, d, h1⟩ := h _ _ _ he
    exact afun_ok (GK_ok hK keep L) hf d B args h' r H' h1
theorem known0 {K : Known} (hK : KnownOk K) (d : Nat) {f : Nat} {fn : Func} (hf : Try.prog.funcs[f]? = some fn) : SpecOk Try.prog f (afun (GK K (fun _ => []) 0) d fn) :=
  known' hK hf fun _ _ _ h => ⟨_, _, _, h⟩
end
section
open Go Go.RowKit

noncomputable def byReg (r : Nat) (a b : Loops) : Loops := fun d c S => if firstReg c = r then a d c S else b d c S
theorem byReg_ok {G : Ctx2} {n0 r : Nat} {a b : Loops} (ha : LoopsOk G n0 a) (hb : LoopsOk G n0 b) : LoopsOk G n0 (byReg r a b) := by
  intro d c S x h
  unfold byReg at h
  split at h
  · exact ha d c S x h
  · exact hb d c S x h
theorem noLoops {G : Ctx2} {n0 : Nat} : LoopsOk G n0 (fun _ _ _ => .fail) := fun _ _ _ _ h => by cases h
theorem round_l {G : Ctx2} {n0 d : Nat} {ℓ : Loops} {c : Code} {k : St → St} {S : St} {r : Ex × St} (hℓ : LoopsOk G n0 ℓ) (h : round (lrun G ℓ n0 d c) k S = some r) : round (arun G n0 d c) k S = some r := by
  rw [round_eq] at h ⊢
  cases h1 : (lrun G ℓ n0 d c S).eval with
  | none => rw [h1] at h; cases h
  | some x => rw [lrun_ok hℓ d c S x h1]; rw [h1] at h; exact h
end
section
open Go Go.RowKit
def w64 (x : Int) : Int := IntKind.wrap .i64 x
def and64 (a m : Int) : Int := bits .and .i64 a m
def mxI (a b : Int) : Int := if a > b then a else b
def mnI (a b : Int) : Int := if a < b then a else b
theorem mxI_eq (a b : Int) : mxI a b = max a b := by unfold mxI; omega
theorem mnI_eq (a b : Int) : mnI a b = min a b := by unfold mnI; omega
def u64 (x : Int) : Int := IntKind.wrap .u64 x
theorem w64_id {x : Int} (h1 : -(2 ^ 62 : Int) ≤ x) (h2 : x < (2 ^ 62 : Int)) : w64 x = x := by
  unfold w64
  rw [IntKind.wrap_i64]
  omega
/-- '& m' of a number, m one less than a power of 2. -/
theorem and_mask (k : Nat) (hk : k ≤ 62) (a m : Int) (hm : m = 2 ^ k - 1) : and64 a m = a % (2 ^ k : Int) := by
  have hp : (2 : Nat) ^ k ≤ 2 ^ 62 := Nat.pow_le_pow_right (by decide) hk
  have hp0 : 0 < (2 : Nat) ^ k := Nat.pow_pos (by decide)
  have hm' : m = ((2 ^ k - 1 : Nat) : Int) := by
    rw [hm]
    have : ((2 ^ k : Nat) : Int) = (2 : Int) ^ k := by simp
    omega
  have h2 : (BitVec.ofInt 64 m).toNat = 2 ^ k - 1 := by
    rw [hm', BitVec.ofInt_natCast, BitVec.toNat_ofNat]
    exact Nat.mod_eq_of_lt (by omega)
  have h1 : (BitVec.ofInt 64 a).toNat = (a % (2 ^ 64 : Int)).toNat := by
    rw [BitVec.toNat_ofInt]
    rfl
  show IntKind.i64.wrap ((BitVec.ofInt 64 a &&& BitVec.ofInt 64 m).toNat : Int) = _
  rw [BitVec.toNat_and, h1, h2, Nat.and_two_pow_sub_one_eq_mod, IntKind.wrap_i64]
  have e : (2 : Int) ^ k = ((2 ^ k : Nat) : Int) := by simp
  have h3 : ((a % (2 ^ 64 : Int)).toNat : Int) = a % (2 ^ 64 : Int) := Int.toNat_of_nonneg (Int.emod_nonneg _ (by decide))
  have h4 : (((a % (2 ^ 64 : Int)).toNat % 2 ^ k : Nat) : Int) = a % (2 ^ k : Int) := by
    rw [Int.natCast_emod, h3, e]
    refine Int.emod_emod_of_dvd _ ?_
    have : (2 : Nat) ^ k ∣ 2 ^ 64 := Nat.pow_dvd_pow 2 (by omega)
    exact Int.natCast_dvd_natCast.2 this
  have h5 : (a % (2 ^ 64 : Int)).toNat % 2 ^ k < 2 ^ k := Nat.mod_lt _ hp0
  rw [← h4]
  omega
theorem fdiv2 (a : Int) : a.fdiv (2 ^ (1 : Nat)) = a / 2 := by
  rw [Int.fdiv_eq_ediv_of_nonneg a (by decide)]
  rfl
theorem tdiv_nn {a b : Int} (h : 0 ≤ a) (hb : 0 ≤ b) : a.tdiv b = a / b := Int.tdiv_eq_ediv_of_nonneg h
theorem tmod_nn {a b : Int} (h : 0 ≤ a) : a.tmod b = a % b := Int.tmod_eq_emod_of_nonneg h
/-- A number, brought in between 0 and a power of 2. -/
theorem u64_mod (k : Nat) (hk : k ≤ 62) (a m : Int) (hm : m = 2 ^ k) : w64 ((u64 a).tmod m) = a % m := by
  unfold u64
  rw [IntKind.wrap_u64, tmod_nn (by omega), hm]
  have e : (2 : Int) ^ k = ((2 ^ k : Nat) : Int) := by simp
  have hp : (2 : Nat) ^ k ≤ 2 ^ 62 := Nat.pow_le_pow_right (by decide) hk
  have hp0 : 0 < (2 : Nat) ^ k := Nat.pow_pos (by decide)
  rw [e]
  have : a % 18446744073709551616 % ((2 ^ k : Nat) : Int) = a % ((2 ^ k : Nat) : Int) := by
    refine Int.emod_emod_of_dvd _ ?_
    have : (2 : Nat) ^ k ∣ 2 ^ 64 := Nat.pow_dvd_pow 2 (by omega)
    exact Int.natCast_dvd_natCast.2 this
  rw [this]
  have h1 : 0 ≤ a % ((2 ^ k : Nat) : Int) := Int.emod_nonneg _ (by omega)
  have h2 : a % ((2 ^ k : Nat) : Int) < ((2 ^ k : Nat) : Int) := Int.emod_lt_of_pos _ (by omega)
  exact w64_id (by omega) (by omega)
end
section
open Go Go.RowKit
noncomputable def rnd (f : St → Tr (Ex × St)) (k : St → St) (S : St) : Option St := ((f S).bind fun r => match r.1 with | .normal => .ret (k r.2) | _ => .fail).eval
theorem rnd_ok {f : St → Tr (Ex × St)} {k : St → St} {S S' : St} (h : rnd f k S = some S') : round f k S = some (.normal, S') := by
  unfold rnd at h
  rw [Tr.eval_bind] at h
  rw [round_eq]
  cases h1 : (f S).eval with
  | none => rw [h1] at h; cases h
  | some r =>
    obtain ⟨e, S1⟩ := r
    rw [h1] at h
    cases e with
    | normal =>
      simp only [Option.bind_some, Tr.eval, Option.some.injEq] at h
      subst h
      rfl
    | exit i => simp [Tr.eval] at h
    | ret => simp [Tr.eval] at h
/-- What a loop leaves, where it ends. -/
noncomputable def rndE (f : St → Tr (Ex × St)) (S : St) : Option (Ex × St) := ((f S).bind fun r => match r.1 with | .normal => .fail | e => .ret (e, r.2)).eval
theorem rndE_ok {f : St → Tr (Ex × St)} {k : St → St} {S : St} {r : Ex × St} (h : rndE f S = some r) : round f k S = some r ∧ r.1 ≠ .normal := by
  unfold rndE at h
  rw [Tr.eval_bind] at h
  rw [round_eq]
  cases h1 : (f S).eval with
  | none => rw [h1] at h; cases h
  | some x =>
    obtain ⟨e, S1⟩ := x
    rw [h1] at h
    cases e with
    | normal => simp [Tr.eval] at h
    | exit i =>
      simp only [Option.bind_some, Tr.eval, Option.some.injEq] at h
      subst h
      exact ⟨rfl, by simp⟩
    | ret =>
      simp only [Option.bind_some, Tr.eval, Option.some.injEq] at h
      subst h
      exact ⟨rfl, by simp⟩
noncomputable def rndX (f : St → Tr (Ex × St)) (S : St) : Option (Ex × St) := ((f S).bind fun r => match r.1 with | .exit i => .ret (.exit i, r.2) | _ => .fail).eval
theorem rndX_ok {f : St → Tr (Ex × St)} {k : St → St} {S : St} {r : Ex × St} (h : rndX f S = some r) : round f k S = some r := by
  unfold rndX at h
  rw [Tr.eval_bind] at h
  rw [round_eq]
  cases h1 : (f S).eval with
  | none => rw [h1] at h; cases h
  | some x =>
    obtain ⟨e, S1⟩ := x
    rw [h1] at h
    cases e with
    | normal => simp [Tr.eval] at h
    | exit i =>
      simp only [Option.bind_some, Tr.eval, Option.some.injEq] at h
      subst h
      rfl
    | ret => simp [Tr.eval] at h
end
section
open Go Go.RowKit

def Tr.go {α : Type} : Tr α → List Bool → Option (List Bool × α)
  | .ret a, _ => some ([], a)
  | .ite b t e, [] => (t.go []).map fun r => (b :: r.1, r.2)
  | .ite b t e, true :: ds => (t.go ds).map fun r => (b :: r.1, r.2)
  | .ite b t e, false :: ds => (e.go ds).map fun r => ((!b) :: r.1, r.2)
  | .fail, _ => none
def AllT : List Bool → Prop
  | [] => True
  | c :: cs => c = true ∧ AllT cs
theorem AllT.nil : AllT [] := trivial
theorem AllT.cons {c : Bool} {cs : List Bool} (h : c = true) (h' : AllT cs) : AllT (c :: cs) := ⟨h, h'⟩
theorem Tr.go_eval {α : Type} : ∀ {t : Tr α} {ds cs : List Bool} {a : α}, t.go ds = some (cs, a) → AllT cs → t.eval = some a
  | .ret a, ds, cs, a', h, _ => by
    simp only [Tr.go, Option.some.injEq, Prod.mk.injEq] at h
    rw [Tr.eval_ret, h.2]
  | .ite b t e, [], cs, a, h, hc => by
    simp only [Tr.go, Option.map_eq_some_iff] at h
    obtain ⟨r, hr, h⟩ := h
    cases h
    rw [Tr.eval_ite, if_pos hc.1]
    exact Tr.go_eval hr hc.2
  | .ite b t e, true :: ds, cs, a, h, hc => by
    simp only [Tr.go, Option.map_eq_some_iff] at h
    obtain ⟨r, hr, h⟩ := h
    cases h
    rw [Tr.eval_ite, if_pos hc.1]
    exact Tr.go_eval hr hc.2
  | .ite b t e, false :: ds, cs, a, h, hc => by
    simp only [Tr.go, Option.map_eq_some_iff] at h
    obtain ⟨r, hr, h⟩ := h
    cases h
    rw [Tr.eval_ite, if_neg (by have := hc.1; simp at this; simp [this])]
    exact Tr.go_eval hr hc.2
  | .fail, ds, cs, a, h, _ => by cases h

/-- One round as a tree. -/
noncomputable def roundT (f : St → Tr (Ex × St)) (k : St → St) (S : St) : Tr (Ex × St) := (f S).bind fun r => .ret (r.1, match r.1 with | .normal => k r.2 | _ => r.2)
theorem round_go {f : St → Tr (Ex × St)} {k : St → St} {S : St} {ds cs : List Bool} {r : Ex × St} (h : (roundT f k S).go ds = some (cs, r)) (hc : AllT cs) : round f k S = some r := Tr.go_eval h hc
theorem lfun_go {G : Ctx2} {ℓ : Loops} {d : Nat} {fn : Func} {args : List AV} {h : AHeap} (hℓ : LoopsOk G h.length ℓ) {ds cs : List Bool} {r} (hg : (lfun G ℓ d fn args h).go ds = some (cs, r)) (hc : AllT cs) : (afun G d fn args h).eval = some r :=
  lfun_ok hℓ (Tr.go_eval hg hc)
end
section
open Go Go.RowKit

/-- What a piece of code comes to, from a state on. -/
def CodeSem (G : Ctx2) (n0 : Nat) (c : Code) (S : St) (r : Ex × St) : Prop :=
  ∀ (B : Nat) (m0 : List Pl) (h0 : AHeap) (w0 : World) (a : Act) (w : World), h0.length = n0 → m0.length = h0.length → RI B m0 h0 w0 S a w →
    ∀ Q, (∀ a' w', RI B m0 h0 w0 r.2 a' w' → Q (toExit r.1) a' w') → c.wp G.P Q a w

def LoopsSem (G : Ctx2) (n0 : Nat) (ℓ : Loops) : Prop := ∀ d b S r, (ℓ d b S).eval = some r → CodeSem G n0 (.loop b) S r

theorem CodeSem.canon {G : Ctx2} {n0 : Nat} {c : Code} {S : St} {r : Ex × St} (T : List TI) (k : List (Nat × Option TypeId)) (h : CodeSem G n0 c S r) : CodeSem G n0 c S (r.1, canon T n0 k r.2) := by
  intro B m0 h0 w0 a w hn H0 hI Q hQ
  refine h B m0 h0 w0 a w hn H0 hI Q fun a' w' hI' => hQ a' w' ?_
  subst hn
  exact canon_ok H0 hI'

theorem lrun_sem {G : Ctx2} (hG : XOk G) {ℓ : Loops} {n0 : Nat} (hℓ : LoopsSem G n0 ℓ) : ∀ (d : Nat) (c : Code) (S : St) (e : Ex) (S' : St), (lrun G ℓ n0 d c S).eval = some (e, S') → CodeSem G n0 c S (e, S')
  | 0, c, S, e, S', he => by simp [lrun, Tr.eval] at he
  | d + 1, c, S, e, S', he => by
    have ih := lrun_sem hG hℓ d
    intro B m0 h0 w0 a w hn H0 hI Q hQ
    cases c with
    | skip =>
      simp only [lrun, Tr.eval, Option.some.injEq, Prod.mk.injEq] at he
      obtain ⟨rfl, rfl⟩ := he
      exact wp_skip (hQ a w hI)
    | region id ops draw =>
      simp only [lrun, Tr.eval_bind] at he
      cases draw with
      | false =>
        simp only [Bool.false_eq_true, if_false] at he
        cases h1 : (regSeq G ops ops.toList S).eval with
        | none => simp [h1] at he
        | some S1 =>
          rw [h1] at he
          simp only [Option.bind_some, Tr.eval, Option.some.injEq, Prod.mk.injEq] at he
          obtain ⟨rfl, rfl⟩ := he
          exact wp_region_list (regSeq_ok hG ops.toList S a w hI h1 hQ)
      | true =>
        simp only [if_true] at he
        cases h1 : (regDraw G ops S).eval with
        | none => simp [h1] at he
        | some S1 =>
          rw [h1] at he
          simp only [Option.bind_some, Tr.eval, Option.some.injEq, Prod.mk.injEq] at he
          obtain ⟨rfl, rfl⟩ := he
          exact regDraw_ok hG hI h1 Q hQ
    | seq x y =>
      simp only [lrun, Tr.eval_bind] at he
      cases h1 : (lrun G ℓ n0 d x S).eval with
      | none => simp [h1] at he
      | some r =>
        obtain ⟨e1, S1⟩ := r
        rw [h1] at he
        simp only [Option.bind_some] at he
        refine wp_seq (ih x S e1 S1 h1 B m0 h0 w0 a w hn H0 hI _ ?_)
        intro a' w' hI'
        cases e1 with
        | normal => exact ih y S1 e S' he B m0 h0 w0 a' w' hn H0 hI' Q hQ
        | exit id =>
          simp only [Tr.eval, Option.some.injEq, Prod.mk.injEq] at he
          obtain ⟨rfl, rfl⟩ := he
          exact hQ a' w' hI'
        | ret =>
          simp only [Tr.eval, Option.some.injEq, Prod.mk.injEq] at he
          obtain ⟨rfl, rfl⟩ := he
          exact hQ a' w' hI'
    | cond c x y =>
      simp only [lrun] at he
      split at he
      · rename_i t
        split at he
        · rename_i b hb
          rw [Tr.eval_ite] at he
          have hbv := hI.bool hb
          have hev : a.eval (.tmp t) = .bool b := by
            simp [Act.eval, Array.getD_eq_getD_getElem?, hbv]
          cases b with
          | true =>
            rw [if_pos rfl] at he
            exact wp_cond_true hev (ih x _ e S' he B m0 h0 w0 a w hn H0 (hI.lit hb) Q hQ)
          | false =>
            rw [if_neg (by simp)] at he
            exact wp_cond_false hev (ih y _ e S' he B m0 h0 w0 a w hn H0 (hI.lit hb) Q hQ)
        · cases he
      · cases he
    | block id x =>
      simp only [lrun, Tr.eval_bind] at he
      cases h1 : (lrun G ℓ n0 d x S).eval with
      | none => simp [h1] at he
      | some r =>
        obtain ⟨e1, S1⟩ := r
        rw [h1] at he
        simp only [Option.bind_some] at he
        refine wp_block (ih x S e1 S1 h1 B m0 h0 w0 a w hn H0 hI _ ?_)
        intro a' w' hI'
        cases e1 with
        | normal =>
          simp only [Tr.eval, Option.some.injEq, Prod.mk.injEq] at he
          obtain ⟨rfl, rfl⟩ := he
          exact hQ a' w' hI'
        | exit k =>
          simp only at he
          split at he
          · rename_i hk
            simp only [Tr.eval, Option.some.injEq, Prod.mk.injEq] at he
            obtain ⟨rfl, rfl⟩ := he
            show (if k = id then Q .normal a' w' else Q (.exit k) a' w')
            rw [if_pos hk]
            exact hQ a' w' hI'
          · rename_i hk
            simp only [Tr.eval, Option.some.injEq, Prod.mk.injEq] at he
            obtain ⟨rfl, rfl⟩ := he
            show (if k = id then Q .normal a' w' else Q (.exit k) a' w')
            rw [if_neg hk]
            exact hQ a' w' hI'
        | ret =>
          simp only [Tr.eval, Option.some.injEq, Prod.mk.injEq] at he
          obtain ⟨rfl, rfl⟩ := he
          exact hQ a' w' hI'
    | loop x =>
      simp only [lrun] at he
      refine hℓ d x _ (e, S') he B m0 h0 w0 a w hn H0 ?_ Q hQ
      subst hn
      exact canon_ok H0 hI
    | exit id =>
      simp only [lrun, Tr.eval, Option.some.injEq, Prod.mk.injEq] at he
      obtain ⟨rfl, rfl⟩ := he
      exact wp_exit (hQ a w hI)
    | ret =>
      simp only [lrun, Tr.eval, Option.some.injEq, Prod.mk.injEq] at he
      obtain ⟨rfl, rfl⟩ := he
      exact wp_ret (hQ a w hI)
    | rangeFunc _ _ _ _ => simp [lrun, Tr.eval] at he
    | scope _ => simp [lrun, Tr.eval] at he
    | label _ => simp [lrun, Tr.eval] at he
    | goto _ => simp [lrun, Tr.eval] at he
    | refuse _ => simp [lrun, Tr.eval] at he

/-- One round of a loop, as a tree: what it leaves is forgotten but for some slots, the same or others where the loop ends. -/
noncomputable def rT (G : Ctx2) (ℓ : Loops) (n0 d : Nat) (b : Code) (k ka : List (Nat × Option TypeId)) (S : St) : Tr (Ex × St) :=
  (lrun G ℓ n0 d b S).bind fun r => .ret (r.1, match r.1 with | .normal => canon G.T n0 k r.2 | _ => canon G.T n0 ka r.2)
theorem rT_sem {G : Ctx2} (hG : XOk G) {ℓ : Loops} {n0 d : Nat} (hℓ : LoopsSem G n0 ℓ) {b : Code} {k ka : List (Nat × Option TypeId)} {S : St} {r : Ex × St} (h : (rT G ℓ n0 d b k ka S).eval = some r) : CodeSem G n0 b S r := by
  unfold rT at h
  rw [Tr.eval_bind] at h
  cases h1 : (lrun G ℓ n0 d b S).eval with
  | none => rw [h1] at h; cases h
  | some x =>
    obtain ⟨e, S1⟩ := x
    rw [h1] at h
    simp only [Option.bind_some, Tr.eval, Option.some.injEq] at h
    subst h
    have hs := lrun_sem hG hℓ d b S e S1 h1
    cases e with
    | normal => exact hs.canon G.T k
    | exit i => exact hs.canon G.T ka
    | ret => exact hs.canon G.T ka
theorem rounds_sem {G : Ctx2} {n0 : Nat} {b : Code} (st : Nat → St) {N : Nat} {e : Ex} {Se : St} (he : e ≠ .normal) (hN : CodeSem G n0 b (st N) (e, Se)) :
    ∀ (L i : Nat), i ≤ N → N < L + i → (∀ j, i ≤ j → j < N → CodeSem G n0 b (st j) (.normal, st (j + 1))) →
      ∀ (B : Nat) (m0 : List Pl) (h0 : AHeap) (w0 : World) (a : Act) (w : World), h0.length = n0 → m0.length = h0.length → RI B m0 h0 w0 (st i) a w →
        ∀ Q, (∀ a' w', RI B m0 h0 w0 Se a' w' → Q (toExit e) a' w') → Code.rounds G.P b Q L a w
  | 0, i, hi, hL, _ => by omega
  | L + 1, i, hi, hL, h => by
    intro B m0 h0 w0 a w hn H0 hI Q hQ
    rw [rounds_succ]
    rcases Nat.lt_or_ge i N with hlt | hge
    · refine h i (Nat.le_refl _) hlt B m0 h0 w0 a w hn H0 hI _ ?_
      intro a' w' hI'
      show Code.rounds G.P b Q L a' w'
      exact rounds_sem st he hN L (i + 1) (by omega) (by omega) (fun j hj hjN => h j (by omega) hjN) B m0 h0 w0 a' w' hn H0 hI' Q hQ
    · have : i = N := by omega
      subst this
      refine hN B m0 h0 w0 a w hn H0 hI _ ?_
      intro a' w' hI'
      cases e with
      | normal => exact absurd rfl he
      | exit id => exact hQ a' w' hI'
      | ret => exact hQ a' w' hI'
/-- A loop by its rounds. -/
theorem loop_sem {G : Ctx2} (hG : XOk G) {ℓ : Loops} {n0 d : Nat} (hℓ : LoopsSem G n0 ℓ) {b : Code} {k ka : List (Nat × Option TypeId)} (st : Nat → St) (N : Nat) {e : Ex} {Se : St} (he : e ≠ .normal)
    (hN : (rT G ℓ n0 d b k ka (st N)).eval = some (e, Se)) (hs : ∀ j, j < N → (rT G ℓ n0 d b k ka (st j)).eval = some (.normal, st (j + 1))) : CodeSem G n0 (.loop b) (st 0) (e, Se) := by
  intro B m0 h0 w0 a w hn H0 hI Q hQ
  exact wp_loop_rounds (N + 1) (rounds_sem st he (rT_sem hG hℓ hN) (N + 1) 0 (Nat.zero_le _) (by omega) (fun j _ hj => rT_sem hG hℓ (hs j hj)) B m0 h0 w0 a w hn H0 hI Q hQ)

theorem loop_of {G : Ctx2} {n0 : Nat} {b : Code} (st : Nat → St) (N : Nat) {e : Ex} {Se : St} (he : e ≠ .normal) (hN : CodeSem G n0 b (st N) (e, Se)) (hs : ∀ j, j < N → CodeSem G n0 b (st j) (.normal, st (j + 1))) : CodeSem G n0 (.loop b) (st 0) (e, Se) := by
  intro B m0 h0 w0 a w hn H0 hI Q hQ
  exact wp_loop_rounds (N + 1) (rounds_sem st he hN (N + 1) 0 (Nat.zero_le _) (by omega) (fun j _ hj => hs j hj) B m0 h0 w0 a w hn H0 hI Q hQ)

theorem noLoopsS {G : Ctx2} {n0 : Nat} : LoopsSem G n0 (fun _ _ _ => .fail) := fun _ _ _ _ h => by cases h
noncomputable def nol : Loops := fun _ _ _ => .fail
/-- A loop told: its body, the state in which it begins, what it comes to. -/
noncomputable def tell (b0 : Code) (S0 : St) (r : Ex × St) : Loops := fun d b S => .need (yes (b = b0 ∧ S = S0)) (.ret r)
abbrev wasS (b0 : Code) (S0 : St) : Prop := b0 = b0 ∧ S0 = S0
theorem tell_ok {G : Ctx2} {n0 : Nat} {b0 : Code} {S0 : St} {r : Ex × St} (h : CodeSem G n0 (.loop b0) S0 r) : LoopsSem G n0 (tell b0 S0 r) := by
  intro d b S r' he
  obtain ⟨h1, h2⟩ := Tr.eval_need.1 he
  have : b = b0 ∧ S = S0 := by simpa [yes] using h1
  obtain ⟨rfl, rfl⟩ := this
  cases h2
  exact h
theorem byReg_sem {G : Ctx2} {n0 r : Nat} {a b : Loops} (ha : LoopsSem G n0 a) (hb : LoopsSem G n0 b) : LoopsSem G n0 (byReg r a b) := by
  intro d c S x h
  unfold byReg at h
  split at h
  · exact ha d c S x h
  · exact hb d c S x h
theorem rT_go {G : Ctx2} {ℓ : Loops} {n0 d : Nat} {b : Code} {k ka : List (Nat × Option TypeId)} {S : St} {ds cs : List Bool} {r : Ex × St} (h : (rT G ℓ n0 d b k ka S).go ds = some (cs, r)) (hc : AllT cs) : (rT G ℓ n0 d b k ka S).eval = some r := Tr.go_eval h hc

theorem lfun_spec {G : Ctx2} (hG : XOk G) {f : FuncId} {fn : Func} (hf : G.P.funcs[f]? = some fn) {F : Spec}
    (hF : ∀ args h r, (F args h).eval = some r → ∃ d ℓ, LoopsSem G h.length ℓ ∧ (lfun G ℓ d fn args h).eval = some r) : SpecOk G.P f F := by
  intro B args H r H' hF' m w vals hH hB hv
  obtain ⟨d, ℓ, hℓ, he⟩ := hF args H (r, H') hF'
  unfold lfun at he
  split at he
  · cases he
  · rename_i c hc
    refine calls_of_wp hf hc ?_
    rw [Tr.eval_bind] at he
    cases h1 : (lrun G ℓ H.length d c ⟨args ++ List.replicate (fn.ntmps - args.length) (.c .any), H⟩).eval with
    | none => simp [h1] at he
    | some rS =>
      obtain ⟨e, S⟩ := rS
      rw [h1] at he
      simp only [Option.bind_some] at he
      have hlen : args.length = vals.size := by simpa using hv.length
      have hI0 : RI B m H w ⟨args ++ List.replicate (fn.ntmps - args.length) (.c .any), H⟩ { tmps := vals ++ Array.replicate (fn.ntmps - vals.size) undef, defers := [] } w := by
        refine ⟨hB, ⟨m, Step.refl hH, ?_⟩, rfl⟩
        refine ⟨by simp [hlen], fun t v ht => ?_⟩
        rcases Nat.lt_or_ge t args.length with hl | hl
        · simp only at ht
          rw [List.getElem?_append_left hl] at ht
          obtain ⟨y, hy, hr⟩ := hv.get t v ht
          refine ⟨y, ?_, hr⟩
          rw [Array.getElem?_append_left (by rw [← hlen]; exact hl)]
          simpa using hy
        · simp only at ht
          rw [List.getElem?_append_right hl, List.getElem?_replicate] at ht
          split at ht
          · rename_i hlt
            cases ht
            refine ⟨undef, ?_, by simp [VR, CR]⟩
            rw [Array.getElem?_append_right (by rw [← hlen]; exact hl), Array.getElem?_replicate, if_pos (by rw [← hlen]; exact hlt)]
          · cases ht
      have fin : ∀ (e : Ex), ((resL G.T S fn.results.toList).bind fun l => (.ret (renAV (idxIn (closeOf S.h 10000 (refsOf S.h H.length ++ refAV (oneRes l)) (List.range H.length))) (oneRes l), subHeap S.h (closeOf S.h 10000 (refsOf S.h H.length ++ refAV (oneRes l)) (List.range H.length))) : Tr (AV × AHeap))).eval = some (r, H') →
          ∀ a' w', RI B m H w S a' w' → a'.defers = [] ∧ ∃ v, (results fn a'.tmps).run G.P w' = .ok v w' ∧ ∃ m' x, Ending.returned v = .returned x ∧ Step B m H w m' H' w' ∧ VR m' r x := by
        intro _ he a' w' hI
        obtain ⟨_, ⟨mf, hst, hs⟩, hd⟩ := hI
        refine ⟨hd, ?_⟩
        rw [Tr.eval_bind] at he
        cases h2 : (resL G.T S fn.results.toList).eval with
        | none => simp [h2] at he
        | some l =>
          rw [h2] at he
          simp only [Option.bind_some, Tr.eval, Option.some.injEq, Prod.mk.injEq] at he
          obtain ⟨rfl, rfl⟩ := he
          obtain ⟨vs, hr, hvs⟩ := resL_ok hG ⟨hB, ⟨mf, hst, hs⟩, hd⟩ hst hs _ l h2
          refine ⟨_, ?_, _, _, rfl, hst.sub hH.len, VR.ren (subPl_ren _) (oneRes_ok hvs)⟩
          rw [results_eq]
          simp only [Sem.run_bind, Array.mapM_eq_mapM_toList]
          have hmap : (List.toArray <$> (fn.results.toList.mapM (resRun a'.tmps))).run G.P w' = .ok vs.toArray w' := by
            rw [← bind_pure_comp, Sem.run_bind, hr]
            rfl
          rw [hmap]
          rfl
      have hfin := lrun_sem hG hℓ d c _ e S h1 B m H w _ w rfl hH.len hI0
      cases e with
      | normal => exact hfin _ fun a' w' hI => fin .normal he a' w' hI
      | exit id => cases he
      | ret => exact hfin _ fun a' w' hI => fin .ret he a' w' hI

/-- A spec of a function out of what its code comes to, its loops being told. -/
theorem knownS {K : Known} (hK : KnownOk K) {f : Nat} {fn : Func} (hf : Try.prog.funcs[f]? = some fn) {F : Spec}
    (h : ∀ args h r, (F args h).eval = some r → ∃ keep ts d ℓ, LoopsSem (GT K keep 0 ts) h.length ℓ ∧ (lfun (GT K keep 0 ts) ℓ d fn args h).eval = some r) : SpecOk Try.prog f F :=
  fun B args h' r H' he => by
    obtain ⟨keep, ts, d, ℓ, hℓ, he'⟩ := h _ _ _ he
    exact lfun_spec (F := fun a hh => .need (yes (a = args ∧ hh = h')) (.ret (r, H'))) (GT_ok hK keep 0 ts) hf (fun a hh r' hr => by
      obtain ⟨⟨e1, e2⟩, e3⟩ := (Tr.eval_ask (p := a = args ∧ hh = h') (t := .ret (r, H'))).1 hr
      subst e1 e2
      rw [Tr.eval_ret] at e3
      cases e3
      exact ⟨d, ℓ, hℓ, he'⟩) B args h' r H' (Tr.eval_ask.2 ⟨⟨rfl, rfl⟩, rfl⟩)

noncomputable def trueS (K : Known) (fn : Func) : Spec := fun args h => .need (yes (∃ keep ts d ℓ, LoopsSem (GT K keep 0 ts) h.length ℓ ∧ (lfun (GT K keep 0 ts) ℓ d fn args h).eval = some (Bo true, h))) (.ret (Bo true, h))
theorem trueS_ok {K : Known} (hK : KnownOk K) {f : Nat} {fn : Func} (hf : Try.prog.funcs[f]? = some fn) : SpecOk Try.prog f (trueS K fn) := by
  refine knownS hK hf fun args h r he => ?_
  obtain ⟨h1, he⟩ := Tr.eval_ask.1 he
  cases he
  exact h1
end
section
open Go Go.RowKit Go.ChangeShapes Go.WideShapes Go.ChangeAt
def headNums : List Nat := [104, 97, 114, 110, 101, 115, 115, 32, 48, 53, 49, 54, 98, 53, 97, 48, 101, 48, 54, 50, 102, 51, 97, 50, 102, 98, 54, 50, 56, 49, 54, 48, 102, 53, 54, 56, 52, 53, 52, 57, 99, 102, 51, 99, 52, 51, 48, 97, 51, 99, 97, 97, 53, 55, 102, 57, 56, 55, 52, 52, 52, 102, 52, 102, 101, 53, 51, 97, 100, 56, 48, 98, 32, 99, 117, 116, 32, 97, 116, 32, 113, 117, 111, 105, 110, 47, 113, 117, 111, 105, 110, 108, 97, 119, 49, 53, 46, 70, 111, 108, 100, 66, 111, 117, 110, 100, 115, 32, 113, 117, 111, 105, 110, 47, 113, 117, 111, 105, 110, 108, 97, 119, 49, 53, 46, 70, 111, 108, 100, 84, 101, 108, 108, 115, 32, 113, 117, 111, 105, 110, 47, 113, 117, 111, 105, 110, 108, 97, 119, 57, 46, 71, 97, 117, 103, 66, 121, 116, 101, 115, 32, 113, 117, 111, 105, 110, 47, 113, 117, 111, 105, 110, 108, 97, 119, 57, 46, 71, 97, 117, 103, 84, 101, 108, 108, 115, 32, 113, 117, 111, 105, 110, 47, 113, 117, 111, 105, 110, 108, 97, 119, 57, 46, 71, 97, 117, 103, 80, 97, 114, 116, 115, 32, 113, 117, 111, 105, 110, 47, 113, 117, 111, 105, 110, 108, 97, 119, 50, 46, 82, 101, 99, 116, 69, 100, 103, 101, 115, 32, 113, 117, 111, 105, 110, 47, 113, 117, 111, 105, 110, 108, 97, 119, 50, 46, 82, 101, 99, 116, 74, 111, 105, 110, 115, 32, 113, 117, 111, 105, 110, 47, 113, 117, 111, 105, 110, 108, 97, 119, 50, 46, 82, 101, 99, 116, 84, 101, 108, 108, 115, 32, 113, 117, 111, 105, 110, 47, 113, 117, 111, 105, 110, 108, 97, 119, 50, 46, 82, 101, 99, 116, 80, 111, 105, 110, 116, 115, 32, 113, 117, 111, 105, 110, 47, 113, 117, 111, 105, 110, 108, 97, 119, 49, 54, 46, 83, 116, 97, 107, 79, 112, 101, 110, 115, 32, 113, 117, 111, 105, 110, 47, 113, 117, 111, 105, 110, 108, 97, 119, 49, 54, 46, 83, 116, 97, 107, 82, 105, 115, 101, 115, 32, 113, 117, 111, 105, 110, 47, 113, 117, 111, 105, 110, 108, 97, 119, 49, 54, 46, 83, 116, 97, 107, 84, 101, 108, 108, 115, 32, 113, 117, 111, 105, 110, 47, 113, 117, 111, 105, 110, 108, 97, 119, 49, 54, 46, 83, 116, 97, 107, 77, 101, 101, 116, 115, 32, 113, 117, 111, 105, 110, 47, 113, 117, 111, 105, 110, 108, 97, 119, 49, 54, 46, 83, 116, 97, 107, 69, 109, 112, 116, 121, 32, 113, 117, 111, 105, 110, 47, 113, 117, 111, 105, 110, 108, 97, 119, 50, 48, 46, 67, 114, 111, 115, 70, 105, 108, 108, 115, 32, 113, 117, 111, 105, 110, 47, 113, 117, 111, 105, 110, 108, 97, 119, 50, 48, 46, 67, 114, 111, 115, 76, 105, 110, 101, 115, 32, 113, 117, 111, 105, 110, 47, 113, 117, 111, 105, 110, 108, 97, 119, 50, 48, 46, 67, 114, 111, 115, 84, 101, 108, 108, 115, 32, 113, 117, 111, 105, 110, 47, 113, 117, 111, 105, 110, 108, 97, 119, 50, 48, 46, 67, 114, 111, 115, 87, 105, 116, 104, 105, 110, 32, 113, 117, 111, 105, 110, 47, 113, 117, 111, 105, 110, 108, 97, 119, 49, 48, 46, 87, 104, 105, 116, 80, 97, 114, 116, 115, 32, 113, 117, 111, 105, 110, 47, 113, 117, 111, 105, 110, 108, 97, 119, 49, 48, 46, 87, 104, 105, 116, 72, 111, 108, 100, 115, 32, 113, 117, 111, 105, 110, 47, 113, 117, 111, 105, 110, 108, 97, 119, 49, 48, 46, 87, 104, 105, 116, 84, 101, 108, 108, 115, 32, 113, 117, 111, 105, 110, 47, 113, 117, 111, 105, 110, 108, 97, 119, 49, 48, 46, 87, 104, 105, 116, 82, 111, 119, 115, 32, 113, 117, 111, 105, 110, 47, 113, 117, 111, 105, 110, 108, 97, 119, 49, 48, 46, 87, 104, 105, 116, 80, 114, 101, 32, 113, 117, 111, 105, 110, 47, 113, 117, 111, 105, 110, 108, 97, 119, 49, 49, 46, 66, 114, 107, 87, 111, 114, 100, 115, 32, 113, 117, 111, 105, 110, 47, 113, 117, 111, 105, 110, 108, 97, 119, 49, 49, 46, 66, 114, 107, 87, 104, 111, 108, 101, 32, 113, 117, 111, 105, 110, 47, 113, 117, 111, 105, 110, 108, 97, 119, 49, 49, 46, 66, 114, 107, 84, 101, 108, 108, 115, 32, 113, 117, 111, 105, 110, 47, 113, 117, 111, 105, 110, 108, 97, 119, 49, 49, 46, 66, 114, 107, 70, 117, 108, 108, 32, 113, 117, 111, 105, 110, 47, 113, 117, 111, 105, 110, 108, 97, 119, 49, 49, 46, 66, 114, 107, 76, 101, 97, 115, 116, 32, 113, 117, 111, 105, 110, 47, 113, 117, 111, 105, 110, 108, 97, 119, 49, 50, 46, 82, 111, 119, 72, 101, 105, 103, 104, 116, 115, 32, 113, 117, 111, 105, 110, 47, 113, 117, 111, 105, 110, 108, 97, 119, 49, 50, 46, 82, 111, 119, 82, 111, 111, 109, 32, 113, 117, 111, 105, 110, 47, 113, 117, 111, 105, 110, 108, 97, 119, 49, 50, 46, 82, 111, 119, 80, 105, 101, 99, 101, 115, 32, 113, 117, 111, 105, 110, 47, 113, 117, 111, 105, 110, 108, 97, 119, 49, 50, 46, 82, 111, 119, 84, 101, 108, 108, 115, 32, 113, 117, 111, 105, 110, 47, 113, 117, 111, 105, 110, 108, 97, 119, 49, 50, 46, 82, 111, 119, 83, 116, 97, 110, 100, 115, 32, 113, 117, 111, 105, 110, 47, 113, 117, 111, 105, 110, 108, 97, 119, 49, 50, 46, 82, 111, 119, 65, 108, 105, 103, 110, 115, 32, 113, 117, 111, 105, 110, 47, 113, 117, 111, 105, 110, 108, 97, 119, 50, 53, 46, 87, 105, 114, 101, 76, 111, 110, 103, 32, 113, 117, 111, 105, 110, 47, 113, 117, 111, 105, 110, 108, 97, 119, 50, 53, 46, 87, 105, 114, 101, 84, 101, 108, 108, 115, 32, 113, 117, 111, 105, 110, 47, 113, 117, 111, 105, 110, 108, 97, 119, 50, 53, 46, 87, 105, 114, 101, 66, 97, 99, 107]
theorem head_str : Try.prog.initOrder = String.ofList (headNums.map Char.ofNat) := by kernel_rfl
theorem head_list : Try.prog.initOrder.toList = headNums.map Char.ofNat := by
  rw [head_str, String.toList_ofList]
theorem head_words : ∃ T, behindMainWord (wordsSigns Try.prog.initOrder.toList) = "cut".toList :: T :=
  ⟨(behindMainWord (wordsSigns (headNums.map Char.ofNat))).tail, by rw [head_list]; kernel_rfl⟩
theorem strip_cut (T : List (List Char)) : stripLifts liftWords ("cut".toList :: T) = ([], "cut".toList :: T) := by kernel_rfl
section
variable {P : Program} {T : List (List Char)}
theorem headLifts_of (h : behindMainWord (wordsSigns P.initOrder.toList) = "cut".toList :: T) : P.headLifts = [] := by
  unfold Program.headLifts
  rw [h, strip_cut]
  kernel_rfl
theorem mayEnter_of (h : behindMainWord (wordsSigns P.initOrder.toList) = "cut".toList :: T) (h1 : P.laysLater = false) (h2 : P.bearsReflect = false) (h3 : P.doorRows = []) : P.mayEnter = true := by
  unfold Program.mayEnter Program.doorFits
  rw [h]
  simp only [strip_cut, h1, h2, h3]
  simp
theorem liftsFinal_of (h : behindMainWord (wordsSigns P.initOrder.toList) = "cut".toList :: T) : P.liftsFinal = false := by
  have hl := headLifts_of h
  unfold Program.liftsFinal
  rw [h, hl]
  simp
theorem make_of (h : behindMainWord (wordsSigns P.initOrder.toList) = "cut".toList :: T) : P.make = some .cut := by
  have hl := headLifts_of h
  unfold Program.make
  rw [h]
  simp only [hl]
  simp
end
theorem laysLater_ok : Try.prog.laysLater = false := by kernel_rfl
theorem bearsReflect_ok : Try.prog.bearsReflect = false := by kernel_rfl
theorem doorRows_ok : Try.prog.doorRows = [] := by kernel_rfl
theorem mayEnter_ok : Try.prog.mayEnter = true := head_words.elim fun _ h => mayEnter_of h laysLater_ok bearsReflect_ok doorRows_ok
theorem liftsFinal_ok : Try.prog.liftsFinal = false := head_words.elim fun _ h => liftsFinal_of h
theorem make_ok : Try.prog.make = some .cut := head_words.elim fun _ h => make_of h
end
end Go.Proofs.Ytcpahifgdppkbaa.QAI
