/- One operation; a list of operations. -/
import Derived.Test.YtcpahifgdppkbaaA12
import Derived.Tactics
set_option linter.unusedVariables false
set_option linter.unusedSimpArgs false
namespace Go.Proofs.Ytcpahifgdppkbaa.QAI
open Go Go.RowKit

structure XOk (G : Ctx2) : Prop where
  g : GOk G.toCtx
  f : FOk G.toCtx
  mixed : G.P.follows .mixedOrders = true
  σ : ∀ k F, G.σ k = some F → SpecOk G.P k F ∧ ∃ fn, G.P.funcs[k]? = some fn ∧ (fn.name == "runtime.NumGoroutine") = false ∧ fn.body.isNone = false

def SlOk (m : List Pl) (sl : List AV) (tmps : Array Value) : Prop := sl.length = tmps.size ∧ ∀ (t : Nat) v, sl[t]? = some v → ∃ x, tmps[t]? = some x ∧ VR m v x

section
variable {G : Ctx2} {o : Oper} {S S' : St} {m m0 : List Pl} {h h0 : AHeap} {w w0 : World} {B : Nat} {a : Act} {v : AV}

theorem SlOk.getD {sl : List AV} {tmps : Array Value} (hs : SlOk m sl tmps) (t : Nat) : VR m (sl.getD t (.c .any)) (tmps.getD t undef) := by
  rw [List.getD_eq_getElem?_getD]
  cases e : sl[t]? with
  | none => simp [VR, CR]
  | some v =>
    obtain ⟨x, hx, hr⟩ := hs.2 t v e
    have : tmps.getD t undef = x := by
      simp [Array.getD_eq_getD_getElem?, hx]
    rw [this]
    exact hr
theorem SlOk.ops (hs : SlOk m S.sl a.tmps) : OpsOk m (evs S.sl) a.eval := fun x => by
  cases x with
  | tmp t => exact hs.getD t
  | const v => exact VR_ofConst m v
  | global g => exact rfl
  | func f => exact rfl
theorem SlOk.ext {m' : List Pl} {sl : List AV} {tmps : Array Value} (hs : SlOk m sl tmps) (he : Ext m m') : SlOk m' sl tmps :=
  ⟨hs.1, fun t v ht => let ⟨x, hx, hr⟩ := hs.2 t v ht; ⟨x, hx, VR.ext he hr⟩⟩
theorem SlOk.put {sl : List AV} {x : Value} (hs : SlOk m sl a.tmps) (dst : Option Tmp) (hr : VR m v x) : SlOk m (putA sl dst v) (a.put dst x).tmps := by
  cases dst with
  | none => exact hs
  | some d =>
    refine ⟨by simp [putA, Act.put, hs.1], fun t u ht => ?_⟩
    simp only [putA] at ht
    simp only [Act.put]
    by_cases e : t = d
    · subst e
      have hlt : t < sl.length := by simpa using (List.getElem?_eq_some_iff.1 ht).1
      rw [List.getElem?_set_self hlt] at ht
      cases ht
      exact ⟨x, by rw [Array.getElem?_setIfInBounds]; simp [← hs.1, hlt], hr⟩
    · rw [List.getElem?_set_ne (fun e' => e e'.symm)] at ht
      obtain ⟨y, hy, hry⟩ := hs.2 t u ht
      exact ⟨y, by rw [Array.getElem?_setIfInBounds_ne (fun e' => e e'.symm)]; exact hy, hry⟩

/-- How things stand while a function runs: B0 the place where the seat's own blocks begin; m0, h0, w0 as they were when it began. -/
structure RI (B : Nat) (m0 : List Pl) (h0 : AHeap) (w0 : World) (S : St) (a : Act) (w : World) : Prop where
  hB : B ≤ w0.heap.size
  ex : ∃ m, Step B m0 h0 w0 m S.h w ∧ SlOk m S.sl a.tmps
  def_ : a.defers = []

theorem put_defers (a : Act) (d : Option Tmp) (x : Value) : (a.put d x).defers = a.defers := by cases d <;> rfl

/-- What an operation makes. -/
def OpOk (P : Program) (B : Nat) (m : List Pl) (h : AHeap) (w : World) (a : Act) (o : Oper) (v : AV) (h' : AHeap) : Prop :=
  ∀ (K : Act → World → Prop) (Q : Exit → Act → World → Prop), (∀ m' x w', Step B m h w m' h' w' → VR m' v x → K (a.put o.dst x) w') → o.wp P a w K Q

theorem OpOk.of_h {h' : AHeap} (hh : HOk G.P B m h w a.eval o v h') : OpOk G.P B m h w a o v h' := by
  obtain ⟨x, w', m', hr, hst, hv⟩ := hh
  intro K Q hK
  unfold Oper.wp
  rcases hr with hr | ⟨hr, rfl⟩
  · rw [hr]; exact hK m' x w' hst hv
  · rw [hr]; exact hK m' _ w' hst hv

theorem funcOf_some {u : AV} {y : Value} {k : Nat} (h : funcOf u = some k) (hv : VR m u y) : y = .func (.func k) #[] #[] := by
  unfold funcOf at h
  split at h
  · rename_i k' f c
    split at h
    · rename_i hf hc
      simp only [Option.some.injEq] at h
      subst h
      have hf' : f = #[] := by apply Array.ext'; simpa using hf
      have hc' : c = #[] := by apply Array.ext'; simpa using hc
      subst hf'; subst hc'
      exact hv
    · cases h
  · cases h

theorem heavy_ok (hG : XOk G) {ρ : Operand → AV} (hρ : OpsOk m ρ a.eval) (H : HR B m h w) (hB : B ≤ w.heap.size) {h' : AHeap} (he : (aheavy G o ρ h).eval = some (v, h')) : OpOk G.P B m h w a o v h' := by
  unfold aheavy at he
  split at he
  · rename_i t ho
    split at he
    · rename_i ti hti
      simp only [Tr.eval, Option.some.injEq, Prod.mk.injEq] at he
      obtain ⟨rfl, rfl⟩ := he
      exact .of_h (h_alloc hG.g H hB ho hti)
    · cases he
  · rename_i t x ho
    split at he
    · rename_i ti hti
      split at he
      · rename_i c hc
        simp only [Tr.eval, Option.some.injEq, Prod.mk.injEq] at he
        obtain ⟨rfl, rfl⟩ := he
        exact .of_h (h_box hG.g hρ H hB ho hc)
      · cases he
    · cases he
  · rename_i t len ps ho
    split at he
    · rename_i e _ _ _ _ _ _ ht
      split at he
      · rename_i ti hti
        split at he
        · rename_i l hl
          split at he
          · rename_i hc
            simp only [Tr.eval, Option.some.injEq, Prod.mk.injEq] at he
            obtain ⟨rfl, rfl⟩ := he
            exact .of_h (h_buildSlice hG.g hρ H hB ho ht rfl hti hl hc.1 hc.2)
          · cases he
        · cases he
      · cases he
    · cases he
  · rename_i t l c ho
    split at he
    · rename_i e _ _ _ _ _ _ k1 n k2 n' ht hl hc
      split at he
      · rename_i ti hti
        split at he
        · obtain ⟨h1, he⟩ := Tr.eval_need.1 he
          obtain ⟨h2, h3, hv⟩ := need2 he
          simp only [Tr.eval, Option.some.injEq, Prod.mk.injEq] at hv
          obtain ⟨rfl, rfl⟩ := hv
          have e1 : n' = n := by simpa using h2
          subst e1
          exact .of_h (h_makeSlice hG.g hρ H hB ho ht rfl hti hl hc (by simpa using h1) (by simpa using h3))
        · cases he
      · cases he
    · cases he
  · rename_i t p x ho
    rw [Tr.eval_bind] at he
    cases hst : (astore G.T h t (ρ p) (ρ x)).eval with
    | none => simp [hst] at he
    | some h'' =>
      rw [hst] at he
      simp only [Option.bind_some, Tr.eval, Option.some.injEq, Prod.mk.injEq] at he
      obtain ⟨rfl, rfl⟩ := he
      exact .of_h (h_store hG.g hρ H ho hst)
  · rename_i args ts ho
    split at he
    · rename_i s x t t2 ha hts
      exact .of_h (h_append hG.g hρ H hB ho ha hts he)
    · cases he
  · rename_i f args ts ho
    split at he
    · rename_i k hf
      split at he
      · rename_i F hF
        obtain ⟨hsp, fn, hfn, hname, hbody⟩ := hG.σ k F hF
        have hvs : VRs m (args.toList.map ρ) (args.map a.eval).toList := by
          rw [Array.toList_map]
          generalize args.toList = l
          clear he ho
          induction l with
          | nil => simp [VRs]
          | cons x l ih => simp only [List.map_cons, VRs]; exact ⟨hρ x, ih⟩
        have hc := acall_ok hsp H hB hvs he
        have hfv : a.eval f = .func (.func k) #[] #[] := funcOf_some hf (hρ f)
        intro K Q hK
        have hrun : (execOp a.eval o).run G.P w = .ok (.enter k (args.map a.eval)) w := by
          simp only [execOp, ho, resolve, hfv, Deferred.ofValue, Sem.run_bind, Sem.run_pure, Result.andThen_ok, invoke, callFunc, Array.empty_append, Array.append_empty]
          have h1 : ¬ fn.name = "runtime.NumGoroutine" := by simpa using hname
          have h2 : ¬ fn.body = none := by intro e; rw [e] at hbody; simp at hbody
          simp [Sem.run, program, hfn, h1, h2]
        unfold Oper.wp
        rw [hrun, Oper.upon_enter]
        refine hc.mono ?_
        rintro e w' ⟨m', x, rfl, hst, hv⟩
        exact hK m' x w' hst hv
      · cases he
    · cases he
  · cases he

theorem stepOp_ok (hG : XOk G) (hI : RI B m0 h0 w0 S a w) (he : (stepOp G o S).eval = some S') (K : Act → World → Prop) (Q : Exit → Act → World → Prop) (hK : ∀ a' w', RI B m0 h0 w0 S' a' w' → K a' w') : o.wp G.P a w K Q := by
  obtain ⟨hB, ⟨m, hst, hs⟩, hd⟩ := hI
  have hBw : B ≤ w.heap.size := Nat.le_trans hB hst.fr.size
  rw [stepOp_def] at he
  split at he
  · rw [Tr.eval_bind] at he
    cases hl : (alight G.toCtx o (evs S.sl) S.h).eval with
    | none => simp [hl] at he
    | some v =>
      rw [hl] at he
      simp only [Option.bind_some, Tr.eval, Option.some.injEq] at he
      subst he
      obtain ⟨x, hr, hv⟩ := light_ok hG.g hG.f hs.ops hst.hr hl
      unfold Oper.wp
      rw [hr]
      exact hK _ _ ⟨hB, ⟨m, hst, hs.put o.dst hv⟩, by rw [put_defers]; exact hd⟩
  · rw [Tr.eval_bind] at he
    cases hl : (aheavy G o (evs S.sl) S.h).eval with
    | none => simp [hl] at he
    | some vh =>
      obtain ⟨v, h'⟩ := vh
      rw [hl] at he
      simp only [Option.bind_some, Tr.eval, Option.some.injEq] at he
      subst he
      refine heavy_ok hG hs.ops hst.hr hBw hl K Q fun m' x w' hst' hv => hK _ _ ⟨hB, ⟨m', hst.trans hst', (hs.ext hst'.ext).put o.dst hv⟩, by rw [put_defers]; exact hd⟩

theorem RI.skip (hI : RI B m0 h0 w0 S a w) (o : Oper) : RI B m0 h0 w0 (skipOp o S) (a.put o.dst undef) w := by
  obtain ⟨hB, ⟨m, hst, hs⟩, hd⟩ := hI
  exact ⟨hB, ⟨m, hst, hs.put o.dst (rfl : CR m (.v undef) undef)⟩, by rw [put_defers]; exact hd⟩

theorem RI.lit (hI : RI B m0 h0 w0 S a w) {t : Nat} {b : Bool} (ht : S.sl.getD t (.c .any) = .c (.v (.bool b))) : RI B m0 h0 w0 (litB S t b) a w := by
  obtain ⟨hB, ⟨m, hst, hs⟩, hd⟩ := hI
  refine ⟨hB, ⟨m, hst, ?_⟩, hd⟩
  refine ⟨by simp [litB, hs.1], fun u v hu => ?_⟩
  simp only [litB] at hu
  by_cases e : u = t
  · subst e
    have hlt : u < S.sl.length := by simpa using (List.getElem?_eq_some_iff.1 hu).1
    rw [List.getElem?_set_self hlt] at hu
    cases hu
    have hg : S.sl[u]? = some (.c (.v (.bool b))) := by
      rw [List.getD_eq_getElem?_getD, List.getElem?_eq_getElem hlt] at ht
      simp only [Option.getD_some] at ht
      rw [List.getElem?_eq_getElem hlt, ht]
    exact hs.2 u _ hg
  · rw [List.getElem?_set_ne (fun e' => e e'.symm)] at hu
    exact hs.2 u v hu

theorem RI.slot (hI : RI B m0 h0 w0 S a w) (t : Nat) : ∃ m, VR m (S.sl.getD t (.c .any)) (a.tmps.getD t undef) ∧ (t < a.tmps.size ∨ S.sl.getD t (.c .any) = .c .any) := by
  obtain ⟨_, ⟨m, _, hs⟩, _⟩ := hI
  refine ⟨m, hs.getD t, ?_⟩
  rcases Nat.lt_or_ge t a.tmps.size with h | h
  · exact .inl h
  · right
    rw [List.getD_eq_getElem?_getD, List.getElem?_eq_none (by rw [hs.1]; exact h)]
    rfl

/-- What a guard says. -/
theorem RI.bool (hI : RI B m0 h0 w0 S a w) {t : Nat} {b : Bool} (ht : S.sl.getD t (.c .any) = .c (.v (.bool b))) : a.tmps[t]? = some (.bool b) := by
  obtain ⟨m, hv, hor⟩ := hI.slot t
  rw [ht] at hv hor
  rcases hor with hlt | h
  · have hv' : a.tmps.getD t undef = .bool b := hv
    rw [Array.getD_eq_getD_getElem?, Array.getElem?_eq_getElem hlt] at hv'
    rw [Array.getElem?_eq_getElem hlt, ← hv']
    rfl
  · cases h
theorem RI.tuple (hI : RI B m0 h0 w0 S a w) {t : Nat} {vs : Array Value} (ht : S.sl.getD t (.c .any) = .c (.v (.tuple vs))) : a.tmps[t]? = some (.tuple vs) := by
  obtain ⟨m, hv, hor⟩ := hI.slot t
  rw [ht] at hv hor
  rcases hor with hlt | h
  · have hv' : a.tmps.getD t undef = .tuple vs := hv
    rw [Array.getD_eq_getD_getElem?, Array.getElem?_eq_getElem hlt] at hv'
    rw [Array.getElem?_eq_getElem hlt, ← hv']
    rfl
  · cases h

theorem guarded_ok (hG : XOk G) {ops : Array Oper} (hI : RI B m0 h0 w0 S a w) (he : (guarded G ops o S).eval = some S') (K : Act → World → Prop) (Q : Exit → Act → World → Prop) (hK : ∀ a' w', RI B m0 h0 w0 S' a' w' → K a' w') :
    if Region.wanted o (yielded ops a.tmps) then o.wp G.P a w K Q else K (a.put o.dst undef) w := by
  unfold guarded at he
  split at he
  · rename_i hg
    rw [if_pos (by simp [Region.wanted, hg])]
    exact stepOp_ok hG hI he K Q hK
  · rename_i g want hg
    split at he
    · rename_i t ht
      split at he
      · rename_i b hb
        have hy : yielded ops a.tmps g = some b := by
          have := hI.bool hb
          simp [yielded, ht, this]
        have hw : Region.wanted o (yielded ops a.tmps) = (b == want) := by
          simp only [Region.wanted, hg, hy]
          cases b <;> cases want <;> rfl
        rw [Tr.eval_ite] at he
        rw [hw]
        cases b with
        | true =>
          rw [if_pos rfl] at he
          cases want with
          | true =>
            simp only [if_true] at he
            exact stepOp_ok hG (hI.lit hb) he K Q hK
          | false =>
            simp only [Bool.false_eq_true, if_false, Tr.eval, Option.some.injEq] at he
            subst he
            exact hK _ _ ((hI.lit hb).skip o)
        | false =>
          rw [if_neg (by simp)] at he
          cases want with
          | true =>
            simp only [if_true, Tr.eval, Option.some.injEq] at he
            subst he
            exact hK _ _ ((hI.lit hb).skip o)
          | false =>
            simp only [Bool.false_eq_true, if_false] at he
            exact stepOp_ok hG (hI.lit hb) he K Q hK
      · rename_i vs hb
        have hy : yielded ops a.tmps g = none := by
          have := hI.tuple hb
          simp [yielded, ht, this]
        have hw : Region.wanted o (yielded ops a.tmps) = false := by
          simp only [Region.wanted, hg, hy]
          rfl
        rw [hw]
        simp only [Tr.eval, Option.some.injEq] at he
        subst he
        exact hK _ _ (hI.skip o)
      · cases he
    · cases he

theorem regSeq_ok (hG : XOk G) {ops : Array Oper} {Q : Exit → Act → World → Prop} : ∀ (l : List Oper) (S : St) (a : Act) (w : World), RI B m0 h0 w0 S a w → (regSeq G ops l S).eval = some S' → (∀ a' w', RI B m0 h0 w0 S' a' w' → Q .normal a' w') →
    wpList G.P ops Q l a w
  | [], S, a, w, hI, he, hK => by
    simp only [regSeq, Tr.eval, Option.some.injEq] at he
    subst he
    exact hK a w hI
  | o :: l, S, a, w, hI, he, hK => by
    simp only [regSeq, Tr.eval_bind] at he
    cases hg : (guarded G ops o S).eval with
    | none => simp [hg] at he
    | some S1 =>
      rw [hg] at he
      simp only [Option.bind_some] at he
      refine wpList_step fun K hKK => guarded_ok hG hI hg K Q fun a' w' hI' => hKK a' w' (regSeq_ok hG l S1 a' w' hI' he hK)
end
end Go.Proofs.Ytcpahifgdppkbaa.QAI
