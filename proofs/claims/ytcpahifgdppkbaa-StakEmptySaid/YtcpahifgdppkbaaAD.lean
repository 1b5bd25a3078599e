/- A region that draws its order: whatever order is drawn, it comes to what the eager order comes to. -/
import Derived.Test.YtcpahifgdppkbaaAP
set_option linter.unusedVariables false
set_option linter.unusedSimpArgs false
namespace Go.Proofs.Ytcpahifgdppkbaa.QAI
open Go Go.RowKit

/-- An operation that turns memory, or looks at it and makes some. -/
def Loud (o : Oper) : Prop := isLight o.op = false ∧ isQuiet o.op = false

structure OrdOk (ops : Array Oper) (π : List Nat) : Prop where
  len : π.length = ops.size
  mem : ∀ i, i < ops.size → i ∈ π
  inj : ∀ p, p < ops.size → π.idxOf (π.getD p 0) = p
  lt : ∀ p, p < ops.size → π.getD p 0 < ops.size
  dir : ∀ (j : Nat) o, ops[j]? = some o → ∀ e ∈ o.after, Region.binds .any e = true → before (predsOf ops.toList) e.on j = true
  step : ∀ j, j < ops.size → ∀ i, before (predsOf ops.toList) i j = true → ∃ o, ops[j]? = some o ∧ ∃ e ∈ o.after, Region.binds .any e = true ∧ (e.on = i ∨ before (predsOf ops.toList) i e.on = true)
  pos : ∀ j, j < ops.size → ∀ i, before (predsOf ops.toList) i j = true → i < ops.size ∧ π.idxOf i < π.idxOf j
  dst : ∀ (i j : Nat) o o' x, ops[i]? = some o → ops[j]? = some o' → o.dst = some x → o'.dst = some x → i = j
  look : ∀ (i j : Nat) o o' y, i ≠ j → ops[i]? = some o → ops[j]? = some o' → o'.dst = some y → y ∈ looksAt ops o → before (predsOf ops.toList) j i = true ∨ before (predsOf ops.toList) i j = true
  heavy : ∀ (i j : Nat) o o', i ≠ j → ops[i]? = some o → ops[j]? = some o' → Loud o → Loud o' → before (predsOf ops.toList) i j = true ∨ before (predsOf ops.toList) j i = true
  quiet : ∀ (i j : Nat) o o', ops[i]? = some o → ops[j]? = some o' → isQuiet o.op = true → Loud o' → π.idxOf j < π.idxOf i → before (predsOf ops.toList) j i = true

theorem getElem?_lt {ops : Array Oper} {i : Nat} {o : Oper} (h : ops[i]? = some o) : i < ops.size := (Array.getElem?_eq_some_iff.1 h).1

theorem orderOk_ok {ops : Array Oper} {π : List Nat} (h : orderOk ops π = true) : OrdOk ops π := by
  simp only [orderOk, orderOkP, natL_eq, Bool.and_eq_true] at h
  obtain ⟨⟨⟨⟨⟨⟨h1, h2⟩, h3⟩, h4⟩, h5⟩, h6⟩, h7⟩ := h
  have hlen : π.length = ops.size := Nat.eq_of_beq_eq_true h1
  have hsz : ops.size < 4095 := by simpa [Nat.blt_eq] using h2
  obtain ⟨hPl, hP⟩ := preds_get h3
  obtain ⟨w1, w2, w3, w4⟩ := walkPi_ok _ _ h4
  obtain ⟨_, hd⟩ := dstsOk_ok _ _ h5
  have hmem : ∀ i, i < ops.size → i ∈ π := fun i hi => by
    rcases w3 i hi with h | h
    · rw [Nat.zero_testBit] at h; cases h
    · exact h
  have hidx : ∀ (p q : Nat), π[p]? = some q → π.idxOf q = p := fun p q hq => by
    have hm := List.mem_of_getElem? hq
    have hlt := List.idxOf_lt_length_iff.2 hm
    exact nodup_inj w2 (by rw [List.getElem?_eq_getElem hlt, List.getElem_idxOf]) hq
  have hget : ∀ p, p < ops.size → π[p]? = some (π.getD p 0) := fun p hp => by
    rw [List.getD_eq_getElem?_getD, List.getElem?_eq_getElem (by rw [hlen]; exact hp)]
    rfl
  have hat : ∀ i, i < ops.size → π[π.idxOf i]? = some i := fun i hi => by
    have hlt := List.idxOf_lt_length_iff.2 (hmem i hi)
    rw [List.getElem?_eq_getElem hlt, List.getElem_idxOf]
  have hlist : ∀ (i : Nat) o, ops[i]? = some o → ops.toList[i]? = some o := fun i o h => by simpa using h
  have hbits : ∀ (j : Nat) o, ops[j]? = some o → ∀ i, before (predsOf ops.toList) i j = true ↔ ∃ e ∈ o.after, Region.binds .any e = true ∧ (e.on = i ∨ before (predsOf ops.toList) i e.on = true) := fun j o ho i => by
    unfold before
    rw [(hP j o ho).1, edgeMask_bit]
  have hdefs := defsOf_get ops.toList 0 0 (fun _ => 0) (fun y => by simp [pkAt]) (fun _ _ _ _ _ => rfl) hd (by simpa using hsz)
  refine ⟨hlen, hmem, fun p hp => hidx p _ (hget p hp), fun p hp => (w1 _ (List.mem_of_getElem? (hget p hp))).1, ?_, ?_, ?_, ?_, ?_, ?_, ?_⟩
  · intro j o hj e he hb
    exact (hbits j o hj e.on).2 ⟨e, he, hb, .inl rfl⟩
  · intro j hj i hi
    have ho := Array.getElem?_eq_getElem hj
    exact ⟨_, ho, (hbits j _ ho i).1 hi⟩
  · intro j hj i hi
    obtain ⟨h8, _⟩ := w4 (π.idxOf j) j (hat j hj)
    rcases h8 i hi with h9 | ⟨p', h9, h10⟩
    · rw [Nat.zero_testBit] at h9; cases h9
    · exact ⟨(w1 i (List.mem_of_getElem? h10)).1, by rw [hidx p' i h10]; exact h9⟩
  · intro i j o o' x hi hj hx hx'
    exact hd i j o o' x (hlist i o hi) (hlist j o' hj) hx hx'
  · intro i j o o' y hne hi hj hy hl
    have h8 := hdefs.1 j o' y (hlist j o' hj) hy
    rw [Nat.zero_add] at h8
    have h9 := looksOk_get _ _ _ h6 i o (hlist i o hi) y hl j h8
    rw [Nat.zero_add] at h9
    rcases h9 with h9 | h9 | h9
    · exact absurd h9 hne
    · exact .inl h9
    · exact .inr h9
  · intro i j o o' hne hi hj hl hl'
    have m1 := loudsOf_mem _ 0 i o (hlist i o hi) (by simp [isLoud, hl.1, hl.2])
    have m2 := loudsOf_mem _ 0 j o' (hlist j o' hj) (by simp [isLoud, hl'.1, hl'.2])
    rw [Nat.zero_add] at m1 m2
    exact pairsOk_ok h7 i m1 j m2 hne
  · intro i j o o' hi hj hq hl hlt
    have b1 := maskOf_bit (fun o => isQuiet o.op) _ 0 i o (hlist i o hi) hq
    have b2 := maskOf_bit isLoud _ 0 j o' (hlist j o' hj) (by simp [isLoud, hl.1, hl.2])
    rw [Nat.zero_add] at b1 b2
    exact (w4 (π.idxOf i) i (hat i (getElem?_lt hi))).2 b1 j b2 (.inr ⟨π.idxOf j, hlt, hat j (getElem?_lt hj)⟩)

/-- A guard says yes, says no. -/
def Yes (ops : Array Oper) (o : Oper) (S : St) : Prop := match o.guard with
  | none => True
  | some (g, want) => ∃ t, (ops[g]?).bind (·.dst) = some t ∧ S.sl.getD t (.c .any) = .c (.v (.bool want))
def No (ops : Array Oper) (o : Oper) (S : St) : Prop := match o.guard with
  | none => False
  | some (g, want) => ∃ t, (ops[g]?).bind (·.dst) = some t ∧ (S.sl.getD t (.c .any) = .c (.v (.bool !want)) ∨ ∃ vs, S.sl.getD t (.c .any) = .c (.v (.tuple vs)))

def Logged (i : Nat) (o : Oper) (S S' : St) (l : Log) : Prop := readsIn o S = true ∧ (isLight o.op = true → (i, hardOf o (evs S.sl), softOf o (evs S.sl)) ∈ l.lights) ∧ (isLight o.op = false → isQuiet o.op = true → (i, S.h.length) ∈ l.quiets) ∧
  (Loud o → ∃ t : Bool, (t = true → ∀ id ∈ writesOf o (evs S.sl) S.h, S'.h[id]? = S.h[id]?) ∧ (i, turnsOf t o S, breaksOf (turnsOf t o S) S.h S'.h, reachOf o (evs S.sl) S.h) ∈ l.louds)

def StepAt (G : Ctx2) (ops : Array Oper) (l : Log) (i : Nat) (S S' : St) : Prop :=
  ∃ o, ops[i]? = some o ∧ ((Yes ops o S ∧ (stepOp G o S).eval = some S' ∧ Logged i o S S' l) ∨ (No ops o S ∧ S' = skipOp o S))

def Trace (G : Ctx2) (ops : Array Oper) (l : Log) : List Nat → St → St → Prop
  | [], S, S' => S' = S
  | i :: rest, S, S' => ∃ S1, StepAt G ops l i S S1 ∧ Trace G ops l rest S1 S'

def LogLe (l l' : Log) : Prop := (∀ x ∈ l.lights, x ∈ l'.lights) ∧ (∀ x ∈ l.louds, x ∈ l'.louds) ∧ ∀ x ∈ l.quiets, x ∈ l'.quiets

theorem lit_same {S : St} {t : Nat} {b : Bool} (h : S.sl.getD t (.c .any) = .c (.v (.bool b))) : litB S t b = S := by
  obtain ⟨sl, hp⟩ := S
  simp only [litB]
  congr 1
  simp only at h
  rw [List.getD_eq_getElem?_getD] at h
  apply List.ext_getElem?
  intro i
  by_cases e : i = t
  · subst e
    rcases Nat.lt_or_ge i sl.length with hl | hl
    · rw [List.getElem?_set_self hl, List.getElem?_eq_getElem hl]
      rw [List.getElem?_eq_getElem hl] at h
      simp only [Option.getD_some] at h
      rw [h]
    · rw [List.getElem?_eq_none (by simpa using hl), List.getElem?_eq_none hl]
  · rw [List.getElem?_set_ne (fun e' => e e'.symm)]

theorem stepLog_some {G : Ctx2} {i : Nat} {o : Oper} {S S1 : St} {l l1 : Log} (h : (stepLog G i o S l).eval = some (S1, l1)) : readsIn o S = true ∧ (stepOp G o S).eval = some S1 ∧ ∃ t : Bool, (t = true → ∀ id ∈ writesOf o (evs S.sl) S.h, S1.h[id]? = S.h[id]?) ∧ l1 = logOf t i o S S1 l := by
  unfold stepLog at h
  split at h
  · rename_i hr
    rw [Tr.eval_bind] at h
    cases h1 : (stepOp G o S).eval with
    | none => simp [h1] at h
    | some S' =>
      rw [h1] at h
      simp only [Option.bind_some] at h
      split at h
      · obtain ⟨h2, h⟩ := Tr.eval_need.1 h
        simp only [yes, decide_eq_true_eq] at h2
        simp only [Tr.eval, Option.some.injEq, Prod.mk.injEq] at h
        obtain ⟨rfl, rfl⟩ := h
        exact ⟨hr, rfl, true, fun _ => List.map_inj_left.1 h2, rfl⟩
      · simp only [Tr.eval, Option.some.injEq, Prod.mk.injEq] at h
        obtain ⟨rfl, rfl⟩ := h
        exact ⟨hr, rfl, false, fun e => (by cases e), rfl⟩
  · cases h

theorem logOf_le (t : Bool) (i : Nat) (o : Oper) (S S' : St) (l : Log) : LogLe l (logOf t i o S S' l) := by
  unfold logOf
  split
  · exact ⟨fun x hx => by simp [hx], fun x hx => hx, fun x hx => hx⟩
  · split
    · exact ⟨fun x hx => hx, fun x hx => hx, fun x hx => by simp [hx]⟩
    · exact ⟨fun x hx => hx, fun x hx => by simp [hx], fun x hx => hx⟩
theorem LogLe.trans {a b c : Log} (h : LogLe a b) (k : LogLe b c) : LogLe a c := ⟨fun x hx => k.1 x (h.1 x hx), fun x hx => k.2.1 x (h.2.1 x hx), fun x hx => k.2.2 x (h.2.2 x hx)⟩
theorem logged_of {t : Bool} {i : Nat} {o : Oper} {S S' : St} {l l' : Log} (ht : t = true → ∀ id ∈ writesOf o (evs S.sl) S.h, S'.h[id]? = S.h[id]?) (hr : readsIn o S = true) (h : LogLe (logOf t i o S S' l) l') : Logged i o S S' l' := by
  unfold logOf at h
  refine ⟨hr, fun hl => ?_, fun hl hq => ?_, fun hl => ⟨t, ht, ?_⟩⟩
  · rw [if_pos hl] at h
    exact h.1 _ (by simp)
  · rw [if_neg (by rw [hl]; simp), if_pos hq] at h
    exact h.2.2 _ (by simp)
  · rw [if_neg (by rw [hl.1]; simp), if_neg (by rw [hl.2]; simp)] at h
    exact h.2.1 _ (by simp)

theorem regRun_ok {G : Ctx2} {ops : Array Oper} : ∀ (π : List Nat) (S : St) (l : Log) (S' : St) (l' : Log), (regRun G ops π S l).eval = some (S', l') → LogLe l l' ∧ Trace G ops l' π S S'
  | [], S, l, S', l', h => by
    simp only [regRun, Tr.eval, Option.some.injEq, Prod.mk.injEq] at h
    obtain ⟨rfl, rfl⟩ := h
    exact ⟨⟨fun _ h => h, fun _ h => h, fun _ h => h⟩, rfl⟩
  | i :: rest, S, l, S', l', h => by
    simp only [regRun] at h
    split at h
    · cases h
    · rename_i o ho
      have run : ∀ S0, S0 = S → Yes ops o S → ((stepLog G i o S0 l).bind fun r => regRun G ops rest r.1 r.2).eval = some (S', l') → LogLe l l' ∧ Trace G ops l' (i :: rest) S S' := by
        intro S0 hS hy hh
        subst hS
        rw [Tr.eval_bind] at hh
        cases h1 : (stepLog G i o S0 l).eval with
        | none => simp [h1] at hh
        | some r =>
          obtain ⟨S1, l1⟩ := r
          rw [h1] at hh
          simp only [Option.bind_some] at hh
          obtain ⟨hr, hst, t, hte, rfl⟩ := stepLog_some h1
          obtain ⟨hle, htr⟩ := regRun_ok rest S1 _ S' l' hh
          exact ⟨(logOf_le t i o S0 S1 l).trans hle, S1, ⟨o, ho, .inl ⟨hy, hst, logged_of hte hr hle⟩⟩, htr⟩
      have skip : ∀ S0, S0 = S → No ops o S → (regRun G ops rest (skipOp o S0) l).eval = some (S', l') → LogLe l l' ∧ Trace G ops l' (i :: rest) S S' := by
        intro S0 hS hn hh
        subst hS
        obtain ⟨hle, htr⟩ := regRun_ok rest _ l S' l' hh
        exact ⟨hle, _, ⟨o, ho, .inr ⟨hn, rfl⟩⟩, htr⟩
      split at h
      · rename_i hg
        exact run S rfl (by simp [Yes, hg]) h
      · rename_i g want hg
        split at h
        · rename_i t ht
          split at h
          · rename_i b hb
            rw [Tr.eval_ite] at h
            cases b with
            | true =>
              rw [if_pos rfl] at h
              cases want with
              | true =>
                simp only [if_true] at h
                exact run _ (lit_same hb) (by simp only [Yes, hg]; exact ⟨t, ht, hb⟩) h
              | false =>
                simp only [Bool.false_eq_true, if_false] at h
                exact skip _ (lit_same hb) (by simp only [No, hg]; exact ⟨t, ht, .inl hb⟩) h
            | false =>
              rw [if_neg (by simp)] at h
              cases want with
              | true =>
                simp only [if_true] at h
                exact skip _ (lit_same hb) (by simp only [No, hg]; exact ⟨t, ht, .inl hb⟩) h
              | false =>
                simp only [Bool.false_eq_true, if_false] at h
                exact run _ (lit_same hb) (by simp only [Yes, hg]; exact ⟨t, ht, hb⟩) h
          · rename_i vs hb
            exact skip S rfl (by simp only [No, hg]; exact ⟨t, ht, .inr ⟨vs, hb⟩⟩) h
          · cases h
        · cases h

/-- The states, one behind the other. -/
theorem Trace.states {G : Ctx2} {ops : Array Oper} {l : Log} : ∀ {π : List Nat} {S S' : St}, Trace G ops l π S S' → ∃ st : Nat → St, st 0 = S ∧ st π.length = S' ∧ ∀ (p i : Nat), π[p]? = some i → StepAt G ops l i (st p) (st (p + 1))
  | [], S, S', h => ⟨fun _ => S, rfl, h.symm, fun p i hi => by simp at hi⟩
  | i :: rest, S, S', h => by
    obtain ⟨S1, h1, h2⟩ := h
    obtain ⟨st, e0, en, hst⟩ := Trace.states h2
    refine ⟨fun p => match p with | 0 => S | p + 1 => st p, rfl, en, fun p j hj => ?_⟩
    cases p with
    | zero =>
      simp only [List.getElem?_cons_zero, Option.some.injEq] at hj
      subst hj
      show StepAt G ops l i S (st 0)
      rw [e0]
      exact h1
    | succ p => exact hst p j (by simpa using hj)
end Go.Proofs.Ytcpahifgdppkbaa.QAI
