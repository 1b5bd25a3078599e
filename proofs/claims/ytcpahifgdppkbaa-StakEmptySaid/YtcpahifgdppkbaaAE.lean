/- A region that draws its order, second half. -/
import Derived.Test.YtcpahifgdppkbaaAD
set_option linter.unusedVariables false
set_option linter.unusedSimpArgs false
namespace Go.Proofs.Ytcpahifgdppkbaa.QAI
open Go Go.RowKit

structure RunOk (G : Ctx2) (ops : Array Oper) (π : List Nat) (l : Log) (st : Nat → St) : Prop where
  ord : OrdOk ops π
  stp : ∀ (p i : Nat), π[p]? = some i → StepAt G ops l i (st p) (st (p + 1))
  log : logOk ops l = true

section
variable {G : Ctx2} {ops : Array Oper} {π : List Nat} {l : Log} {st : Nat → St} {m m0 : List Pl} {h0 : AHeap} {w w0 : World} {B : Nat} {a : Act}

theorem OrdOk.at_ (h : OrdOk ops π) {i : Nat} (hi : i < ops.size) : π.idxOf i < ops.size ∧ π[π.idxOf i]? = some i := by
  have hlt := List.idxOf_lt_length_iff.2 (h.mem i hi)
  exact ⟨by rw [← h.len]; exact hlt, by rw [List.getElem?_eq_getElem hlt, List.getElem_idxOf]⟩
theorem OrdOk.of_pos (h : OrdOk ops π) {p : Nat} (hp : p < ops.size) : ∃ i, i < ops.size ∧ π[p]? = some i ∧ π.idxOf i = p := by
  refine ⟨π.getD p 0, h.lt p hp, ?_, h.inj p hp⟩
  rw [List.getD_eq_getElem?_getD, List.getElem?_eq_getElem (by rw [h.len]; exact hp)]
  rfl

/-- One step's slots and heap. -/
theorem StepAt.put {i : Nat} {S S' : St} (h : StepAt G ops l i S S') : ∃ o v, ops[i]? = some o ∧ S'.sl = putA S.sl o.dst v := by
  obtain ⟨o, ho, h | h⟩ := h
  · obtain ⟨_, he, _⟩ := h
    rw [stepOp_def] at he
    split at he
    · rw [Tr.eval_bind] at he
      cases h1 : (alight G.toCtx o (evs S.sl) S.h).eval with
      | none => simp [h1] at he
      | some v =>
        rw [h1] at he
        simp only [Option.bind_some, Tr.eval, Option.some.injEq] at he
        exact ⟨o, v, ho, by rw [← he]⟩
    · rw [Tr.eval_bind] at he
      cases h1 : (aheavy G o (evs S.sl) S.h).eval with
      | none => simp [h1] at he
      | some v =>
        rw [h1] at he
        simp only [Option.bind_some, Tr.eval, Option.some.injEq] at he
        exact ⟨o, v.1, ho, by rw [← he]⟩
  · exact ⟨o, _, ho, by rw [h.2]; rfl⟩

theorem shEq_trans {x y z : Option ABlk} (h : shEq x y = true) (h' : shEq y z = true) : shEq x z = true := by
  rcases shEq_cases h with ⟨rfl, rfl⟩ | ⟨b, b', rfl, rfl, h1, h2⟩
  · exact h'
  · rcases shEq_cases h' with ⟨h3, _⟩ | ⟨c, c', h3, rfl, h4, h5⟩
    · cases h3
    · cases h3
      simp only [shEq, Bool.and_eq_true, h1, h2, h4, h5]
      exact ⟨Nat.beq_refl _, Nat.beq_refl _⟩
theorem shEq_symm {x y : Option ABlk} (h : shEq x y = true) : shEq y x = true := by
  rcases shEq_cases h with ⟨rfl, rfl⟩ | ⟨b, b', rfl, rfl, h1, h2⟩
  · rfl
  · simp only [shEq, Bool.and_eq_true, h1, h2]
    exact ⟨Nat.beq_refl _, Nat.beq_refl _⟩
theorem refAVs_map {ρ : Operand → AV} {s : Operand} {l : List Operand} (h : s ∈ l) : ∀ id ∈ refAV (ρ s), id ∈ refAVs (l.map ρ) := refAVs_mem (List.mem_map.2 ⟨s, h, rfl⟩)
theorem writes_reach {o : Oper} {ρ : Operand → AV} {h : AHeap} : ∀ id ∈ writesOf o ρ h, id ∈ reachOf o ρ h := by
  intro id hid
  unfold writesOf at hid
  unfold reachOf
  split at hid
  · exact hid
  · split at hid
    · rename_i s r ha
      exact refAVs_map (by rw [ha]; simp) id hid
    · cases hid
  · exact hid
  · cases hid

theorem StepAt.heap {i : Nat} {S S' : St} (h : StepAt G ops l i S S') : ∃ o, ops[i]? = some o ∧ (isLight o.op = true → S'.h = S.h) ∧ S.h.length ≤ S'.h.length ∧
    (isLight o.op = false → isQuiet o.op = true → S'.h = S.h ∨ ((i, S.h.length) ∈ l.quiets ∧ ∃ b, S'.h = S.h ++ [some b])) ∧
    (∀ id, id < S.h.length → (Loud o → ∀ ws bs rc, (i, ws, bs, rc) ∈ l.louds → id ∉ ws) → S'.h[id]? = S.h[id]?) ∧
    (∀ id, id < S.h.length → (Loud o → ∀ ws bs rc, (i, ws, bs, rc) ∈ l.louds → id ∉ bs) → shEq (S.h.at id) (S'.h.at id) = true) := by
  obtain ⟨o, ho, h | h⟩ := h
  · obtain ⟨_, he, hl⟩ := h
    rw [stepOp_def] at he
    split at he
    · rename_i hlt
      rw [Tr.eval_bind] at he
      cases h1 : (alight G.toCtx o (evs S.sl) S.h).eval with
      | none => simp [h1] at he
      | some v =>
        rw [h1] at he
        simp only [Option.bind_some, Tr.eval, Option.some.injEq] at he
        subst he
        exact ⟨o, ho, fun _ => rfl, Nat.le_refl _, fun _ _ => .inl rfl, fun _ _ _ => rfl, fun _ _ _ => shEq_refl _⟩
    · rename_i hlt
      rw [Tr.eval_bind] at he
      cases h1 : (aheavy G o (evs S.sl) S.h).eval with
      | none => simp [h1] at he
      | some v =>
        obtain ⟨v, h'⟩ := v
        rw [h1] at he
        simp only [Option.bind_some, Tr.eval, Option.some.injEq] at he
        subst he
        have hlt' : isLight o.op = false := by simpa using hlt
        obtain ⟨hle, hk⟩ := aheavy_keeps h1
        cases hq : isQuiet o.op with
        | true =>
          obtain ⟨b, mk, rfl, _, _, _⟩ := quiet_form hq h1
          refine ⟨o, ho, fun h => absurd h hlt, by simp, fun _ _ => .inr ⟨hl.2.2.1 hlt' hq, b, rfl⟩, fun id hid _ => List.getElem?_append_left hid, fun id hid _ => ?_⟩
          unfold AHeap.at
          simp only
          rw [List.getElem?_append_left hid]
          exact shEq_refl _
        | false =>
          obtain ⟨t, hte, hlog⟩ := hl.2.2.2 ⟨hlt', hq⟩
          cases t with
          | true =>
            have hsame : ∀ id, id < S.h.length → h'[id]? = S.h[id]? := fun id hid => by
              by_cases hw : id ∈ writesOf o (evs S.sl) S.h
              · exact hte rfl id hw
              · exact hk id hid hw
            refine ⟨o, ho, fun h => absurd h hlt, hle, fun _ h => absurd h (by rw [hq]; simp), fun id hid _ => hsame id hid, fun id hid _ => ?_⟩
            have := hsame id hid
            unfold AHeap.at
            simp only
            rw [this]
            exact shEq_refl _
          | false =>
          have hlog : (i, writesOf o (evs S.sl) S.h, breaksOf (writesOf o (evs S.sl) S.h) S.h _, reachOf o (evs S.sl) S.h) ∈ l.louds := hlog
          refine ⟨o, ho, fun h => absurd h hlt, hle, fun _ h => absurd h (by rw [hq]; simp), fun id hid hn => hk id hid (hn ⟨hlt', hq⟩ _ _ _ hlog), fun id hid hn => ?_⟩
          have hnb := hn ⟨hlt', hq⟩ _ _ _ hlog
          by_cases hw : id ∈ writesOf o (evs S.sl) S.h
          · cases hs : shEq (S.h.at id) (AHeap.at h' id) with
            | true => rfl
            | false => exact absurd (List.mem_filter.2 ⟨hw, by simp only; rw [hs]; rfl⟩) hnb
          · have := hk id hid hw
            unfold AHeap.at
            simp only
            rw [this]
            exact shEq_refl _
  · exact ⟨o, ho, fun _ => by rw [h.2]; rfl, by rw [h.2]; exact Nat.le_refl _, fun _ _ => .inl (by rw [h.2]; rfl), fun _ _ _ => by rw [h.2]; rfl, fun _ _ _ => by rw [h.2]; exact shEq_refl _⟩

def SlotIs (ops : Array Oper) (π : List Nat) (st : Nat → St) (D : Nat → Prop) (t : Nat) (v : AV) : Prop :=
  (∃ (j : Nat) (o : Oper), D j ∧ ops[j]? = some o ∧ o.dst = some t ∧ v = (st (π.idxOf j + 1)).sl.getD t (.c .any)) ∨ ((∀ (j : Nat) o, D j → ops[j]? = some o → o.dst ≠ some t) ∧ v = (st 0).sl.getD t (.c .any))

theorem SlotIs.agree (h : OrdOk ops π) {D D' : Nat → Prop} {t : Nat} {v v' : AV} (hd : ∀ (j : Nat) o, ops[j]? = some o → o.dst = some t → (D j ↔ D' j)) (h1 : SlotIs ops π st D t v) (h2 : SlotIs ops π st D' t v') : v = v' := by
  rcases h1 with ⟨j, o, hj, ho, hdst, rfl⟩ | ⟨hn, rfl⟩ <;> rcases h2 with ⟨j', o', hj', ho', hdst', rfl⟩ | ⟨hn', rfl⟩
  · have := h.dst j j' o o' t ho ho' hdst hdst'
    subst this
    rfl
  · exact absurd hdst (hn' j o ((hd j o ho hdst).1 hj) ho)
  · exact absurd hdst' (hn j' o' ((hd j' o' ho' hdst').2 hj') ho')
  · rfl
theorem SlotIs.has (D : Nat → Prop) (t : Nat) : ∃ v, SlotIs ops π st D t v := by
  by_cases hx : ∃ (j : Nat) (o : Oper), D j ∧ ops[j]? = some o ∧ o.dst = some t
  · obtain ⟨j, o, h1, h2, h3⟩ := hx
    exact ⟨_, .inl ⟨j, o, h1, h2, h3, rfl⟩⟩
  · exact ⟨_, .inr ⟨fun j o h1 h2 h3 => hx ⟨j, o, h1, h2, h3⟩, rfl⟩⟩

theorem putA_getD {sl : List AV} {d : Option Tmp} {v : AV} {t : Nat} (h : d ≠ some t) : (putA sl d v).getD t (.c .any) = sl.getD t (.c .any) := by
  cases d with
  | none => rfl
  | some d =>
    have hne : d ≠ t := fun e => h (by rw [e])
    simp only [putA, List.getD_eq_getElem?_getD]
    rw [List.getElem?_set_ne hne]
theorem putA_len {sl : List AV} {d : Option Tmp} {v : AV} : (putA sl d v).length = sl.length := by
  cases d <;> simp [putA]

theorem RunOk.len (R : RunOk G ops π l st) : ∀ p, p ≤ ops.size → (st p).sl.length = (st 0).sl.length
  | 0, _ => rfl
  | p + 1, hp => by
    obtain ⟨i, hi, hpi, _⟩ := R.ord.of_pos (p := p) (by omega)
    obtain ⟨o, v, ho, hs⟩ := (R.stp p i hpi).put
    rw [hs, putA_len]
    exact R.len p (by omega)

theorem RunOk.slot (R : RunOk G ops π l st) : ∀ p, p ≤ ops.size → ∀ t, SlotIs ops π st (fun j => π.idxOf j < p) t ((st p).sl.getD t (.c .any))
  | 0, _, t => .inr ⟨fun j o hj => by omega, rfl⟩
  | p + 1, hp, t => by
    obtain ⟨i, hi, hpi, hpos⟩ := R.ord.of_pos (p := p) (by omega)
    obtain ⟨o, v, ho, hs⟩ := (R.stp p i hpi).put
    by_cases hd : o.dst = some t
    · exact .inl ⟨i, o, by omega, ho, hd, by rw [hpos]⟩
    · rw [hs, putA_getD hd]
      rcases R.slot p (by omega) t with ⟨j, o', hj, ho', hdst, hv⟩ | ⟨hn, hv⟩
      · exact .inl ⟨j, o', by omega, ho', hdst, hv⟩
      · refine .inr ⟨fun j o' hj ho' => ?_, hv⟩
        rcases Nat.lt_or_ge (π.idxOf j) p with hlt | hge
        · exact hn j o' hlt ho'
        · have hje : j = i := by
            have h1 := (R.ord.at_ (getElem?_lt ho')).2
            rw [show π.idxOf j = p by omega, hpi] at h1
            cases h1
            rfl
          subst hje
          rw [ho] at ho'
          cases ho'
          exact hd

theorem RunOk.mono (R : RunOk G ops π l st) (p1 : Nat) : ∀ k, p1 + k ≤ ops.size → (st p1).h.length ≤ (st (p1 + k)).h.length
  | 0, _ => Nat.le_refl _
  | k + 1, hk => by
    obtain ⟨i, hi, hpi, hpos⟩ := R.ord.of_pos (p := p1 + k) (by omega)
    obtain ⟨o, ho, _, hle, _⟩ := (R.stp (p1 + k) i hpi).heap
    exact Nat.le_trans (R.mono p1 k (by omega)) hle
theorem RunOk.keep (R : RunOk G ops π l st) (p1 id : Nat) (hid : id < (st p1).h.length) : ∀ k, p1 + k ≤ ops.size → (∀ q, p1 ≤ q → q < p1 + k → ∀ (i : Nat) o, π[q]? = some i → ops[i]? = some o → Loud o → ∀ ws bs rc, (i, ws, bs, rc) ∈ l.louds → id ∉ ws) →
    (st (p1 + k)).h[id]? = (st p1).h[id]?
  | 0, _, _ => rfl
  | k + 1, hk, hw => by
    obtain ⟨i, hi, hpi, hpos⟩ := R.ord.of_pos (p := p1 + k) (by omega)
    obtain ⟨o, ho, _, _, _, hkp, _⟩ := (R.stp (p1 + k) i hpi).heap
    have ih := R.keep p1 id hid k (by omega) fun q h2 h3 => hw q h2 (by omega)
    have hm := R.mono p1 k (by omega)
    have : (st (p1 + k + 1)).h[id]? = (st (p1 + k)).h[id]? := hkp id (by omega) (hw (p1 + k) (by omega) (by omega) i o hpi ho)
    rw [show p1 + (k + 1) = p1 + k + 1 by omega, this, ih]
theorem RunOk.soft (R : RunOk G ops π l st) (p1 id : Nat) (hid : id < (st p1).h.length) : ∀ k, p1 + k ≤ ops.size → (∀ q, p1 ≤ q → q < p1 + k → ∀ (i : Nat) o, π[q]? = some i → ops[i]? = some o → Loud o → ∀ ws bs rc, (i, ws, bs, rc) ∈ l.louds → id ∉ bs) →
    shEq ((st p1).h.at id) ((st (p1 + k)).h.at id) = true
  | 0, _, _ => shEq_refl _
  | k + 1, hk, hw => by
    obtain ⟨i, hi, hpi, hpos⟩ := R.ord.of_pos (p := p1 + k) (by omega)
    obtain ⟨o, ho, _, _, _, _, hkp⟩ := (R.stp (p1 + k) i hpi).heap
    have ih := R.soft p1 id hid k (by omega) fun q h2 h3 => hw q h2 (by omega)
    have hm := R.mono p1 k (by omega)
    exact shEq_trans ih (hkp id (by omega) (hw (p1 + k) (by omega) (by omega) i o hpi ho))

def Dn (ops : Array Oper) (listed : Array Bool) (j : Nat) : Prop := j < ops.size ∧ listed.getD j false = true

/-- The blocks of the order's first hp operations that are not there yet: those that are made, and look at nothing, and are still to come. -/
def Nt (ops : Array Oper) (π : List Nat) (st : Nat → St) (listed : Array Bool) (hp id : Nat) : Prop :=
  ∃ (i : Nat) (o : Oper), ops[i]? = some o ∧ isLight o.op = false ∧ isQuiet o.op = true ∧ π.idxOf i < hp ∧ ¬ Dn ops listed i ∧ id = (st (π.idxOf i)).h.length ∧ (st (π.idxOf i + 1)).h.length = id + 1

structure RIX (B : Nat) (m0 : List Pl) (h0 : AHeap) (w0 : World) (ops : Array Oper) (π : List Nat) (st : Nat → St) (listed : Array Bool) (a : Act) (w : World) (m : List Pl) (hp : Nat) (k : AHeap) : Prop where
  le : hp ≤ ops.size
  loud : ∀ (j : Nat) o, ops[j]? = some o → Loud o → (Dn ops listed j ↔ π.idxOf j < hp)
  quiet : ∀ (j : Nat) o, ops[j]? = some o → isLight o.op = false → isQuiet o.op = true → Dn ops listed j → π.idxOf j < hp
  nul : Nul (Nt ops π st listed hp) (st hp).h k
  marks : ∀ id, Nt ops π st listed hp id → m[id]? = some mark
  step : Step B m0 h0 w0 m k w
  slots : ∀ t v, SlotIs ops π st (Dn ops listed) t v → t < (st 0).sl.length → ∃ x, a.tmps[t]? = some x ∧ VR m v x

structure RID (B : Nat) (m0 : List Pl) (h0 : AHeap) (w0 : World) (ops : Array Oper) (π : List Nat) (st : Nat → St) (listed : Array Bool) (a : Act) (w : World) : Prop where
  hB : B ≤ w0.heap.size
  def_ : a.defers = []
  size : listed.size = ops.size
  closed : ∀ (j : Nat) o, ops[j]? = some o → Dn ops listed j → ∀ e ∈ o.after, Region.binds .any e = true → Dn ops listed e.on
  len : (st 0).sl.length = a.tmps.size
  low : m0.length ≤ (st 0).h.length
  ex : ∃ m hp k, RIX B m0 h0 w0 ops π st listed a w m hp k

theorem before_dn (h : OrdOk ops π) {listed : Array Bool} (hc : ∀ (j : Nat) o, ops[j]? = some o → Dn ops listed j → ∀ e ∈ o.after, Region.binds .any e = true → Dn ops listed e.on) :
    ∀ (k : Nat) (j i : Nat), π.idxOf j < k → Dn ops listed j → before (predsOf ops.toList) i j = true → Dn ops listed i
  | 0, j, i, hk, _, _ => by omega
  | k + 1, j, i, hk, hj, hb => by
    obtain ⟨o, ho, e, he, hbe, hor⟩ := h.step j hj.1 i hb
    have hd := hc j o ho hj e he hbe
    rcases hor with rfl | hb'
    · exact hd
    · have hpos := (h.pos j hj.1 e.on (h.dir j o ho e he hbe)).2
      exact before_dn h hc k e.on i (by omega) hd hb'

theorem OrdOk.at_pos (h : OrdOk ops π) {p i : Nat} (hp : p < ops.size) (hi : π[p]? = some i) : π.idxOf i = p := by
  obtain ⟨j, _, hj, hpos⟩ := h.of_pos hp
  rw [hi] at hj
  cases hj
  exact hpos

/-- One step further in the order, if it is none that is loud. -/
theorem RIX.bump1 (R : RunOk G ops π l st) {listed : Array Bool} {hp : Nat} {k : AHeap} (I : RIX B m0 h0 w0 ops π st listed a w m hp k) {i : Nat} {o : Oper} (hlt : hp < ops.size) (hi : π[hp]? = some i) (ho : ops[i]? = some o) (hn : ¬ Loud o) :
    ∃ m' k', RIX B m0 h0 w0 ops π st listed a w m' (hp + 1) k' := by
  have hpos := R.ord.at_pos hlt hi
  have hloud : ∀ (j : Nat) o', ops[j]? = some o' → Loud o' → (Dn ops listed j ↔ π.idxOf j < hp + 1) := by
    intro j o' ho' hl
    rw [I.loud j o' ho' hl]
    constructor
    · intro h; omega
    · intro h
      rcases Nat.lt_or_ge (π.idxOf j) hp with h1 | h1
      · exact h1
      · have hj := (R.ord.at_ (getElem?_lt ho')).2
        rw [show π.idxOf j = hp by omega, hi] at hj
        cases hj
        rw [ho] at ho'
        cases ho'
        exact absurd hl hn
  have hquiet : ∀ (j : Nat) o', ops[j]? = some o' → isLight o'.op = false → isQuiet o'.op = true → Dn ops listed j → π.idxOf j < hp + 1 := fun j o' h1 h2 h3 h4 => by
    have := I.quiet j o' h1 h2 h3 h4
    omega
  obtain ⟨o', ho', hlight, _, hq, _⟩ := (R.stp hp i hi).heap
  rw [ho] at ho'
  cases ho'
  have old : ∀ id, Nt ops π st listed hp id → Nt ops π st listed (hp + 1) id := fun id ⟨j, oj, h1, h2, h3, h4, h5⟩ => ⟨j, oj, h1, h2, h3, by omega, h5⟩
  have new : ∀ id, Nt ops π st listed (hp + 1) id → Nt ops π st listed hp id ∨ (id = (st hp).h.length ∧ (st (hp + 1)).h.length = id + 1) := by
    rintro id ⟨j, oj, h1, h2, h3, h4, h5, h6, h7⟩
    rcases Nat.lt_or_ge (π.idxOf j) hp with hj | hj
    · exact .inl ⟨j, oj, h1, h2, h3, hj, h5, h6, h7⟩
    · have : π.idxOf j = hp := by omega
      rw [this] at h6 h7
      exact .inr ⟨h6, h7⟩
  have hcase : (st (hp + 1)).h = (st hp).h ∨ (isLight o.op = false ∧ isQuiet o.op = true ∧ ∃ b, (st (hp + 1)).h = (st hp).h ++ [some b]) := by
    cases hl : isLight o.op with
    | true => exact .inl (hlight hl)
    | false =>
      have hqt : isQuiet o.op = true := by
        cases hq' : isQuiet o.op with
        | true => rfl
        | false => exact absurd ⟨hl, hq'⟩ hn
      rcases hq hl hqt with h | ⟨_, b, h⟩
      · exact .inl h
      · exact .inr ⟨rfl, hqt, b, h⟩
  rcases hcase with hh | ⟨hl, hqt, b, hh⟩
  · have same : ∀ id, Nt ops π st listed (hp + 1) id ↔ Nt ops π st listed hp id := fun id => ⟨fun h => (new id h).elim (fun x => x) fun h' => absurd h'.2 (by rw [hh]; omega), old id⟩
    refine ⟨m, k, ⟨hlt, hloud, hquiet, ⟨by rw [hh]; exact I.nul.len, fun id h => I.nul.off id ((same id).1 h), fun id h => by rw [hh]; exact I.nul.on id fun h' => h ((same id).2 h')⟩, fun id h => I.marks id ((same id).1 h), I.step, I.slots⟩⟩
  · have hnd : ¬ Dn ops listed i := fun hd => by
      have := I.quiet i o ho hl hqt hd
      omega
    have hnew : Nt ops π st listed (hp + 1) (st hp).h.length := ⟨i, o, ho, hl, hqt, by omega, hnd, by rw [hpos], by rw [hpos, hh]; simp⟩
    have hkl := I.nul.len
    have hml := I.step.hr.len
    have hlt1 : ∀ id, Nt ops π st listed hp id → id < k.length := fun id h => (List.getElem?_eq_some_iff.1 (I.nul.off id h)).1
    refine ⟨m ++ [mark], k ++ [none], ⟨hlt, hloud, hquiet, ⟨by rw [hh]; simp [hkl], fun id h => ?_, fun id h => ?_⟩, fun id h => ?_, ⟨I.step.ext.trans (Ext.app _ _), { len := by simp [hml], blk := ?_, apart := ?_ }, I.step.fr, ?_⟩, fun t v hv hlt => ?_⟩⟩
    · rcases new id h with h' | ⟨rfl, _⟩
      · rw [List.getElem?_append_left (hlt1 id h')]
        exact I.nul.off id h'
      · rw [← hkl]
        simp
    · have hne : id ≠ (st hp).h.length := fun e => h (e ▸ hnew)
      rw [hh]
      rcases Nat.lt_or_ge id k.length with h1 | h1
      · rw [List.getElem?_append_left h1, List.getElem?_append_left (by rw [← hkl]; exact h1)]
        exact I.nul.on id fun h' => h (old id h')
      · rw [List.getElem?_eq_none (by simp; omega), List.getElem?_eq_none (by simp; omega)]
    · rcases new id h with h' | ⟨rfl, _⟩
      · rw [List.getElem?_append_left (by rw [hml]; exact hlt1 id h')]
        exact I.marks id h'
      · rw [← hkl, ← hml]
        simp
    · intro id b' p hb hp'
      rcases getElem?_snoc hb with hb | ⟨_, hbe⟩
      · rw [List.getElem?_append_left (by rw [hml]; exact (List.getElem?_eq_some_iff.1 hb).1)] at hp'
        exact (I.step.hr.blk id b' p hb hp').ext (Ext.app _ _)
      · cases hbe
    · intro id id' b1 b2 p1 p2 A1 A2 hne hb1 hb2 ho1 ho2 hp1 hp2 hA1 hA2
      rcases getElem?_snoc hb1 with hb1 | ⟨_, hbe⟩
      · rcases getElem?_snoc hb2 with hb2 | ⟨_, hbe⟩
        · rw [List.getElem?_append_left (by rw [hml]; exact (List.getElem?_eq_some_iff.1 hb1).1)] at hp1
          rw [List.getElem?_append_left (by rw [hml]; exact (List.getElem?_eq_some_iff.1 hb2).1)] at hp2
          exact I.step.hr.apart id id' b1 b2 p1 p2 A1 A2 hne hb1 hb2 ho1 ho2 hp1 hp2 hA1 hA2
        · cases hbe
      · cases hbe
    · intro q hq
      obtain ⟨id, b1, p1, A, hb1, ho1, hp1, hA, rfl⟩ := hq
      rcases getElem?_snoc hb1 with hb1 | ⟨_, hbe⟩
      · rw [List.getElem?_append_left (by rw [hml]; exact (List.getElem?_eq_some_iff.1 hb1).1)] at hp1
        exact I.step.own _ ⟨id, b1, p1, A, hb1, ho1, hp1, hA, rfl⟩
      · cases hbe
    · obtain ⟨x, hx, hr⟩ := I.slots t v hv hlt
      exact ⟨x, hx, VR.ext (Ext.app _ _) hr⟩

theorem RIX.bump (R : RunOk G ops π l st) {listed : Array Bool} : ∀ (n hp : Nat) (m : List Pl) (k : AHeap), ops.size - hp ≤ n → RIX B m0 h0 w0 ops π st listed a w m hp k →
    ∃ m' hp' k', RIX B m0 h0 w0 ops π st listed a w m' hp' k' ∧ ∀ (i : Nat) o, π[hp']? = some i → ops[i]? = some o → Loud o
  | 0, hp, m, k, hn, I => by
    refine ⟨m, hp, k, I, fun i o hi ho => ?_⟩
    have := (List.getElem?_eq_some_iff.1 hi).1
    rw [R.ord.len] at this
    omega
  | n + 1, hp, m, k, hn, I => by
    rcases Nat.lt_or_ge hp ops.size with hlt | hge
    · obtain ⟨i, hil, hi, _⟩ := R.ord.of_pos hlt
      have ho := Array.getElem?_eq_getElem hil
      by_cases hl : Loud ops[i]
      · refine ⟨m, hp, k, I, fun i' o hi' ho' => ?_⟩
        rw [hi] at hi'
        cases hi'
        rw [ho] at ho'
        cases ho'
        exact hl
      · obtain ⟨m', k', I'⟩ := I.bump1 R hlt hi ho hl
        exact RIX.bump R n (hp + 1) m' k' (by omega) I'
    · refine ⟨m, hp, k, I, fun i o hi ho => ?_⟩
      have := (List.getElem?_eq_some_iff.1 hi).1
      rw [R.ord.len] at this
      omega
end
end Go.Proofs.Ytcpahifgdppkbaa.QAI
