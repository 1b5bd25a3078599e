/- A region that draws its order, second half. -/
import Derived.Test.YtcpahifgdppkbaaAD
set_option linter.unusedVariables false
set_option linter.unusedSimpArgs false
namespace Go.Proofs.Ytcpahifgdppkbaa.QAI
open Go Go.RowKit

mutual
theorem VR.refs {m : List Pl} : ∀ {v : AV} {y : Value}, VR m v y → ∀ id ∈ refAV v, id < m.length
  | .c x, y, h, id, hid => by
    simp only [VR] at h
    cases x with
    | any => simp [refAV, refAC] at hid
    | v x => simp [refAV, refAC] at hid
    | ptr i a b =>
      simp only [refAV, refAC, List.mem_singleton] at hid
      subst hid
      obtain ⟨p, _, hp, _⟩ := h
      exact (List.getElem?_eq_some_iff.1 hp).1
    | sl i a b =>
      simp only [refAV, refAC, List.mem_singleton] at hid
      subst hid
      obtain ⟨p, _, _, hp, _⟩ := h
      exact (List.getElem?_eq_some_iff.1 hp).1
  | .agg l, y, h, id, hid => by
    simp only [VR] at h
    obtain ⟨cs, _, hF⟩ := h
    simp only [refAV, List.mem_flatMap] at hid
    obtain ⟨c, hc, hid⟩ := hid
    obtain ⟨q, hq⟩ := List.getElem?_of_mem hc
    obtain ⟨z, _, hr⟩ := hF.get q c hq
    cases c with
    | any => simp [refAC] at hid
    | v x => simp [refAC] at hid
    | ptr i a b =>
      simp only [refAC, List.mem_singleton] at hid
      subst hid
      obtain ⟨p, _, hp, _⟩ := hr
      exact (List.getElem?_eq_some_iff.1 hp).1
    | sl i a b =>
      simp only [refAC, List.mem_singleton] at hid
      subst hid
      obtain ⟨p, _, _, hp, _⟩ := hr
      exact (List.getElem?_eq_some_iff.1 hp).1
  | .arr n f, y, h, id, hid => by simp [refAV] at hid
  | .tup l, y, h, id, hid => by
    simp only [VR] at h
    obtain ⟨vs, _, hF⟩ := h
    exact VRs.refs hF id (by simpa [refAV] using hid)
theorem VRs.refs {m : List Pl} : ∀ {l : List AV} {k : List Value}, VRs m l k → ∀ id ∈ refAVs l, id < m.length
  | [], _, _, id, hid => by simp [refAVs] at hid
  | x :: l, [], h, _, _ => by simp [VRs] at h
  | x :: l, y :: k, h, id, hid => by
    simp only [VRs] at h
    simp only [refAVs, List.mem_append] at hid
    rcases hid with hid | hid
    · exact VR.refs h.1 id hid
    · exact VRs.refs h.2 id hid
end

structure RunOk (G : Ctx2) (ops : Array Oper) (π : List Nat) (l : Log) (st : Nat → St) : Prop where
  ord : OrdOk ops π
  stp : ∀ (p i : Nat), π[p]? = some i → StepAt G ops l i (st p) (st (p + 1))
  log : logOk ops l = true

section
variable {G : Ctx2} {ops : Array Oper} {π : List Nat} {l : Log} {st : Nat → St} {m m0 : List Pl} {h0 : AHeap} {w w0 : World} {B : Nat} {a : Act}

theorem OrdOk.at_ (h : OrdOk ops π) {i : Nat} (hi : i < ops.size) : π.idxOf i < ops.size ∧ π[π.idxOf i]? = some i := by
  have hlt := List.idxOf_lt_length_iff.2 (h.mem i hi)
  exact ⟨by rw [← h.len]; exact hlt, by rw [List.getElem?_eq_getElem hlt, List.getElem_idxOf]⟩
theorem OrdOk.of_pos (h : OrdOk ops π) {p : Nat} (hp : p < ops.size) : ∃ i, i < ops.size ∧ π[p]? = some i ∧ π.idxOf i = p := by
  refine ⟨π.getD p 0, h.lt p hp, ?_, h.inj p hp⟩
  rw [List.getD_eq_getElem?_getD, List.getElem?_eq_getElem (by rw [h.len]; exact hp)]
  rfl

/-- One step's slots and heap. -/
theorem StepAt.put {i : Nat} {S S' : St} (h : StepAt G ops l i S S') : ∃ o v, ops[i]? = some o ∧ S'.sl = putA S.sl o.dst v := by
  obtain ⟨o, ho, h | h⟩ := h
  · obtain ⟨_, he, _⟩ := h
    rw [stepOp_def] at he
    split at he
    · rw [Tr.eval_bind] at he
      cases h1 : (alight G.toCtx o (evs S.sl) S.h).eval with
      | none => simp [h1] at he
      | some v =>
        rw [h1] at he
        simp only [Option.bind_some, Tr.eval, Option.some.injEq] at he
        exact ⟨o, v, ho, by rw [← he]⟩
    · rw [Tr.eval_bind] at he
      cases h1 : (aheavy G o (evs S.sl) S.h).eval with
      | none => simp [h1] at he
      | some v =>
        rw [h1] at he
        simp only [Option.bind_some, Tr.eval, Option.some.injEq] at he
        exact ⟨o, v.1, ho, by rw [← he]⟩
  · exact ⟨o, _, ho, by rw [h.2]; rfl⟩

theorem StepAt.heap {i : Nat} {S S' : St} (h : StepAt G ops l i S S') : ∃ o, ops[i]? = some o ∧ (isLight o.op = true → S'.h = S.h) ∧ S.h.length ≤ S'.h.length ∧
    ∀ id, id < S.h.length → (∀ ws, (i, ws) ∈ l.writes → id ∉ ws) → S'.h[id]? = S.h[id]? := by
  obtain ⟨o, ho, h | h⟩ := h
  · obtain ⟨_, he, hl⟩ := h
    rw [stepOp_def] at he
    split at he
    · rename_i hlt
      rw [Tr.eval_bind] at he
      cases h1 : (alight G.toCtx o (evs S.sl) S.h).eval with
      | none => simp [h1] at he
      | some v =>
        rw [h1] at he
        simp only [Option.bind_some, Tr.eval, Option.some.injEq] at he
        subst he
        exact ⟨o, ho, fun _ => rfl, Nat.le_refl _, fun _ _ _ => rfl⟩
    · rename_i hlt
      rw [Tr.eval_bind] at he
      cases h1 : (aheavy G o (evs S.sl) S.h).eval with
      | none => simp [h1] at he
      | some v =>
        obtain ⟨v, h'⟩ := v
        rw [h1] at he
        simp only [Option.bind_some, Tr.eval, Option.some.injEq] at he
        subst he
        obtain ⟨hle, hk⟩ := aheavy_keeps h1
        have hlog := hl.2
        rw [if_neg hlt] at hlog
        exact ⟨o, ho, fun h => absurd h hlt, hle, fun id hid hn => hk id hid (hn _ hlog)⟩
  · exact ⟨o, ho, fun _ => by rw [h.2]; rfl, by rw [h.2]; exact Nat.le_refl _, fun _ _ _ => by rw [h.2]; rfl⟩

def SlotIs (ops : Array Oper) (π : List Nat) (st : Nat → St) (D : Nat → Prop) (t : Nat) (v : AV) : Prop :=
  (∃ (j : Nat) (o : Oper), D j ∧ ops[j]? = some o ∧ o.dst = some t ∧ v = (st (π.idxOf j + 1)).sl.getD t (.c .any)) ∨ ((∀ (j : Nat) o, D j → ops[j]? = some o → o.dst ≠ some t) ∧ v = (st 0).sl.getD t (.c .any))

theorem SlotIs.agree (h : OrdOk ops π) {D D' : Nat → Prop} {t : Nat} {v v' : AV} (hd : ∀ (j : Nat) o, ops[j]? = some o → o.dst = some t → (D j ↔ D' j)) (h1 : SlotIs ops π st D t v) (h2 : SlotIs ops π st D' t v') : v = v' := by
  rcases h1 with ⟨j, o, hj, ho, hdst, rfl⟩ | ⟨hn, rfl⟩ <;> rcases h2 with ⟨j', o', hj', ho', hdst', rfl⟩ | ⟨hn', rfl⟩
  · have := h.dst j j' o o' t ho ho' hdst hdst'
    subst this
    rfl
  · exact absurd hdst (hn' j o ((hd j o ho hdst).1 hj) ho)
  · exact absurd hdst' (hn j' o' ((hd j' o' ho' hdst').2 hj') ho')
  · rfl
theorem SlotIs.has (D : Nat → Prop) (t : Nat) : ∃ v, SlotIs ops π st D t v := by
  by_cases hx : ∃ (j : Nat) (o : Oper), D j ∧ ops[j]? = some o ∧ o.dst = some t
  · obtain ⟨j, o, h1, h2, h3⟩ := hx
    exact ⟨_, .inl ⟨j, o, h1, h2, h3, rfl⟩⟩
  · exact ⟨_, .inr ⟨fun j o h1 h2 h3 => hx ⟨j, o, h1, h2, h3⟩, rfl⟩⟩

theorem putA_getD {sl : List AV} {d : Option Tmp} {v : AV} {t : Nat} (h : d ≠ some t) : (putA sl d v).getD t (.c .any) = sl.getD t (.c .any) := by
  cases d with
  | none => rfl
  | some d =>
    have hne : d ≠ t := fun e => h (by rw [e])
    simp only [putA, List.getD_eq_getElem?_getD]
    rw [List.getElem?_set_ne hne]
theorem putA_len {sl : List AV} {d : Option Tmp} {v : AV} : (putA sl d v).length = sl.length := by
  cases d <;> simp [putA]

theorem RunOk.len (R : RunOk G ops π l st) : ∀ p, p ≤ ops.size → (st p).sl.length = (st 0).sl.length
  | 0, _ => rfl
  | p + 1, hp => by
    obtain ⟨i, hi, hpi, _⟩ := R.ord.of_pos (p := p) (by omega)
    obtain ⟨o, v, ho, hs⟩ := (R.stp p i hpi).put
    rw [hs, putA_len]
    exact R.len p (by omega)

theorem RunOk.slot (R : RunOk G ops π l st) : ∀ p, p ≤ ops.size → ∀ t, SlotIs ops π st (fun j => π.idxOf j < p) t ((st p).sl.getD t (.c .any))
  | 0, _, t => .inr ⟨fun j o hj => by omega, rfl⟩
  | p + 1, hp, t => by
    obtain ⟨i, hi, hpi, hpos⟩ := R.ord.of_pos (p := p) (by omega)
    obtain ⟨o, v, ho, hs⟩ := (R.stp p i hpi).put
    by_cases hd : o.dst = some t
    · exact .inl ⟨i, o, by omega, ho, hd, by rw [hpos]⟩
    · rw [hs, putA_getD hd]
      rcases R.slot p (by omega) t with ⟨j, o', hj, ho', hdst, hv⟩ | ⟨hn, hv⟩
      · exact .inl ⟨j, o', by omega, ho', hdst, hv⟩
      · refine .inr ⟨fun j o' hj ho' => ?_, hv⟩
        rcases Nat.lt_or_ge (π.idxOf j) p with hlt | hge
        · exact hn j o' hlt ho'
        · have hje : j = i := by
            have h1 := (R.ord.at_ (getElem?_lt ho')).2
            rw [show π.idxOf j = p by omega, hpi] at h1
            cases h1
            rfl
          subst hje
          rw [ho] at ho'
          cases ho'
          exact hd

theorem RunOk.same (R : RunOk G ops π l st) (p1 : Nat) : ∀ k, p1 + k ≤ ops.size → (∀ q, p1 ≤ q → q < p1 + k → ∀ (i : Nat) o, π[q]? = some i → ops[i]? = some o → isLight o.op = true) → (st (p1 + k)).h = (st p1).h
  | 0, _, _ => rfl
  | k + 1, hk, hl => by
    obtain ⟨i, hi, hpi, hpos⟩ := R.ord.of_pos (p := p1 + k) (by omega)
    obtain ⟨o, ho, hlt, _⟩ := (R.stp (p1 + k) i hpi).heap
    have h1 := hlt (hl (p1 + k) (by omega) (by omega) i o hpi ho)
    rw [show p1 + (k + 1) = p1 + k + 1 by omega, h1]
    exact R.same p1 k (by omega) fun q h2 h3 => hl q h2 (by omega)

theorem RunOk.keep (R : RunOk G ops π l st) (p1 id : Nat) (hid : id < (st p1).h.length) : ∀ k, p1 + k ≤ ops.size → (∀ q, p1 ≤ q → q < p1 + k → ∀ (i : Nat) o, π[q]? = some i → ops[i]? = some o → isLight o.op = false → ∀ ws, (i, ws) ∈ l.writes → id ∉ ws) →
    (st (p1 + k)).h[id]? = (st p1).h[id]? ∧ (st p1).h.length ≤ (st (p1 + k)).h.length
  | 0, _, _ => ⟨rfl, Nat.le_refl _⟩
  | k + 1, hk, hw => by
    obtain ⟨i, hi, hpi, hpos⟩ := R.ord.of_pos (p := p1 + k) (by omega)
    obtain ⟨o, ho, hlt, hle, hkp⟩ := (R.stp (p1 + k) i hpi).heap
    obtain ⟨ih, ihl⟩ := R.keep p1 id hid k (by omega) fun q h2 h3 => hw q h2 (by omega)
    have : (st (p1 + k + 1)).h[id]? = (st (p1 + k)).h[id]? := by
      cases hl : isLight o.op with
      | true => rw [hlt hl]
      | false => exact hkp id (by omega) (hw (p1 + k) (by omega) (by omega) i o hpi ho hl)
    exact ⟨by rw [show p1 + (k + 1) = p1 + k + 1 by omega, this, ih], by rw [show p1 + (k + 1) = p1 + k + 1 by omega]; omega⟩

def Dn (ops : Array Oper) (listed : Array Bool) (j : Nat) : Prop := j < ops.size ∧ listed.getD j false = true

structure RID (B : Nat) (m0 : List Pl) (h0 : AHeap) (w0 : World) (ops : Array Oper) (π : List Nat) (st : Nat → St) (listed : Array Bool) (a : Act) (w : World) : Prop where
  hB : B ≤ w0.heap.size
  def_ : a.defers = []
  size : listed.size = ops.size
  closed : ∀ (j : Nat) o, ops[j]? = some o → Dn ops listed j → ∀ e ∈ o.after, Region.binds .any e = true → Dn ops listed e.on
  len : (st 0).sl.length = a.tmps.size
  ex : ∃ m hp, hp ≤ ops.size ∧ (∀ (j : Nat) o, ops[j]? = some o → isLight o.op = false → (Dn ops listed j ↔ π.idxOf j < hp)) ∧ Step B m0 h0 w0 m (st hp).h w ∧
    ∀ t v, SlotIs ops π st (Dn ops listed) t v → t < (st 0).sl.length → ∃ x, a.tmps[t]? = some x ∧ VR m v x

theorem before_dn (h : OrdOk ops π) {listed : Array Bool} (hc : ∀ (j : Nat) o, ops[j]? = some o → Dn ops listed j → ∀ e ∈ o.after, Region.binds .any e = true → Dn ops listed e.on) :
    ∀ (k : Nat) (j i : Nat), π.idxOf j < k → Dn ops listed j → before (predsOf ops.toList) i j = true → Dn ops listed i
  | 0, j, i, hk, _, _ => by omega
  | k + 1, j, i, hk, hj, hb => by
    obtain ⟨o, ho, e, he, hbe, hor⟩ := h.step j hj.1 i hb
    have hd := hc j o ho hj e he hbe
    rcases hor with rfl | hb'
    · exact hd
    · have hpos := (h.pos j hj.1 e.on (h.dir j o ho e he hbe)).2
      exact before_dn h hc k e.on i (by omega) hd hb'
end
end Go.Proofs.Ytcpahifgdppkbaa.QAI
