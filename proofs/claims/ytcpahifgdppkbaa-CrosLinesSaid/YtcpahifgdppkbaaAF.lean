/- A region that draws its order, the theorem. -/
import Derived.Test.YtcpahifgdppkbaaAE
set_option linter.unusedVariables false
set_option linter.unusedSimpArgs false
namespace Go.Proofs.Ytcpahifgdppkbaa.QAI
open Go Go.RowKit

section
variable {G : Ctx2} {ops : Array Oper} {π : List Nat} {l : Log} {st : Nat → St} {m m0 : List Pl} {h0 : AHeap} {w w0 : World} {B : Nat} {a : Act} {listed : Array Bool}

theorem getD_set {i j : Nat} (hs : i < listed.size) : (listed.setIfInBounds i true).getD j false = true ↔ j = i ∨ listed.getD j false = true := by
  by_cases e : j = i
  · subst e
    simp [Array.getD_eq_getD_getElem?, hs]
  · simp [Array.getD_eq_getD_getElem?, Array.getElem?_setIfInBounds_ne (fun e' => e e'.symm), e]

theorem Dn.set {i j : Nat} (hsz : listed.size = ops.size) (hi : i < ops.size) : Dn ops (listed.setIfInBounds i true) j ↔ j = i ∨ Dn ops listed j := by
  unfold Dn
  rw [getD_set (by omega)]
  constructor
  · rintro ⟨h1, h2 | h2⟩
    · exact .inl h2
    · exact .inr ⟨h1, h2⟩
  · rintro (rfl | ⟨h1, h2⟩)
    · exact ⟨hi, .inl rfl⟩
    · exact ⟨h1, .inr h2⟩

/-- One more operation. -/
theorem RID.next (R : RunOk G ops π l st) (I : RID B m0 h0 w0 ops π st listed a w) {i : Nat} {o : Oper} (ho : ops[i]? = some o) (hni : ¬ Dn ops listed i) (hpre : ∀ e ∈ o.after, Region.binds .any e = true → Dn ops listed e.on)
    {m m' : List Pl} {hp' : Nat} {x : Value} {w' : World} (hhp' : hp' ≤ ops.size) (hheavy : ∀ (j : Nat) o', ops[j]? = some o' → isLight o'.op = false → (Dn ops (listed.setIfInBounds i true) j ↔ π.idxOf j < hp'))
    (hslots : ∀ t v, SlotIs ops π st (Dn ops listed) t v → t < (st 0).sl.length → ∃ x, a.tmps[t]? = some x ∧ VR m v x) (he : Ext m m') (hst : Step B m0 h0 w0 m' (st hp').h w')
    (hx : ∀ t, o.dst = some t → t < (st 0).sl.length → VR m' ((st (π.idxOf i + 1)).sl.getD t (.c .any)) x) : RID B m0 h0 w0 ops π st (listed.setIfInBounds i true) (a.put o.dst x) w' := by
  have hi : i < ops.size := getElem?_lt ho
  have hset : ∀ j, Dn ops (listed.setIfInBounds i true) j ↔ j = i ∨ Dn ops listed j := fun j => Dn.set I.size hi
  refine { hB := I.hB, def_ := by rw [put_defers]; exact I.def_, size := by simp [I.size], closed := ?_, len := ?_, ex := ⟨m', hp', hhp', hheavy, hst, ?_⟩ }
  · intro j o' ho' hj e he hb
    rw [hset] at hj
    rw [hset]
    rcases hj with rfl | hj
    · rw [ho] at ho'
      cases ho'
      exact .inr (hpre e he hb)
    · exact .inr (I.closed j o' ho' hj e he hb)
  · rw [I.len]
    cases o.dst <;> simp [Act.put]
  · intro t v hv hlt
    by_cases hd : o.dst = some t
    · refine ⟨x, ?_, ?_⟩
      · rw [hd]
        simp only [Act.put]
        rw [Array.getElem?_setIfInBounds]
        simp [← I.len, hlt]
      · have : v = (st (π.idxOf i + 1)).sl.getD t (.c .any) := by
          rcases hv with ⟨j, o', hj, ho', hdst, rfl⟩ | ⟨hn, _⟩
          · have := R.ord.dst j i o' o t ho' ho hdst hd
            subst this
            rfl
          · exact absurd hd (hn i o ((hset i).2 (.inl rfl)) ho)
        rw [this]
        exact hx t hd hlt
    · obtain ⟨v', hv'⟩ := SlotIs.has (ops := ops) (π := π) (st := st) (Dn ops listed) t
      have hvv : v = v' := SlotIs.agree R.ord (fun j o' ho' hdst => by
        rw [hset]
        constructor
        · rintro (rfl | h)
          · rw [ho] at ho'
            cases ho'
            exact absurd hdst hd
          · exact h
        · exact .inr) hv hv'
      subst hvv
      obtain ⟨y, hy, hr⟩ := hslots t v hv' hlt
      refine ⟨y, ?_, VR.ext he hr⟩
      cases hdd : o.dst with
      | none => exact hy
      | some d =>
        have hne : d ≠ t := fun e => hd (by rw [hdd, e])
        simp only [Act.put]
        rw [Array.getElem?_setIfInBounds_ne hne]
        exact hy

open Classical in
theorem RID.exec (hG : XOk G) (R : RunOk G ops π l st) (I : RID B m0 h0 w0 ops π st listed a w) {i : Nat} (hi : i ∈ Region.ready .any ops listed) (K : Act → World → Prop) (Q : Exit → Act → World → Prop)
    (hK : ∀ a' w', RID B m0 h0 w0 ops π st (listed.setIfInBounds i true) a' w' → K a' w') : wpOp G.P ops Q i K a w := by
  obtain ⟨hun, o, ho, hall⟩ := mem_ready.1 hi
  have hilt : i < ops.size := getElem?_lt ho
  have hni : ¬ Dn ops listed i := by
    rintro ⟨_, hd⟩
    rw [Array.getD_eq_getD_getElem?] at hun hd
    cases hq : listed[i]? with
    | none => rw [hq] at hd; cases hd
    | some b => rw [hq] at hun hd; simp at hun hd; rw [hun] at hd; cases hd
  have hpre : ∀ e ∈ o.after, Region.binds .any e = true → Dn ops listed e.on := fun e he hb => by
    have h1 := hall e he hb
    refine ⟨?_, h1⟩
    have hb' := R.ord.dir i o ho e he hb
    exact (R.ord.pos i hilt e.on hb').1
  have hbef : ∀ j, before (predsOf ops.toList) j i = true → Dn ops listed j := fun j hb => by
    obtain ⟨o', ho', e, he, hbe, hor⟩ := R.ord.step i hilt j hb
    rw [ho] at ho'
    cases ho'
    rcases hor with rfl | hb'
    · exact hpre e he hbe
    · exact before_dn R.ord I.closed _ e.on j (Nat.lt_succ_self _) (hpre e he hbe) hb'
  have haft : ∀ j, before (predsOf ops.toList) i j = true → ¬ Dn ops listed j := fun j hb hd => hni (before_dn R.ord I.closed _ j i (Nat.lt_succ_self _) hd hb)
  obtain ⟨hplt, hpi⟩ := R.ord.at_ hilt
  have hposl : ∀ j, before (predsOf ops.toList) j i = true → π.idxOf j < π.idxOf i := fun j hb => (R.ord.pos i hilt j hb).2
  have hposg : ∀ j, j < ops.size → before (predsOf ops.toList) i j = true → π.idxOf i < π.idxOf j := fun j hj hb => (R.ord.pos j hj i hb).2
  obtain ⟨m, hp, hhp, hheavy, hst, hslots⟩ := I.ex
  -- what is looked at
  have hlook : ∀ t, t ∈ looksAt ops o → VR m ((st (π.idxOf i)).sl.getD t (.c .any)) (a.tmps.getD t undef) ∧ (t < a.tmps.size ∨ (st (π.idxOf i)).sl.getD t (.c .any) = .c .any) := by
    intro t ht
    rcases Nat.lt_or_ge t (st 0).sl.length with hlt | hge
    · obtain ⟨v', hv'⟩ := SlotIs.has (ops := ops) (π := π) (st := st) (Dn ops listed) t
      have hv := R.slot (π.idxOf i) (Nat.le_of_lt hplt) t
      have hvv := SlotIs.agree R.ord (fun j o' ho' hdst => by
        by_cases hji : j = i
        · subst hji
          constructor
          · intro h; omega
          · intro h; exact absurd h hni
        · rcases R.ord.look i j o o' t (fun e => hji e.symm) ho ho' hdst ht with hb | hb
          · exact ⟨fun _ => hbef j hb, fun _ => hposl j hb⟩
          · have := hposg j (getElem?_lt ho') hb
            exact ⟨fun h => by omega, fun h => absurd h (haft j hb)⟩) hv hv'
      rw [hvv]
      obtain ⟨y, hy, hr⟩ := hslots t v' hv' hlt
      have hsz : t < a.tmps.size := by rw [← I.len]; exact hlt
      refine ⟨?_, .inl hsz⟩
      rw [Array.getD_eq_getD_getElem?, hy]
      exact hr
    · have : (st (π.idxOf i)).sl.getD t (.c .any) = .c .any := by
        rw [List.getD_eq_getElem?_getD, List.getElem?_eq_none (by rw [R.len _ (Nat.le_of_lt hplt)]; exact hge)]
        rfl
      rw [this]
      exact ⟨by simp [VR, CR], .inr rfl⟩
  have hops : OpsOk m (fun x => if x ∈ o.op.operands then evs (st (π.idxOf i)).sl x else .c .any) a.eval := by
    intro x
    show VR m (if x ∈ o.op.operands then evs (st (π.idxOf i)).sl x else .c .any) (a.eval x)
    by_cases hx : x ∈ o.op.operands
    · rw [if_pos hx]
      cases x with
      | tmp t =>
        refine (hlook t ?_).1
        unfold looksAt
        refine List.mem_append.2 (.inl (List.mem_filterMap.2 ⟨.tmp t, Array.mem_toList_iff.2 hx, rfl⟩))
      | const v => exact VR_ofConst m v
      | global g => exact rfl
      | func f => exact rfl
    · rw [if_neg hx]
      simp [VR, CR]
  have hguard : ∀ (g : Nat) (want : Bool) (t : Nat), o.guard = some (g, want) → (ops[g]?).bind (·.dst) = some t → t ∈ looksAt ops o := by
    intro g want t hg ht
    unfold looksAt
    rw [hg]
    refine List.mem_append.2 (.inr ?_)
    simp [ht]
  have hset : ∀ j, Dn ops (listed.setIfInBounds i true) j ↔ j = i ∨ Dn ops listed j := fun j => Dn.set I.size hilt
  -- heavies, and where they stand
  have hhv : ∀ (j : Nat) o', ops[j]? = some o' → isLight o'.op = false → j ≠ i → isLight o.op = false → (Dn ops listed j ↔ π.idxOf j < π.idxOf i) := by
    intro j o' ho' hl hji hlo
    rcases R.ord.heavy j i o' o hji ho' ho hl hlo with hb | hb
    · exact ⟨fun _ => hposl j hb, fun _ => hbef j hb⟩
    · have := hposg j (getElem?_lt ho') hb
      exact ⟨fun h => absurd h (haft j hb), fun h => by omega⟩
  have hheapH : isLight o.op = false → (st (π.idxOf i)).h = (st hp).h := by
    intro hlo
    rcases Nat.le_total (π.idxOf i) hp with hle | hle
    · obtain ⟨k, rfl⟩ := Nat.le.dest hle
      refine (R.same (π.idxOf i) k hhp fun q h1 h2 j o' hj ho' => ?_).symm
      cases hl : isLight o'.op with
      | true => rfl
      | false =>
        have hq : π.idxOf j = q := by
          obtain ⟨j', _, hj', hp'⟩ := R.ord.of_pos (p := q) (by omega)
          rw [hj] at hj'
          cases hj'
          exact hp'
        have hd := (hheavy j o' ho' hl).2 (by omega)
        by_cases hji : j = i
        · subst hji; exact absurd hd hni
        · have := (hhv j o' ho' hl hji hlo).1 hd
          omega
    · obtain ⟨k, hk⟩ := Nat.le.dest hle
      have := R.same hp k (by omega) fun q h1 h2 j o' hj ho' => by
        cases hl : isLight o'.op with
        | true => rfl
        | false =>
          have hq : π.idxOf j = q := by
            obtain ⟨j', _, hj', hp'⟩ := R.ord.of_pos (p := q) (by omega)
            rw [hj] at hj'
            cases hj'
            exact hp'
          by_cases hji : j = i
          · subst hji; omega
          · have hd := (hhv j o' ho' hl hji hlo).2 (by omega)
            have := (hheavy j o' ho' hl).1 hd
            omega
      rw [hk] at this
      exact this
  -- the new place of the heap
  have hnew : ∃ hp', hp' ≤ ops.size ∧ (∀ (j : Nat) o', ops[j]? = some o' → isLight o'.op = false → (Dn ops (listed.setIfInBounds i true) j ↔ π.idxOf j < hp')) ∧ (isLight o.op = true → hp' = hp) ∧ (isLight o.op = false → hp' = π.idxOf i + 1) := by
    cases hlo : isLight o.op with
    | true =>
      refine ⟨hp, hhp, fun j o' ho' hl => ?_, fun _ => rfl, fun h => by cases h⟩
      rw [hset]
      constructor
      · rintro (rfl | h)
        · rw [ho] at ho'; cases ho'; rw [hlo] at hl; cases hl
        · exact (hheavy j o' ho' hl).1 h
      · intro h; exact .inr ((hheavy j o' ho' hl).2 h)
    | false =>
      refine ⟨π.idxOf i + 1, by omega, fun j o' ho' hl => ?_, fun h => (by cases h), fun _ => rfl⟩
      rw [hset]
      by_cases hji : j = i
      · subst hji
        exact ⟨fun _ => by omega, fun _ => .inl rfl⟩
      · rw [hhv j o' ho' hl hji hlo]
        constructor
        · rintro (h | h)
          · exact absurd h hji
          · omega
        · intro h
          right
          rcases Nat.lt_or_ge (π.idxOf j) (π.idxOf i) with h1 | h1
          · exact h1
          · have hpe : π.idxOf j = π.idxOf i := by omega
            have h2 := (R.ord.at_ (getElem?_lt ho')).2
            rw [hpe, hpi] at h2
            cases h2
            exact absurd rfl hji
  obtain ⟨hp', hhp', hheavy', hpl, hph⟩ := hnew
  obtain ⟨o', ho', hstep⟩ := R.stp _ i hpi
  rw [ho] at ho'
  cases ho'
  unfold wpOp
  simp only [ho]
  have hlen1 : (st (π.idxOf i)).sl.length = (st 0).sl.length := R.len _ (Nat.le_of_lt hplt)
  rcases hstep with ⟨hyes, he, hlog⟩ | ⟨hno, hsk⟩
  · -- it is carried out
    have hw : Region.wanted o (yielded ops a.tmps) = true := by
      unfold Yes at hyes
      cases hg : o.guard with
      | none => simp [Region.wanted, hg]
      | some gw =>
        obtain ⟨g, want⟩ := gw
        rw [hg] at hyes
        obtain ⟨t, ht, hv⟩ := hyes
        obtain ⟨hr, hor⟩ := hlook t (hguard g want t hg ht)
        rw [hv] at hr hor
        have hlt : t < a.tmps.size := by
          rcases hor with h | h
          · exact h
          · cases h
        have hr' : a.tmps.getD t undef = .bool want := hr
        have htm : a.tmps[t]? = some (.bool want) := by
          rw [Array.getD_eq_getD_getElem?, Array.getElem?_eq_getElem hlt] at hr'
          rw [Array.getElem?_eq_getElem hlt, ← hr']
          rfl
        simp [Region.wanted, hg, yielded, ht, htm]
    rw [if_pos hw]
    left
    rw [stepOp_def] at he
    split at he
    · -- it turns nothing
      rename_i hlo
      rw [Tr.eval_bind] at he
      cases h1 : (alight G.toCtx o (evs (st (π.idxOf i)).sl) (st (π.idxOf i)).h).eval with
      | none => simp [h1] at he
      | some v =>
        rw [h1] at he
        simp only [Option.bind_some, Tr.eval, Option.some.injEq] at he
        have hreads : ∀ id ∈ readsOf o (evs (st (π.idxOf i)).sl), (st (π.idxOf i)).h.at id = (st hp).h.at id := by
          intro id hid
          have hidl : id < (st (π.idxOf i)).h.length := by
            have := hlog.1
            unfold readsIn at this
            have := List.all_eq_true.1 this id hid
            simpa using this
          have hrl := hlog.2
          rw [if_pos hlo] at hrl
          have hdis : ∀ (j : Nat) ws, (j, ws) ∈ l.writes → before (predsOf ops.toList) i j = false → before (predsOf ops.toList) j i = false → id ∉ ws := by
            intro j ws hjw hb1 hb2 hmem
            have h2 := List.all_eq_true.1 R.log _ hrl
            have h3 := List.all_eq_true.1 h2 _ hjw
            simp only [hb1, hb2, Bool.false_or] at h3
            have h4 := List.all_eq_true.1 h3 id hid
            have : ws.contains id = true := by simpa using hmem
            rw [this] at h4
            cases h4
          have hunord : ∀ (q j : Nat) oj, π[q]? = some j → q < ops.size → ops[j]? = some oj → isLight oj.op = false → (π.idxOf i ≤ q ∧ q < hp ∨ hp ≤ q ∧ q < π.idxOf i) → ∀ ws, (j, ws) ∈ l.writes → id ∉ ws := by
            intro q j oj hj hq hoj hlf hor ws hjw
            have hqj : π.idxOf j = q := by
              obtain ⟨j', _, hj', hp''⟩ := R.ord.of_pos (p := q) hq
              rw [hj] at hj'
              cases hj'
              exact hp''
            have hjn : j < ops.size := getElem?_lt hoj
            refine hdis j ws hjw ?_ ?_
            · cases hb : before (predsOf ops.toList) i j with
              | false => rfl
              | true =>
                have h5 := hposg j hjn hb
                rcases hor with ⟨h6, h7⟩ | ⟨h6, h7⟩
                · exact absurd ((hheavy j oj hoj hlf).2 (by omega)) (haft j hb)
                · omega
            · cases hb : before (predsOf ops.toList) j i with
              | false => rfl
              | true =>
                have h5 := hposl j hb
                rcases hor with ⟨h6, h7⟩ | ⟨h6, h7⟩
                · omega
                · have := (hheavy j oj hoj hlf).1 (hbef j hb)
                  omega
          unfold AHeap.at
          congr 1
          rcases Nat.le_total (π.idxOf i) hp with hle | hle
          · obtain ⟨k, hk⟩ := Nat.le.dest hle
            have := (R.keep (π.idxOf i) id hidl k (by omega) fun q h1 h2 j oj hj hoj hl => hunord q j oj hj (by omega) hoj hl (.inl ⟨h1, by omega⟩)).1
            rw [hk] at this
            exact this.symm
          · obtain ⟨k, hk⟩ := Nat.le.dest hle
            have hidm : id < (st hp).h.length := by
              rw [← hst.hr.len]
              have : ∃ x ∈ o.op.operands, id ∈ refAV (evs (st (π.idxOf i)).sl x) := by
                unfold readsOf at hid
                split at hid
                · rename_i t x hop; exact ⟨x, by rw [hop]; simp [Op.operands], hid⟩
                · rename_i t x ix hop; exact ⟨x, by rw [hop]; simp [Op.operands], hid⟩
                · rename_i t x lo hi mx hop; exact ⟨x, by rw [hop]; simp [Op.operands], hid⟩
                · cases hid
              obtain ⟨x, hx, hidx⟩ := this
              have := hops x
              simp only [if_pos hx] at this
              exact VR.refs this id hidx
            have := (R.keep hp id hidm k (by omega) fun q h1 h2 j oj hj hoj hl => hunord q j oj hj (by omega) hoj hl (.inr ⟨h1, by omega⟩)).1
            rw [hk] at this
            exact this
        have hcong := alight_congr (G := G.toCtx) (o := o) (ρ := evs (st (π.idxOf i)).sl) (ρ2 := fun x => if x ∈ o.op.operands then evs (st (π.idxOf i)).sl x else .c .any) (h := (st (π.idxOf i)).h) (h' := (st hp).h) (fun x hx => by simp only [if_pos hx]) hreads
        rw [hcong] at h1
        obtain ⟨x, hr, hv⟩ := light_ok hG.g hG.f hops hst.hr h1
        unfold Oper.wp
        rw [hr]
        refine hK _ _ (I.next R ho hni hpre hhp' hheavy' hslots (Ext.refl _) (by rw [hpl hlo]; exact hst) fun t ht hlt => ?_)
        rw [← he, ht]
        simp only [putA, List.getD_eq_getElem?_getD]
        rw [List.getElem?_set_self (by rw [hlen1]; exact hlt)]
        exact hv
    · -- it makes or writes memory
      rename_i hlo
      have hlo' : isLight o.op = false := by simpa using hlo
      rw [Tr.eval_bind] at he
      cases h1 : (aheavy G o (evs (st (π.idxOf i)).sl) (st (π.idxOf i)).h).eval with
      | none => simp [h1] at he
      | some vh =>
        obtain ⟨v, h'⟩ := vh
        rw [h1] at he
        simp only [Option.bind_some, Tr.eval, Option.some.injEq] at he
        rw [aheavy_congr (ρ2 := fun x => if x ∈ o.op.operands then evs (st (π.idxOf i)).sl x else .c .any) (fun x hx => by simp only [if_pos hx]), hheapH hlo'] at h1
        refine heavy_ok hG hops hst.hr (Nat.le_trans I.hB hst.fr.size) h1 K Q fun m' x w' hst' hv => ?_
        refine hK _ _ (I.next R ho hni hpre hhp' hheavy' hslots hst'.ext (by rw [hph hlo', ← he]; exact hst.trans hst') fun t ht hlt => ?_)
        rw [← he, ht]
        simp only [putA, List.getD_eq_getElem?_getD]
        rw [List.getElem?_set_self (by rw [hlen1]; exact hlt)]
        exact hv
  · -- it is not
    have hw : Region.wanted o (yielded ops a.tmps) = false := by
      unfold No at hno
      cases hg : o.guard with
      | none => rw [hg] at hno; cases hno
      | some gw =>
        obtain ⟨g, want⟩ := gw
        rw [hg] at hno
        obtain ⟨t, ht, hv⟩ := hno
        obtain ⟨hr, hor⟩ := hlook t (hguard g want t hg ht)
        have hlt : t < a.tmps.size := by
          rcases hor with h | h
          · exact h
          · rcases hv with hv | ⟨vs, hv⟩ <;> rw [hv] at h <;> cases h
        have hex : ∀ y, a.tmps.getD t undef = y → a.tmps[t]? = some y := fun y hy => by
          rw [Array.getD_eq_getD_getElem?, Array.getElem?_eq_getElem hlt] at hy
          rw [Array.getElem?_eq_getElem hlt, ← hy]
          rfl
        rcases hv with hv | ⟨vs, hv⟩
        · rw [hv] at hr
          have htm := hex _ (show a.tmps.getD t undef = .bool (!want) from hr)
          simp only [Region.wanted, hg, yielded, ht, htm, Option.bind_some]
          cases want <;> rfl
        · rw [hv] at hr
          have htm := hex _ (show a.tmps.getD t undef = .tuple vs from hr)
          simp only [Region.wanted, hg, yielded, ht, htm, Option.bind_some]
          rfl
    rw [if_neg (by rw [hw]; simp)]
    refine hK _ _ (I.next R ho hni hpre hhp' hheavy' hslots (Ext.refl _) ?_ fun t ht hlt => ?_)
    · cases hlo : isLight o.op with
      | true => rw [hpl hlo]; exact hst
      | false => rw [hph hlo, hsk]; show Step B m0 h0 w0 m (st (π.idxOf i)).h w; rw [hheapH hlo]; exact hst
    · rw [hsk]
      simp only [skipOp, ht, putA, List.getD_eq_getElem?_getD]
      rw [List.getElem?_set_self (by rw [hlen1]; exact hlt)]
      exact (rfl : CR m (.v undef) undef)
end
end Go.Proofs.Ytcpahifgdppkbaa.QAI
