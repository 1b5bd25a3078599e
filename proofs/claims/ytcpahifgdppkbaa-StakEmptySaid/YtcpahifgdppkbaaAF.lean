/- A region that draws its order, the theorem. -/
import Derived.Test.YtcpahifgdppkbaaAE
set_option linter.unusedVariables false
set_option linter.unusedSimpArgs false
namespace Go.Proofs.Ytcpahifgdppkbaa.QAI
open Go Go.RowKit

section
variable {G : Ctx2} {ops : Array Oper} {π : List Nat} {l : Log} {st : Nat → St} {m m0 : List Pl} {h0 : AHeap} {w w0 : World} {B : Nat} {a : Act} {listed : Array Bool}

theorem getD_set {i j : Nat} (hs : i < listed.size) : (listed.setIfInBounds i true).getD j false = true ↔ j = i ∨ listed.getD j false = true := by
  by_cases e : j = i
  · subst e
    simp [Array.getD_eq_getD_getElem?, hs]
  · simp [Array.getD_eq_getD_getElem?, Array.getElem?_setIfInBounds_ne (fun e' => e e'.symm), e]

theorem Dn.set {i j : Nat} (hsz : listed.size = ops.size) (hi : i < ops.size) : Dn ops (listed.setIfInBounds i true) j ↔ j = i ∨ Dn ops listed j := by
  unfold Dn
  rw [getD_set (by omega)]
  constructor
  · rintro ⟨h1, h2 | h2⟩
    · exact .inl h2
    · exact .inr ⟨h1, h2⟩
  · rintro (rfl | ⟨h1, h2⟩)
    · exact ⟨hi, .inl rfl⟩
    · exact ⟨h1, .inr h2⟩

/-- One more operation. -/
theorem RIX.next (R : RunOk G ops π l st) (I : RID B m0 h0 w0 ops π st listed a w) {i : Nat} {o : Oper} (ho : ops[i]? = some o) (hni : ¬ Dn ops listed i) (hpre : ∀ e ∈ o.after, Region.binds .any e = true → Dn ops listed e.on)
    {m m' : List Pl} {hp' : Nat} {k' : AHeap} {x : Value} {w' : World} (hle : hp' ≤ ops.size) (hloud : ∀ (j : Nat) o', ops[j]? = some o' → Loud o' → (Dn ops (listed.setIfInBounds i true) j ↔ π.idxOf j < hp'))
    (hquiet : ∀ (j : Nat) o', ops[j]? = some o' → isLight o'.op = false → isQuiet o'.op = true → Dn ops (listed.setIfInBounds i true) j → π.idxOf j < hp')
    (hnul : Nul (Nt ops π st (listed.setIfInBounds i true) hp') (st hp').h k') (hmark : ∀ id, Nt ops π st (listed.setIfInBounds i true) hp' id → m'[id]? = some mark)
    (hslots : ∀ t v, SlotIs ops π st (Dn ops listed) t v → t < (st 0).sl.length → ∃ x, a.tmps[t]? = some x ∧ VR m v x) (he : ∀ v y, VR m v y → VR m' v y) (hst : Step B m0 h0 w0 m' k' w')
    (hx : ∀ t, o.dst = some t → t < (st 0).sl.length → VR m' ((st (π.idxOf i + 1)).sl.getD t (.c .any)) x) : RID B m0 h0 w0 ops π st (listed.setIfInBounds i true) (a.put o.dst x) w' := by
  have hi : i < ops.size := getElem?_lt ho
  have hset : ∀ j, Dn ops (listed.setIfInBounds i true) j ↔ j = i ∨ Dn ops listed j := fun j => Dn.set I.size hi
  refine { hB := I.hB, def_ := by rw [put_defers]; exact I.def_, size := by simp [I.size], closed := ?_, len := ?_, low := I.low, ex := ⟨m', hp', k', ⟨hle, hloud, hquiet, hnul, hmark, hst, ?_⟩⟩ }
  · intro j o' ho' hj e he hb
    rw [hset] at hj
    rw [hset]
    rcases hj with rfl | hj
    · rw [ho] at ho'
      cases ho'
      exact .inr (hpre e he hb)
    · exact .inr (I.closed j o' ho' hj e he hb)
  · rw [I.len]
    cases o.dst <;> simp [Act.put]
  · intro t v hv hlt
    by_cases hd : o.dst = some t
    · refine ⟨x, ?_, ?_⟩
      · rw [hd]
        simp only [Act.put]
        rw [Array.getElem?_setIfInBounds]
        simp [← I.len, hlt]
      · have : v = (st (π.idxOf i + 1)).sl.getD t (.c .any) := by
          rcases hv with ⟨j, o', hj, ho', hdst, rfl⟩ | ⟨hn, _⟩
          · have := R.ord.dst j i o' o t ho' ho hdst hd
            subst this
            rfl
          · exact absurd hd (hn i o ((hset i).2 (.inl rfl)) ho)
        rw [this]
        exact hx t hd hlt
    · obtain ⟨v', hv'⟩ := SlotIs.has (ops := ops) (π := π) (st := st) (Dn ops listed) t
      have hvv : v = v' := SlotIs.agree R.ord (fun j o' ho' hdst => by
        rw [hset]
        constructor
        · rintro (rfl | h)
          · rw [ho] at ho'
            cases ho'
            exact absurd hdst hd
          · exact h
        · exact .inr) hv hv'
      subst hvv
      obtain ⟨y, hy, hr⟩ := hslots t v hv' hlt
      refine ⟨y, ?_, he _ _ hr⟩
      cases hdd : o.dst with
      | none => exact hy
      | some d =>
        have hne : d ≠ t := fun e => hd (by rw [hdd, e])
        simp only [Act.put]
        rw [Array.getElem?_setIfInBounds_ne hne]
        exact hy

open Classical in
theorem RID.exec (hG : XOk G) (R : RunOk G ops π l st) (I : RID B m0 h0 w0 ops π st listed a w) {i : Nat} (hi : i ∈ Region.ready .any ops listed) (K : Act → World → Prop) (Q : Exit → Act → World → Prop)
    (hK : ∀ a' w', RID B m0 h0 w0 ops π st (listed.setIfInBounds i true) a' w' → K a' w') : wpOp G.P ops Q i K a w := by
  obtain ⟨hun, o, ho, hall⟩ := mem_ready.1 hi
  have hilt : i < ops.size := getElem?_lt ho
  have hni : ¬ Dn ops listed i := by
    rintro ⟨_, hd⟩
    rw [Array.getD_eq_getD_getElem?] at hun hd
    cases hq : listed[i]? with
    | none => rw [hq] at hd; cases hd
    | some b => rw [hq] at hun hd; simp at hun hd; rw [hun] at hd; cases hd
  have hpre : ∀ e ∈ o.after, Region.binds .any e = true → Dn ops listed e.on := fun e he hb => by
    have h1 := hall e he hb
    refine ⟨?_, h1⟩
    have hb' := R.ord.dir i o ho e he hb
    exact (R.ord.pos i hilt e.on hb').1
  have hbef : ∀ j, before (predsOf ops.toList) j i = true → Dn ops listed j := fun j hb => by
    obtain ⟨o', ho', e, he, hbe, hor⟩ := R.ord.step i hilt j hb
    rw [ho] at ho'
    cases ho'
    rcases hor with rfl | hb'
    · exact hpre e he hbe
    · exact before_dn R.ord I.closed _ e.on j (Nat.lt_succ_self _) (hpre e he hbe) hb'
  have haft : ∀ j, before (predsOf ops.toList) i j = true → ¬ Dn ops listed j := fun j hb hd => hni (before_dn R.ord I.closed _ j i (Nat.lt_succ_self _) hd hb)
  obtain ⟨hplt, hpi⟩ := R.ord.at_ hilt
  have hposl : ∀ j, before (predsOf ops.toList) j i = true → π.idxOf j < π.idxOf i := fun j hb => (R.ord.pos i hilt j hb).2
  have hposg : ∀ j, j < ops.size → before (predsOf ops.toList) i j = true → π.idxOf i < π.idxOf j := fun j hj hb => (R.ord.pos j hj i hb).2
  obtain ⟨m_, hp_, k_, I0⟩ := I.ex
  obtain ⟨m, hp, k, IX, hmax⟩ := RIX.bump R (ops.size - hp_) hp_ m_ k_ (Nat.le_refl _) I0
  have hslots := IX.slots
  have hst := IX.step
  have hhp := IX.le
  have hkl := IX.nul.len
  -- what is looked at
  have hlook : ∀ t, t ∈ looksAt ops o → VR m ((st (π.idxOf i)).sl.getD t (.c .any)) (a.tmps.getD t undef) ∧ (t < a.tmps.size ∨ (st (π.idxOf i)).sl.getD t (.c .any) = .c .any) := by
    intro t ht
    rcases Nat.lt_or_ge t (st 0).sl.length with hlt | hge
    · obtain ⟨v', hv'⟩ := SlotIs.has (ops := ops) (π := π) (st := st) (Dn ops listed) t
      have hv := R.slot (π.idxOf i) (Nat.le_of_lt hplt) t
      have hvv := SlotIs.agree R.ord (fun j o' ho' hdst => by
        by_cases hji : j = i
        · subst hji
          constructor
          · intro h; omega
          · intro h; exact absurd h hni
        · rcases R.ord.look i j o o' t (fun e => hji e.symm) ho ho' hdst ht with hb | hb
          · exact ⟨fun _ => hbef j hb, fun _ => hposl j hb⟩
          · have := hposg j (getElem?_lt ho') hb
            exact ⟨fun h => by omega, fun h => absurd h (haft j hb)⟩) hv hv'
      rw [hvv]
      obtain ⟨y, hy, hr⟩ := hslots t v' hv' hlt
      have hsz : t < a.tmps.size := by rw [← I.len]; exact hlt
      refine ⟨?_, .inl hsz⟩
      rw [Array.getD_eq_getD_getElem?, hy]
      exact hr
    · have : (st (π.idxOf i)).sl.getD t (.c .any) = .c .any := by
        rw [List.getD_eq_getElem?_getD, List.getElem?_eq_none (by rw [R.len _ (Nat.le_of_lt hplt)]; exact hge)]
        rfl
      rw [this]
      exact ⟨by simp [VR, CR], .inr rfl⟩
  have hops : OpsOk m (fun x => if x ∈ o.op.operands then evs (st (π.idxOf i)).sl x else .c .any) a.eval := by
    intro x
    show VR m (if x ∈ o.op.operands then evs (st (π.idxOf i)).sl x else .c .any) (a.eval x)
    by_cases hx : x ∈ o.op.operands
    · rw [if_pos hx]
      cases x with
      | tmp t =>
        refine (hlook t ?_).1
        unfold looksAt
        refine List.mem_append.2 (.inl (List.mem_filterMap.2 ⟨.tmp t, Array.mem_toList_iff.2 hx, rfl⟩))
      | const v => exact VR_ofConst m v
      | global g => exact rfl
      | func f => exact rfl
    · rw [if_neg hx]
      simp [VR, CR]
  have hguard : ∀ (g : Nat) (want : Bool) (t : Nat), o.guard = some (g, want) → (ops[g]?).bind (·.dst) = some t → t ∈ looksAt ops o := by
    intro g want t hg ht
    unfold looksAt
    rw [hg]
    refine List.mem_append.2 (.inr ?_)
    simp [ht]
  have hset : ∀ j, Dn ops (listed.setIfInBounds i true) j ↔ j = i ∨ Dn ops listed j := fun j => Dn.set I.size hilt
  -- whatever is quiet and is made in the order's first hp operations has told its block
  have hqlog : ∀ (q : Nat) oq, ops[q]? = some oq → isLight oq.op = false → isQuiet oq.op = true → ∀ id, id = (st (π.idxOf q)).h.length → (st (π.idxOf q + 1)).h.length = id + 1 → (q, id) ∈ l.quiets := by
    intro q oq hoq hl hq id hid hlen
    obtain ⟨oq', hoq', _, _, h3, _⟩ := (R.stp _ q (R.ord.at_ (getElem?_lt hoq)).2).heap
    rw [hoq] at hoq'
    cases hoq'
    rcases h3 hl hq with h4 | ⟨h4, _⟩
    · rw [h4] at hlen
      omega
    · rw [hid]
      exact h4
  have hlogok := R.log
  simp only [logOk, logOkP, Bool.and_eq_true] at hlogok
  obtain ⟨⟨hlog1, hlog2⟩, hlog3⟩ := hlogok
  -- a loud or quiet operation stands where it is awaited
  have hfirst : ∀ (j : Nat) oj, ops[j]? = some oj → Loud oj → π.idxOf j = hp → j ≠ i → before (predsOf ops.toList) j i = true → False := by
    intro j oj hoj hl hj hji hb
    have := (IX.loud j oj hoj hl).1 (hbef j hb)
    omega
  have hwhereQ : isLight o.op = false → isQuiet o.op = true → π.idxOf i < hp := by
    intro hl hq
    rcases Nat.lt_or_ge (π.idxOf i) hp with h1 | h1
    · exact h1
    · exfalso
      have hlt : hp < ops.size := by omega
      obtain ⟨j, hjl, hj, hjp⟩ := R.ord.of_pos hlt
      have hoj := Array.getElem?_eq_getElem hjl
      have hlj := hmax j _ hj hoj
      have hji : j ≠ i := by
        intro e
        subst e
        rw [ho] at hoj
        cases hoj
        rw [hlj.2] at hq
        cases hq
      have hne : π.idxOf j ≠ π.idxOf i := by
        intro e
        have h2 := (R.ord.at_ hjl).2
        rw [e, hpi] at h2
        cases h2
        exact hji rfl
      exact hfirst j _ hoj hlj hjp hji (R.ord.quiet i j o _ ho hoj hq hlj (by omega))
  have hwhereL : Loud o → π.idxOf i = hp := by
    intro hl
    have hge : hp ≤ π.idxOf i := by
      rcases Nat.lt_or_ge (π.idxOf i) hp with h1 | h1
      · exact absurd ((IX.loud i o ho hl).2 h1) hni
      · exact h1
    rcases Nat.lt_or_ge hp (π.idxOf i) with h1 | h1
    · exfalso
      have hlt : hp < ops.size := by omega
      obtain ⟨j, hjl, hj, hjp⟩ := R.ord.of_pos hlt
      have hoj := Array.getElem?_eq_getElem hjl
      have hlj := hmax j _ hj hoj
      have hji : j ≠ i := fun e => by subst e; omega
      rcases R.ord.heavy i j o _ (fun e => hji e.symm) ho hoj hl hlj with hb | hb
      · have := hposg j hjl hb
        omega
      · exact hfirst j _ hoj hlj hjp hji hb
    · omega
  -- what is not there yet, when no quiet one has been done
  have ntEq : (isLight o.op = true ∨ isQuiet o.op = false ∨ (st (π.idxOf i + 1)).h = (st (π.idxOf i)).h) → ∀ id, Nt ops π st (listed.setIfInBounds i true) hp id ↔ Nt ops π st listed hp id := by
    intro hor id
    constructor
    · rintro ⟨q, oq, h1, h2, h3, h4, h5, h6⟩
      exact ⟨q, oq, h1, h2, h3, h4, fun h => h5 ((hset q).2 (.inr h)), h6⟩
    · rintro ⟨q, oq, h1, h2, h3, h4, h5, h6, h7⟩
      refine ⟨q, oq, h1, h2, h3, h4, fun h => ?_, h6, h7⟩
      rcases (hset q).1 h with rfl | h
      · rw [ho] at h1
        cases h1
        rcases hor with e | e | e
        · rw [e] at h2; cases h2
        · rw [e] at h3; cases h3
        · rw [e] at h7; omega
      · exact h5 h
  have ntUp : Loud o → ∀ id, Nt ops π st (listed.setIfInBounds i true) (hp + 1) id ↔ Nt ops π st listed hp id := by
    intro hl id
    rw [← ntEq (.inr (.inl hl.2)) id]
    constructor
    · rintro ⟨q, oq, h1, h2, h3, h4, h5⟩
      refine ⟨q, oq, h1, h2, h3, ?_, h5⟩
      rcases Nat.lt_or_ge (π.idxOf q) hp with h6 | h6
      · exact h6
      · have h7 := (R.ord.at_ (getElem?_lt h1)).2
        rw [show π.idxOf q = π.idxOf i by rw [hwhereL hl]; omega, hpi] at h7
        cases h7
        rw [ho] at h1
        cases h1
        rw [hl.2] at h3
        cases h3
    · rintro ⟨q, oq, h1, h2, h3, h4, h5⟩
      exact ⟨q, oq, h1, h2, h3, by omega, h5⟩
  have loudSame : ¬ Loud o → ∀ (j : Nat) o', ops[j]? = some o' → Loud o' → (Dn ops (listed.setIfInBounds i true) j ↔ π.idxOf j < hp) := by
    intro hnl j o' ho' hl
    rw [hset, ← IX.loud j o' ho' hl]
    constructor
    · rintro (rfl | h)
      · rw [ho] at ho'; cases ho'; exact absurd hl hnl
      · exact h
    · exact .inr
  have loudUp : Loud o → ∀ (j : Nat) o', ops[j]? = some o' → Loud o' → (Dn ops (listed.setIfInBounds i true) j ↔ π.idxOf j < hp + 1) := by
    intro hlo j o' ho' hl
    rw [hset, IX.loud j o' ho' hl]
    constructor
    · rintro (rfl | h)
      · rw [hwhereL hlo]; omega
      · omega
    · intro h
      rcases Nat.lt_or_ge (π.idxOf j) hp with h6 | h6
      · exact .inr h6
      · left
        have h7 := (R.ord.at_ (getElem?_lt ho')).2
        rw [show π.idxOf j = π.idxOf i by rw [hwhereL hlo]; omega, hpi] at h7
        cases h7
        rfl
  have quietUp : ∀ hp', hp ≤ hp' → ∀ (j : Nat) o', ops[j]? = some o' → isLight o'.op = false → isQuiet o'.op = true → Dn ops (listed.setIfInBounds i true) j → π.idxOf j < hp' := by
    intro hp' hle j o' ho' hl hq hd
    rcases (hset j).1 hd with rfl | h
    · rw [ho] at ho'
      cases ho'
      have := hwhereQ hl hq
      omega
    · have := IX.quiet j o' ho' hl hq h
      omega
  obtain ⟨o', ho', hstep⟩ := R.stp _ i hpi
  rw [ho] at ho'
  cases ho'
  unfold wpOp
  simp only [ho]
  have hlen1 : (st (π.idxOf i)).sl.length = (st 0).sl.length := R.len _ (Nat.le_of_lt hplt)
  rcases hstep with ⟨hyes, he, hlog⟩ | ⟨hno, hsk⟩
  · -- it is carried out
    have hw : Region.wanted o (yielded ops a.tmps) = true := by
      unfold Yes at hyes
      cases hg : o.guard with
      | none => simp [Region.wanted, hg]
      | some gw =>
        obtain ⟨g, want⟩ := gw
        rw [hg] at hyes
        obtain ⟨t, ht, hv⟩ := hyes
        obtain ⟨hr, hor⟩ := hlook t (hguard g want t hg ht)
        rw [hv] at hr hor
        have hlt : t < a.tmps.size := by
          rcases hor with h | h
          · exact h
          · cases h
        have hr' : a.tmps.getD t undef = .bool want := hr
        have htm : a.tmps[t]? = some (.bool want) := by
          rw [Array.getD_eq_getD_getElem?, Array.getElem?_eq_getElem hlt] at hr'
          rw [Array.getElem?_eq_getElem hlt, ← hr']
          rfl
        simp [Region.wanted, hg, yielded, ht, htm]
    rw [if_pos hw]
    left
    rw [stepOp_def] at he
    split at he
    · -- it turns nothing
      rename_i hlo
      have hnl : ¬ Loud o := fun h => by rw [h.1] at hlo; cases hlo
      rw [Tr.eval_bind] at he
      cases h1 : (alight G.toCtx o (evs (st (π.idxOf i)).sl) (st (π.idxOf i)).h).eval with
      | none => simp [h1] at he
      | some v =>
        rw [h1] at he
        simp only [Option.bind_some, Tr.eval, Option.some.injEq] at he
        have hrl := hlog.2.1 hlo
        have hin : ∀ id, (id ∈ hardOf o (evs (st (π.idxOf i)).sl) ∨ id ∈ softOf o (evs (st (π.idxOf i)).sl)) → id < (st (π.idxOf i)).h.length := by
          intro id hid
          have := hlog.1
          unfold readsIn at this
          have := List.all_eq_true.1 this id (List.mem_append.2 hid)
          simpa using this
        have hnt : ∀ id, (id ∈ hardOf o (evs (st (π.idxOf i)).sl) ∨ id ∈ softOf o (evs (st (π.idxOf i)).sl)) → ¬ Nt ops π st listed hp id := by
          rintro id hid ⟨q, oq, q1, q2, q3, q4, q5, q6, q7⟩
          have hql := hqlog q oq q1 q2 q3 id q6 q7
          have h2 := List.all_eq_true.1 (List.all_eq_true.1 hlog2 _ hrl) _ hql
          simp only [Bool.or_eq_true, Bool.and_eq_true, Bool.not_eq_true'] at h2
          rcases h2 with h2 | ⟨h2, h3⟩
          · exact q5 (hbef q h2)
          · rcases hid with hid | hid
            · rw [show (hardOf o (evs (st (π.idxOf i)).sl)).contains id = true by simpa using hid] at h2
              cases h2
            · rw [show (softOf o (evs (st (π.idxOf i)).sl)).contains id = true by simpa using hid] at h3
              cases h3
        have hdis : ∀ (j : Nat) ws bs rc, (j, ws, bs, rc) ∈ l.louds → before (predsOf ops.toList) i j = false → before (predsOf ops.toList) j i = false →
            (∀ id ∈ hardOf o (evs (st (π.idxOf i)).sl), id ∉ ws) ∧ ∀ id ∈ softOf o (evs (st (π.idxOf i)).sl), id ∉ bs := by
          intro j ws bs rc hjw hb1 hb2
          have h3 := List.all_eq_true.1 (List.all_eq_true.1 hlog1 _ hrl) _ hjw
          simp only [hb1, hb2, Bool.false_or, Bool.and_eq_true] at h3
          refine ⟨fun id hid hmem => ?_, fun id hid hmem => ?_⟩
          · have h4 := List.all_eq_true.1 h3.1 id hid
            rw [show ws.contains id = true by simpa using hmem] at h4
            cases h4
          · have h4 := List.all_eq_true.1 h3.2 id hid
            rw [show bs.contains id = true by simpa using hmem] at h4
            cases h4
        have hunord : ∀ (q j : Nat) oj, π[q]? = some j → q < ops.size → ops[j]? = some oj → Loud oj → (π.idxOf i ≤ q ∧ q < hp ∨ hp ≤ q ∧ q < π.idxOf i) → before (predsOf ops.toList) i j = false ∧ before (predsOf ops.toList) j i = false := by
          intro q j oj hj hq hoj hlf hor
          have hqj : π.idxOf j = q := R.ord.at_pos hq hj
          have hjn : j < ops.size := getElem?_lt hoj
          constructor
          · cases hb : before (predsOf ops.toList) i j with
            | false => rfl
            | true =>
              have h5 := hposg j hjn hb
              rcases hor with ⟨h6, h7⟩ | ⟨h6, h7⟩
              · exact absurd ((IX.loud j oj hoj hlf).2 (by omega)) (haft j hb)
              · omega
          · cases hb : before (predsOf ops.toList) j i with
            | false => rfl
            | true =>
              have h5 := hposl j hb
              rcases hor with ⟨h6, h7⟩ | ⟨h6, h7⟩
              · omega
              · have := (IX.loud j oj hoj hlf).1 (hbef j hb)
                omega
        have hidk : ∀ id, (id ∈ hardOf o (evs (st (π.idxOf i)).sl) ∨ id ∈ softOf o (evs (st (π.idxOf i)).sl)) → id < (st hp).h.length := by
          intro id hid
          rw [← hkl, ← hst.hr.len]
          have : ∃ x ∈ o.op.operands, id ∈ refAV (evs (st (π.idxOf i)).sl x) := by
            rcases hid with hid | hid
            · unfold hardOf at hid
              split at hid
              · rename_i t x hop; exact ⟨x, by rw [hop]; simp [Op.operands], hid⟩
              · rename_i s d x hop; exact ⟨x, by rw [hop]; simp [Op.operands], hid⟩
              · cases hid
            · unfold softOf at hid
              split at hid
              · rename_i t x ix hop; exact ⟨x, by rw [hop]; simp [Op.operands], hid⟩
              · rename_i t x lo hi mx hop; exact ⟨x, by rw [hop]; simp [Op.operands], hid⟩
              · cases hid
          obtain ⟨x, hx, hidx⟩ := this
          have := hops x
          simp only [if_pos hx] at this
          exact VR.refs this id hidx
        have hhard : ∀ id ∈ hardOf o (evs (st (π.idxOf i)).sl), (st (π.idxOf i)).h.at id = k.at id := by
          intro id hid
          rw [IX.nul.at_ (hnt id (.inl hid))]
          unfold AHeap.at
          congr 1
          rcases Nat.le_total (π.idxOf i) hp with hle | hle
          · obtain ⟨d, hd⟩ := Nat.le.dest hle
            have := R.keep (π.idxOf i) id (hin id (.inl hid)) d (by omega) fun q h1 h2 j oj hj hoj hl ws bs rc hjw => by
              obtain ⟨b1, b2⟩ := hunord q j oj hj (by omega) hoj hl (.inl ⟨h1, by omega⟩)
              exact (hdis j ws bs rc hjw b1 b2).1 id hid
            rw [hd] at this
            exact this.symm
          · obtain ⟨d, hd⟩ := Nat.le.dest hle
            have := R.keep hp id (hidk id (.inl hid)) d (by omega) fun q h1 h2 j oj hj hoj hl ws bs rc hjw => by
              obtain ⟨b1, b2⟩ := hunord q j oj hj (by omega) hoj hl (.inr ⟨h1, by omega⟩)
              exact (hdis j ws bs rc hjw b1 b2).1 id hid
            rw [hd] at this
            exact this
        have hsoft : ∀ id ∈ softOf o (evs (st (π.idxOf i)).sl), shEq ((st (π.idxOf i)).h.at id) (k.at id) = true := by
          intro id hid
          rw [IX.nul.at_ (hnt id (.inr hid))]
          rcases Nat.le_total (π.idxOf i) hp with hle | hle
          · obtain ⟨d, hd⟩ := Nat.le.dest hle
            have := R.soft (π.idxOf i) id (hin id (.inr hid)) d (by omega) fun q h1 h2 j oj hj hoj hl ws bs rc hjw => by
              obtain ⟨b1, b2⟩ := hunord q j oj hj (by omega) hoj hl (.inl ⟨h1, by omega⟩)
              exact (hdis j ws bs rc hjw b1 b2).2 id hid
            rw [hd] at this
            exact this
          · obtain ⟨d, hd⟩ := Nat.le.dest hle
            have := R.soft hp id (hidk id (.inr hid)) d (by omega) fun q h1 h2 j oj hj hoj hl ws bs rc hjw => by
              obtain ⟨b1, b2⟩ := hunord q j oj hj (by omega) hoj hl (.inr ⟨h1, by omega⟩)
              exact (hdis j ws bs rc hjw b1 b2).2 id hid
            rw [hd] at this
            exact shEq_symm this
        have hcong := alight_congr (G := G.toCtx) (o := o) (ρ := evs (st (π.idxOf i)).sl) (ρ2 := fun x => if x ∈ o.op.operands then evs (st (π.idxOf i)).sl x else .c .any) (h := (st (π.idxOf i)).h) (h' := k) (fun x hx => by simp only [if_pos hx]) hhard hsoft
        rw [hcong] at h1
        obtain ⟨x, hr, hv⟩ := light_ok hG.g hG.f hops hst.hr h1
        unfold Oper.wp
        rw [hr]
        have hnt2 := ntEq (.inl hlo)
        refine hK _ _ (RIX.next R I ho hni hpre hhp (loudSame hnl) (quietUp hp (Nat.le_refl _)) ⟨IX.nul.len, fun id h => IX.nul.off id ((hnt2 id).1 h), fun id h => IX.nul.on id fun h' => h ((hnt2 id).2 h')⟩ (fun id h => IX.marks id ((hnt2 id).1 h)) hslots (fun _ _ h => h) hst fun t ht hlt => ?_)
        rw [← he, ht]
        simp only [putA, List.getD_eq_getElem?_getD]
        rw [List.getElem?_set_self (by rw [hlen1]; exact hlt)]
        exact hv
    · -- it makes or writes memory
      rename_i hlo
      have hlo' : isLight o.op = false := by simpa using hlo
      rw [Tr.eval_bind] at he
      cases h1 : (aheavy G o (evs (st (π.idxOf i)).sl) (st (π.idxOf i)).h).eval with
      | none => simp [h1] at he
      | some vh =>
        obtain ⟨v, h'⟩ := vh
        rw [h1] at he
        simp only [Option.bind_some, Tr.eval, Option.some.injEq] at he
        cases hq : isQuiet o.op with
        | true =>
          -- it makes a block, and looks at none
          have hnl : ¬ Loud o := fun h => by rw [h.2] at hq; cases hq
          have hpos := hwhereQ hlo' hq
          rw [aheavy_congr (ρ2 := fun x => if x ∈ o.op.operands then evs (st (π.idxOf i)).sl x else .c .any) (fun x hx => by simp only [if_pos hx])] at h1
          obtain ⟨b, mk, hh', hvmk, hform, hrefs⟩ := quiet_form hq h1
          generalize hid : (st (π.idxOf i)).h.length = id at hvmk
          have hup : (st (π.idxOf i + 1)).h = (st (π.idxOf i)).h ++ [some b] := by rw [← he, ← hh']
          have hupl : (st (π.idxOf i + 1)).h.length = id + 1 := by rw [hup]; simp [hid]
          have hNt : Nt ops π st listed hp id := ⟨i, o, ho, hlo', hq, hpos, hni, hid.symm, hupl⟩
          have hNt' : ∀ id', Nt ops π st (listed.setIfInBounds i true) hp id' ↔ Nt ops π st listed hp id' ∧ id' ≠ id := by
            intro id'
            constructor
            · rintro ⟨q, oq, q1, q2, q3, q4, q5, q6, q7⟩
              have hqi : q ≠ i := fun e => q5 ((hset q).2 (.inl e))
              refine ⟨⟨q, oq, q1, q2, q3, q4, fun h => q5 ((hset q).2 (.inr h)), q6, q7⟩, ?_⟩
              have hne : π.idxOf q ≠ π.idxOf i := by
                intro e
                have h2 := (R.ord.at_ (getElem?_lt q1)).2
                rw [e, hpi] at h2
                cases h2
                exact hqi rfl
              rcases Nat.lt_or_ge (π.idxOf q) (π.idxOf i) with h3 | h3
              · obtain ⟨d, hd⟩ := Nat.le.dest (show π.idxOf q + 1 ≤ π.idxOf i by omega)
                have := R.mono (π.idxOf q + 1) d (by omega)
                rw [hd] at this
                omega
              · obtain ⟨d, hd⟩ := Nat.le.dest (show π.idxOf i + 1 ≤ π.idxOf q by omega)
                have := R.mono (π.idxOf i + 1) d (by omega)
                rw [hd] at this
                omega
            · rintro ⟨⟨q, oq, q1, q2, q3, q4, q5, q6, q7⟩, hne⟩
              refine ⟨q, oq, q1, q2, q3, q4, fun h => ?_, q6, q7⟩
              rcases (hset q).1 h with rfl | h
              · exact hne (by rw [q6, hid])
              · exact q5 h
          have hlast : (st hp).h[id]? = some (some b) := by
            obtain ⟨d, hd⟩ := Nat.le.dest (show π.idxOf i + 1 ≤ hp by omega)
            have := R.keep (π.idxOf i + 1) id (by omega) d (by omega) fun q h1 h2 j oj hj hoj hl ws bs rc hjw => by
              have hqj : π.idxOf j = q := R.ord.at_pos (by omega) hj
              have h3 := List.all_eq_true.1 (List.all_eq_true.1 hlog3 _ hjw) _ (hqlog i o ho hlo' hq id hid.symm hupl)
              simp only [Bool.or_eq_true, Bool.and_eq_true, Bool.not_eq_true'] at h3
              intro hmem
              rcases h3 with h3 | h3
              · exact haft j h3 ((IX.loud j oj hoj hl).2 (by omega))
              · rw [show ws.contains id = true by simpa using hmem] at h3
                cases h3.1
            rw [hd] at this
            rw [this, hup, ← hid]
            simp
          refine quiet_put hG hops hst.hr (Nat.le_trans I.hB hst.fr.size) (hform k) hrefs (IX.nul.off id hNt) (IX.marks id hNt) K Q fun p x w' hHR hExt hFr hOwn hv => ?_
          refine hK _ _ (RIX.next R I ho hni hpre hhp (loudSame hnl) (quietUp hp (Nat.le_refl _)) ⟨by simp [hkl], fun id' h => ?_, fun id' h => ?_⟩ (fun id' h => ?_) hslots (fun v y hvy => VR.imp (fun c y h => CR.extM hExt h) hvy) ⟨?_, hHR, hst.fr.trans hFr fun q hq => hst.own q hq, fun q hq => ?_⟩ fun t ht hlt => ?_)
          · obtain ⟨h2, h3⟩ := (hNt' id').1 h
            rw [List.getElem?_set_ne (fun e => h3 e.symm)]
            exact IX.nul.off id' h2
          · by_cases e : id' = id
            · subst e
              rw [hlast, List.getElem?_set_self (by rw [hkl]; exact (List.getElem?_eq_some_iff.1 hlast).1)]
            · rw [List.getElem?_set_ne (fun e' => e e'.symm)]
              exact IX.nul.on id' fun h' => h ((hNt' id').2 ⟨h', e⟩)
          · obtain ⟨h2, h3⟩ := (hNt' id').1 h
            rw [List.getElem?_set_ne (fun e => h3 e.symm)]
            exact IX.marks id' h2
          · intro q p' hp'
            have hlt : q < m0.length := (List.getElem?_eq_some_iff.1 hp').1
            have hlow := I.low
            have h0 := R.mono 0 (π.idxOf i) (by omega)
            rw [Nat.zero_add] at h0
            rw [List.getElem?_set_ne (by omega)]
            exact hst.ext q p' hp'
          · rcases hOwn q hq with h2 | h2
            · exact hst.own q h2
            · exact .inr (Nat.le_trans hst.fr.size h2)
          · rw [← he, ht]
            simp only [putA, List.getD_eq_getElem?_getD]
            rw [List.getElem?_set_self (by rw [hlen1]; exact hlt), hvmk]
            exact hv
        | false =>
          have hl : Loud o := ⟨hlo', hq⟩
          have hpe := hwhereL hl
          have hnt : ∀ id ∈ reachOf o (evs (st (π.idxOf i)).sl) (st (π.idxOf i)).h, ¬ Nt ops π st listed hp id := by
            rintro id hid ⟨q, oq, q1, q2, q3, q4, q5, q6, q7⟩
            have hql := hqlog q oq q1 q2 q3 id q6 q7
            obtain ⟨_, _, hlg⟩ := hlog.2.2.2 hl
            have h2 := List.all_eq_true.1 (List.all_eq_true.1 hlog3 _ hlg) _ hql
            simp only [Bool.or_eq_true, Bool.and_eq_true, Bool.not_eq_true'] at h2
            rcases h2 with h2 | ⟨_, h2⟩
            · exact q5 (hbef q h2)
            · rw [show (reachOf o (evs (st (π.idxOf i)).sl) (st (π.idxOf i)).h).contains id = true by simpa using hid] at h2
              cases h2
          have hN : Nul (Nt ops π st listed hp) (st (π.idxOf i)).h k := by rw [hpe]; exact IX.nul
          obtain ⟨k', h2, hN'⟩ := aheavy_nul hN hq hnt h1
          rw [aheavy_congr (ρ2 := fun x => if x ∈ o.op.operands then evs (st (π.idxOf i)).sl x else .c .any) (fun x hx => by simp only [if_pos hx])] at h2
          have hh' : (st (hp + 1)).h = h' := by rw [← hpe, ← he]
          have hnu := ntUp hl
          refine heavy_ok hG hops hst.hr (Nat.le_trans I.hB hst.fr.size) h2 K Q fun m' x w' hst' hv => ?_
          refine hK _ _ (RIX.next R I ho hni hpre (hp' := hp + 1) (by omega) (loudUp hl) (quietUp (hp + 1) (Nat.le_succ _)) ⟨by rw [hh']; exact hN'.len, fun id h => hN'.off id ((hnu id).1 h), fun id h => by rw [hh']; exact hN'.on id fun h' => h ((hnu id).2 h')⟩
            (fun id h => hst'.ext _ _ (IX.marks id ((hnu id).1 h))) hslots (fun _ _ h => VR.ext hst'.ext h) (hst.trans hst') fun t ht hlt => ?_)
          rw [← he, ht]
          simp only [putA, List.getD_eq_getElem?_getD]
          rw [List.getElem?_set_self (by rw [hlen1]; exact hlt)]
          exact hv
  · -- it is not
    have hw : Region.wanted o (yielded ops a.tmps) = false := by
      unfold No at hno
      cases hg : o.guard with
      | none => rw [hg] at hno; cases hno
      | some gw =>
        obtain ⟨g, want⟩ := gw
        rw [hg] at hno
        obtain ⟨t, ht, hv⟩ := hno
        obtain ⟨hr, hor⟩ := hlook t (hguard g want t hg ht)
        have hlt : t < a.tmps.size := by
          rcases hor with h | h
          · exact h
          · rcases hv with hv | ⟨vs, hv⟩ <;> rw [hv] at h <;> cases h
        have hex : ∀ y, a.tmps.getD t undef = y → a.tmps[t]? = some y := fun y hy => by
          rw [Array.getD_eq_getD_getElem?, Array.getElem?_eq_getElem hlt] at hy
          rw [Array.getElem?_eq_getElem hlt, ← hy]
          rfl
        rcases hv with hv | ⟨vs, hv⟩
        · rw [hv] at hr
          have htm := hex _ (show a.tmps.getD t undef = .bool (!want) from hr)
          simp only [Region.wanted, hg, yielded, ht, htm, Option.bind_some]
          cases want <;> rfl
        · rw [hv] at hr
          have htm := hex _ (show a.tmps.getD t undef = .tuple vs from hr)
          simp only [Region.wanted, hg, yielded, ht, htm, Option.bind_some]
          rfl
    rw [if_neg (by rw [hw]; simp)]
    have hsame : (st (π.idxOf i + 1)).h = (st (π.idxOf i)).h := by rw [hsk]; rfl
    have hres : ∀ t, o.dst = some t → t < (st 0).sl.length → VR m ((st (π.idxOf i + 1)).sl.getD t (.c .any)) undef := by
      intro t ht hlt
      rw [hsk]
      simp only [skipOp, ht, putA, List.getD_eq_getElem?_getD]
      rw [List.getElem?_set_self (by rw [hlen1]; exact hlt)]
      exact (rfl : CR m (.v undef) undef)
    by_cases hl : Loud o
    · have hpe := hwhereL hl
      have hnu := ntUp hl
      have hh' : (st (hp + 1)).h = (st hp).h := by rw [← hpe]; exact hsame
      exact hK _ _ (RIX.next R I ho hni hpre (hp' := hp + 1) (by omega) (loudUp hl) (quietUp (hp + 1) (Nat.le_succ _)) ⟨by rw [hh']; exact IX.nul.len, fun id h => IX.nul.off id ((hnu id).1 h), fun id h => by rw [hh']; exact IX.nul.on id fun h' => h ((hnu id).2 h')⟩
        (fun id h => IX.marks id ((hnu id).1 h)) hslots (fun _ _ h => h) hst hres)
    · have hnt2 := ntEq (.inr (.inr hsame))
      exact hK _ _ (RIX.next R I ho hni hpre hhp (loudSame hl) (quietUp hp (Nat.le_refl _)) ⟨IX.nul.len, fun id h => IX.nul.off id ((hnt2 id).1 h), fun id h => IX.nul.on id fun h' => h ((hnt2 id).2 h')⟩ (fun id h => IX.marks id ((hnt2 id).1 h)) hslots (fun _ _ h => h) hst hres)
end
end Go.Proofs.Ytcpahifgdppkbaa.QAI
