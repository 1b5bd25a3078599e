/- A block that is made later, or earlier, than the order says: it is put where the order has it. -/
import Derived.Test.YtcpahifgdppkbaaAN
set_option linter.unusedVariables false
set_option linter.unusedSimpArgs false
namespace Go.Proofs.Ytcpahifgdppkbaa.QAI
open Go Go.RowKit

theorem CR.refs {m : List Pl} {c : AC} {y : Value} (h : CR m c y) : ∀ id ∈ refAC c, id < m.length := by
  intro id hid
  cases c with
  | any => simp [refAC] at hid
  | v x => simp [refAC] at hid
  | ptr i a b =>
    simp only [refAC, List.mem_singleton] at hid
    subst hid
    obtain ⟨p, _, hp, _⟩ := h
    exact (List.getElem?_eq_some_iff.1 hp).1
  | sl i a b =>
    simp only [refAC, List.mem_singleton] at hid
    subst hid
    obtain ⟨p, _, _, hp, _⟩ := h
    exact (List.getElem?_eq_some_iff.1 hp).1
mutual
theorem VR.refs {m : List Pl} : ∀ {v : AV} {y : Value}, VR m v y → ∀ id ∈ refAV v, id < m.length
  | .c x, y, h, id, hid => CR.refs (by simpa only [VR] using h) id (by simpa [refAV] using hid)
  | .agg l, y, h, id, hid => by
    simp only [VR] at h
    obtain ⟨cs, _, hF⟩ := h
    simp only [refAV, List.mem_flatMap] at hid
    obtain ⟨c, hc, hid⟩ := hid
    obtain ⟨q, hq⟩ := List.getElem?_of_mem hc
    obtain ⟨z, _, hr⟩ := hF.get q c hq
    exact hr.refs id hid
  | .arr n f, y, h, id, hid => by simp [refAV] at hid
  | .tup l, y, h, id, hid => by
    simp only [VR] at h
    obtain ⟨vs, _, hF⟩ := h
    exact VRs.refs hF id (by simpa [refAV] using hid)
theorem VRs.refs {m : List Pl} : ∀ {l : List AV} {k : List Value}, VRs m l k → ∀ id ∈ refAVs l, id < m.length
  | [], _, _, id, hid => by simp [refAVs] at hid
  | x :: l, [], h, _, _ => by simp [VRs] at h
  | x :: l, y :: k, h, id, hid => by
    simp only [VRs] at h
    simp only [refAVs, List.mem_append] at hid
    rcases hid with hid | hid
    · exact VR.refs h.1 id hid
    · exact VRs.refs h.2 id hid
end

/-- What leads to a new block. -/
inductive Mk where
  | ptr
  | sl (n : Nat)
def Mk.av (id : Nat) : Mk → AV
  | .ptr => .c (.ptr id 0 0)
  | .sl n => .c (.sl id 0 n)

theorem cellsOf_refs {x : AV} {l : List AC} (h : cellsOf x = some l) : ∀ c ∈ l, ∀ id ∈ refAC c, id ∈ refAV x := by
  unfold cellsOf at h
  split at h
  · split at h
    · simp only [Option.some.injEq] at h
      subst h
      intro c hc id hid
      simp only [List.mem_singleton] at hc
      subst hc
      exact hid
    · cases h
  · split at h
    · simp only [Option.some.injEq] at h
      subst h
      intro c hc id hid
      exact List.mem_flatMap.2 ⟨c, hc, hid⟩
    · cases h
  · cases h
theorem partsSl_refs {ρ : Operand → AV} : ∀ {ps : List (Nat × Operand)} {s i : Nat} {l : List (List AC)}, partsSl (ps.map fun p => (p.1, ρ p.2)) s i = some l → ∀ x ∈ l, ∀ c ∈ x, ∀ id ∈ refAC c, ∃ p ∈ ps, id ∈ refAV (ρ p.2)
  | [], s, i, l, h => by simp [partsSl] at h; subst h; simp
  | p :: ps, s, i, l, h => by
    simp only [List.map_cons, partsSl] at h
    split at h
    · rename_i lx r hcx hpr
      split at h
      · simp only [Option.some.injEq] at h
        subst h
        intro x hx c hc id hid
        rcases List.mem_cons.1 hx with rfl | hx
        · exact ⟨p, by simp, cellsOf_refs hcx c hc id hid⟩
        · obtain ⟨q, hq, h1⟩ := partsSl_refs hpr x hx c hc id hid
          exact ⟨q, by simp [hq], h1⟩
      · cases h
    · cases h

theorem quiet_form {G : Ctx2} {o : Oper} {ρ : Operand → AV} {h h' : AHeap} {v : AV} (hq : isQuiet o.op = true) (he : (aheavy G o ρ h).eval = some (v, h')) :
    ∃ (b : ABlk) (mk : Mk), h' = h ++ [some b] ∧ v = mk.av h.length ∧ (∀ k : AHeap, (aheavy G o ρ k).eval = some (mk.av k.length, k ++ [some b])) ∧
      ∀ (i j : Nat) c, i < b.c.n → (b.c.el i)[j]? = some c → ∀ id ∈ refAC c, ∃ x ∈ o.op.operands, id ∈ refAV (ρ x) := by
  have flat : ∀ (l : List Value) (j : Nat) c, (ofCells l)[j]? = some c → ∀ id ∈ refAC c, False := by
    intro l j c hc id hid
    simp only [ofCells, List.getElem?_map, Option.map_eq_some_iff] at hc
    obtain ⟨x, _, rfl⟩ := hc
    simp [refAC] at hid
  unfold aheavy at he
  split at he
  · rename_i t ho
    split at he
    · rename_i ti hti
      simp only [Tr.eval, Option.some.injEq, Prod.mk.injEq] at he
      obtain ⟨rfl, rfl⟩ := he
      refine ⟨_, .ptr, rfl, rfl, fun k => by simp only [aheavy, ho, hti]; rfl, ?_⟩
      intro i j c hi hc id hid
      exfalso
      simp only [zeroCont] at hc
      split at hc
      · exact flat _ j c hc id hid
      · exact flat _ j c hc id hid
    · cases he
  · rename_i t x ho
    split at he
    · rename_i ti hti
      split at he
      · rename_i c0 hc0
        simp only [Tr.eval, Option.some.injEq, Prod.mk.injEq] at he
        obtain ⟨rfl, rfl⟩ := he
        refine ⟨_, .ptr, rfl, rfl, fun k => by simp only [aheavy, ho, hti, hc0]; rfl, ?_⟩
        intro i j c hi hc id hid
        unfold newBlk at hc0
        split at hc0
        · split at hc0
          · simp only [Option.some.injEq] at hc0
            subst hc0
            exact (flat _ j c hc id hid).elim
          · cases hc0
        · cases hc0
        · cases hl : cellsOf (ρ x) with
          | none => simp [hl] at hc0
          | some l =>
            rw [hl] at hc0
            simp only [Option.bind_some] at hc0
            split at hc0
            · simp only [Option.some.injEq] at hc0
              subst hc0
              exact ⟨x, by simp [ho, Op.operands], cellsOf_refs hl c (List.mem_of_getElem? hc) id hid⟩
            · cases hc0
      · cases he
    · cases he
  · rename_i t len ps ho
    split at he
    · rename_i e _ _ _ _ _ _ ht
      split at he
      · rename_i ti hti
        split at he
        · rename_i l hl
          split at he
          · rename_i hc
            simp only [Tr.eval, Option.some.injEq, Prod.mk.injEq] at he
            obtain ⟨rfl, rfl⟩ := he
            refine ⟨_, .sl len, rfl, rfl, fun k => by simp only [aheavy, ho, ht, hti, hl]; rw [if_pos hc]; rfl, ?_⟩
            intro i j c hi hc id hid
            have hi' : i < l.length := hi
            have hce : l[i][j]? = some c := by simpa [Cont.el, List.getD_eq_getElem?_getD, hi'] using hc
            obtain ⟨p, hp, h1⟩ := partsSl_refs hl l[i] (List.getElem_mem hi') c (List.mem_of_getElem? hce) id hid
            exact ⟨p.2, by simp only [ho, Op.operands, List.mem_toArray, List.mem_map]; exact ⟨p, hp, rfl⟩, h1⟩
          · cases he
        · cases he
      · cases he
    · cases he
  · rename_i t l c ho
    split at he
    · rename_i e _ _ _ _ _ _ k1 n k2 n' ht hl hc
      split at he
      · rename_i ti hti
        split at he
        · rename_i hf
          obtain ⟨h1, he⟩ := Tr.eval_need.1 he
          obtain ⟨h2, h3, hv⟩ := need2 he
          simp only [Tr.eval, Option.some.injEq, Prod.mk.injEq] at hv
          obtain ⟨rfl, rfl⟩ := hv
          refine ⟨_, .sl n.toNat, rfl, rfl, fun k => ?_, ?_⟩
          · simp only [aheavy, ho, ht, hl, hc, hti]
            rw [if_pos hf]
            exact Tr.eval_need.2 ⟨h1, Tr.eval_need.2 ⟨h2, Tr.eval_need.2 ⟨h3, rfl⟩⟩⟩
          · intro i j c hi hc id hid
            exact (flat _ j c hc id hid).elim
        · cases he
      · cases he
    · cases he
  · rename_i t p x ho; simp [ho, isQuiet] at hq
  · rename_i args ts ho; simp [ho, isQuiet] at hq
  · rename_i f args ts ho; simp [ho, isQuiet] at hq
  · cases he

section
variable {G : Ctx2} {o : Oper} {m : List Pl} {h h' k : AHeap} {w : World} {B : Nat} {a : Act} {v : AV} {ρ : Operand → AV}

theorem quiet_put (hG : XOk G) (hρ : OpsOk m ρ a.eval) (H : HR B m k w) (hB : B ≤ w.heap.size) {b : ABlk} {mk : Mk} (hk : (aheavy G o ρ k).eval = some (mk.av k.length, k ++ [some b]))
    (hrefs : ∀ (i j : Nat) c, i < b.c.n → (b.c.el i)[j]? = some c → ∀ id ∈ refAC c, ∃ x ∈ o.op.operands, id ∈ refAV (ρ x)) {id : Nat} (hid : k[id]? = some none) (hm : m[id]? = some mark)
    (K : Act → World → Prop) (Q : Exit → Act → World → Prop) (hK : ∀ p x w', HR B (m.set id p) (k.set id (some b)) w' → ExtM m (m.set id p) → Fr (Own m k) w w' → (∀ q, Own (m.set id p) (k.set id (some b)) q → Own m k q ∨ w.heap.size ≤ q) →
      VR (m.set id p) (mk.av id) x → K (a.put o.dst x) w') : o.wp G.P a w K Q := by
  refine heavy_ok hG hρ H hB hk K Q fun m' x w' hst hv => ?_
  have hlen : m'.length = m.length + 1 := by rw [hst.hr.len, H.len]; simp
  have hidm : id < m.length := (List.getElem?_eq_some_iff.1 hm).1
  have hidk : id < k.length := by rw [← H.len]; exact hidm
  have hpl : m.length < m'.length := by omega
  generalize hp : m'[m.length] = p
  have hpk : m'[k.length]? = some p := by rw [← H.len, List.getElem?_eq_getElem hpl, hp]
  have hold : ∀ i, i < m.length → m'[i]? = m[i]? := fun i hi => by
    rw [List.getElem?_eq_getElem hi]
    exact hst.ext i _ (List.getElem?_eq_getElem hi)
  have hne : ∀ i, i ≠ id → (m.set id p)[i]? = m[i]? := fun i hi => List.getElem?_set_ne (fun e => hi e.symm)
  have heq : (m.set id p)[id]? = some p := List.getElem?_set_self hidm
  have hkne : ∀ i, i ≠ id → (k.set id (some b))[i]? = k[i]? := fun i hi => List.getElem?_set_ne (fun e => hi e.symm)
  have hkeq : (k.set id (some b))[id]? = some (some b) := List.getElem?_set_self hidk
  have hext : ExtM m (m.set id p) := by
    refine ⟨by simp, fun i q hq => ?_⟩
    by_cases e : i = id
    · subst e
      rw [hm] at hq
      cases hq
      exact .inl rfl
    · exact .inr (by rw [hne i e]; exact hq)
  have back : ∀ c y, (∀ i ∈ refAC c, i < m.length) → CR m' c y → CR (m.set id p) c y := by
    intro c y hr hc
    refine CR.extM hext ?_
    cases c with
    | any => trivial
    | v x => exact hc
    | ptr i _ _ =>
      obtain ⟨q, A, hq, rest⟩ := hc
      rw [hold i (hr i (by simp [refAC]))] at hq
      exact ⟨q, A, hq, rest⟩
    | sl i _ _ =>
      obtain ⟨q, A, c', hq, rest⟩ := hc
      rw [hold i (hr i (by simp [refAC]))] at hq
      exact ⟨q, A, c', hq, rest⟩
  -- where a block stood
  have at' : ∀ {i : Nat} {b1 : ABlk} {q : Pl}, (k.set id (some b))[i]? = some (some b1) → (m.set id p)[i]? = some q →
      ∃ i', (k ++ [some b])[i']? = some (some b1) ∧ m'[i']? = some q ∧ ((i = id ∧ i' = k.length) ∨ (i ≠ id ∧ i' = i ∧ i < k.length)) := by
    intro i b1 q hb hq
    by_cases e : i = id
    · subst e
      rw [hkeq] at hb
      rw [heq] at hq
      cases hb
      cases hq
      exact ⟨k.length, by simp, hpk, .inl ⟨rfl, rfl⟩⟩
    · rw [hkne i e] at hb
      rw [hne i e] at hq
      have hlt : i < k.length := (List.getElem?_eq_some_iff.1 hb).1
      exact ⟨i, by rw [List.getElem?_append_left hlt]; exact hb, by rw [hold i (by rw [H.len]; exact hlt)]; exact hq, .inr ⟨e, rfl, hlt⟩⟩
  refine hK p x w' { len := by simp [H.len], blk := ?_, apart := ?_ } hext hst.fr ?_ ?_
  · intro i b1 q hb hq
    obtain ⟨i', hb', hq', hor⟩ := at' hb hq
    have hbr := hst.hr.blk i' b1 q hb' hq'
    refine hbr.imp fun a1 j c y hi hc hcr => back c y ?_ hcr
    rcases hor with ⟨rfl, rfl⟩ | ⟨hi1, rfl, hlt⟩
    · have : b1 = b := by rw [hkeq] at hb; cases hb; rfl
      subst this
      intro r hr
      obtain ⟨x1, _, hx1⟩ := hrefs a1 j c hi hc r hr
      exact VR.refs (hρ x1) r hx1
    · rw [hkne i' hi1] at hb
      rw [hne i' hi1] at hq
      obtain ⟨_, _, _, _, _, hcr0, _⟩ := (H.blk i' b1 q hb hq).cell a1 j c hi hc
      exact hcr0.refs
  · intro i j b1 b2 q1 q2 A1 A2 hij hb1 hb2 ho1 ho2 hq1 hq2 hA1 hA2
    obtain ⟨i', hb1', hq1', hor1⟩ := at' hb1 hq1
    obtain ⟨j', hb2', hq2', hor2⟩ := at' hb2 hq2
    refine hst.hr.apart i' j' b1 b2 q1 q2 A1 A2 ?_ hb1' hb2' ho1 ho2 hq1' hq2' hA1 hA2
    rcases hor1 with ⟨rfl, rfl⟩ | ⟨_, rfl, h1⟩ <;> rcases hor2 with ⟨rfl, rfl⟩ | ⟨_, rfl, h2⟩
    · exact absurd rfl hij
    · omega
    · omega
    · exact hij
  · intro q hq
    obtain ⟨i, b1, q1, A, hb1, ho1, hq1, hA, rfl⟩ := hq
    obtain ⟨i', hb1', hq1', _⟩ := at' hb1 hq1
    exact hst.own _ ⟨i', b1, q1, A, hb1', ho1, hq1', hA, rfl⟩
  · cases mk with
    | ptr =>
      have hv' : CR m' (.ptr k.length 0 0) x := hv
      obtain ⟨q, A, hq, rest⟩ := hv'
      rw [hpk] at hq
      cases hq
      exact ⟨p, A, heq, rest⟩
    | sl n =>
      have hv' : CR m' (.sl k.length 0 n) x := hv
      obtain ⟨q, A, c', hq, rest⟩ := hv'
      rw [hpk] at hq
      cases hq
      exact ⟨p, A, c', heq, rest⟩
end
end Go.Proofs.Ytcpahifgdppkbaa.QAI
