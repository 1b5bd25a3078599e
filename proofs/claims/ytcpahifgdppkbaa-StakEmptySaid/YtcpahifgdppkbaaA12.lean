/- Calls: a function is known by what it makes of its arguments and of what they lead to. -/
import Derived.Test.YtcpahifgdppkbaaA11
set_option linter.unusedVariables false
set_option linter.unusedSimpArgs false
namespace Go.Proofs.Ytcpahifgdppkbaa.QAI
open Go Go.RowKit

def SpecOk (P : Program) (f : FuncId) (F : Spec) : Prop :=
  ∀ (B : Nat) args H r H', (F args H).eval = some (r, H') → ∀ m w (vals : Array Value), HR B m H w → B ≤ w.heap.size → VRs m args vals.toList →
    Calls P f vals w fun e w' => ∃ m' x, e = .returned x ∧ Step B m H w m' H' w' ∧ VR m' r x

section
variable {m m1 : List Pl} {h hs : AHeap} {w w' : World} {B : Nat} {R : List Nat}

theorem merge_get {id : Nat} {b : ABlk} (hd : R.Nodup) (hlt : ∀ x ∈ R, x < h.length) (he : (mergeIn h R hs)[id]? = some (some b)) :
    (id ∉ R ∧ id < h.length ∧ h[id]? = some (some b)) ∨ (∃ (k : Nat) (b1 : ABlk), hs[k]? = some (some b1) ∧ b = renB (backIn R h.length) b1 ∧ backIn R h.length k = some id ∧ (k < R.length → R[k]? = some id)) := by
  unfold mergeIn at he
  rcases Nat.lt_or_ge id h.length with hl | hl
  · rw [List.getElem?_append_left (by simpa using hl), List.getElem?_map, List.getElem?_range hl] at he
    simp only [Option.map_some, Option.some.injEq] at he
    split at he
    · rename_i hc
      right
      have hm : id ∈ R := by simpa using hc
      have hidx := List.idxOf_lt_length_iff.2 hm
      have hR : R[R.idxOf id]? = some id := by rw [List.getElem?_eq_getElem hidx, List.getElem_idxOf]
      cases e : hs[R.idxOf id]? with
      | none => simp [e] at he
      | some o =>
        cases o with
        | none => simp [e] at he
        | some b1 =>
          rw [e] at he
          simp only [Option.join_some, Option.map_some, Option.some.injEq] at he
          refine ⟨R.idxOf id, b1, e, he.symm, ?_, fun _ => hR⟩
          unfold backIn
          rw [if_pos hidx, List.getD_eq_getElem?_getD, hR]
          rfl
    · rename_i hc
      left
      refine ⟨by simpa using hc, hl, ?_⟩
      cases e : h[id]? with
      | none => simp [e] at he
      | some o => rw [e] at he; simp at he; rw [he]
  · rw [List.getElem?_append_right (by simpa using hl)] at he
    simp only [List.length_map, List.length_range, List.getElem?_map, List.getElem?_drop, Option.map_eq_some_iff] at he
    obtain ⟨o, ho, b1, rfl, rfl⟩ := he
    right
    refine ⟨R.length + (id - h.length), b1, ho, rfl, ?_, fun hk => by omega⟩
    unfold backIn
    rw [if_neg (by omega)]
    congr 1
    omega

theorem acall_ok {P : Program} {f : FuncId} {F : Spec} (hF : SpecOk P f F) {args : List AV} {vals : Array Value} {r : AV} {h' : AHeap} (H : HR B m h w) (hB : B ≤ w.heap.size) (hv : VRs m args vals.toList) (he : (acall F args h).eval = some (r, h')) :
    Calls P f vals w fun e w' => ∃ m' x, e = .returned x ∧ Step B m h w m' h' w' ∧ VR m' r x := by
  rw [acall_def] at he
  obtain ⟨l, hRe, hRd, hRb⟩ := closeOf_ok h 10000 (refAVs args) []
  generalize hR : closeOf h 10000 (refAVs args) [] = R at he hRe
  simp only [List.nil_append] at hRe hRd
  subst hRe
  have hd : R.Nodup := hRd List.nodup_nil
  simp only [Tr.eval_bind] at he
  cases hs0 : (F (renAVs (idxIn R) args) (subHeap h R)).eval with
  | none => rw [hs0] at he; simp at he
  | some rh =>
    obtain ⟨rs, hs⟩ := rh
    rw [hs0] at he
    simp only [Option.bind_some, Tr.eval, Option.some.injEq, Prod.mk.injEq] at he
    obtain ⟨rfl, rfl⟩ := he
    have hsub := H.sub hd hRb
    refine (hF B _ _ rs hs hs0 (subPl m R) w vals hsub hB (VRs.ren (subPl_ren R) hv)).mono ?_
    rintro e w' ⟨m1, x, rfl, hst, hvr⟩
    have hRm : ∀ x ∈ R, x < m.length := fun x hx => by rw [H.len]; exact hRb x hx
    have hsubl : (subPl m R).length = R.length := by simp [subPl]
    have hm1 : R.length ≤ m1.length := by
      rcases Nat.eq_zero_or_pos R.length with h0 | h0
      · omega
      · have hlt : R.length - 1 < (subPl m R).length := by omega
        have := hst.ext _ _ (List.getElem?_eq_getElem hlt)
        have := (List.getElem?_eq_some_iff.1 this).1
        omega
    -- places, back
    have hback : RenOk (backIn R h.length) m1 (m ++ m1.drop R.length) := by
      intro i k hk p hp
      unfold backIn at hk
      simp only [Option.some.injEq] at hk
      subst hk
      split
      · rename_i hi
        obtain ⟨y, hy⟩ : ∃ y, R[i]? = some y := ⟨_, List.getElem?_eq_getElem hi⟩
        have hym := hRm y (List.mem_of_getElem? hy)
        have h1 := hst.ext _ _ (subPl_get (m := m) hy (List.getElem?_eq_getElem hym))
        rw [h1] at hp
        cases hp
        rw [List.getD_eq_getElem?_getD, hy, Option.getD_some, List.getElem?_append_left hym]
        exact List.getElem?_eq_getElem hym
      · rename_i hi
        rw [← H.len, List.getElem?_append_right (by omega), List.getElem?_drop, show R.length + (m.length + (i - R.length) - m.length) = i by omega]
        exact hp
    refine ⟨m ++ m1.drop R.length, x, rfl, ?_, VR.ren hback hvr⟩
    have hownsub : ∀ k, Own (subPl m R) (subHeap h R) k → Own m h k := fun k hk => Own.sub H hRb hk
    -- what the callee may write is apart from what it does not know
    have hapartBlk : ∀ {id : Nat} {b : ABlk} {p : Pl} {A : Addr}, id ∉ R → h[id]? = some (some b) → m[id]? = some p → p.A = some A → (0 < b.c.n ∨ b.own = true) → ¬ Own (subPl m R) (subHeap h R) A.block := by
      intro id b p A hni hb hp hA hor hown
      obtain ⟨i, b1, p1, A1, hb1, ho1, hp1, hA1, hblk⟩ := hown
      obtain ⟨id0, b0, hk0, hb0, rfl⟩ := subHeap_get hb1
      have hid0 : id0 ∈ R := List.mem_of_getElem? hk0
      have hne : id ≠ id0 := fun e => hni (e ▸ hid0)
      have hm0 := hRm id0 hid0
      have hp0 : m[id0]? = some p1 := by
        have := subPl_get (m := m) hk0 (List.getElem?_eq_getElem hm0)
        rw [this] at hp1
        cases hp1
        exact List.getElem?_eq_getElem hm0
      by_cases hbo : b.own = true
      · exact H.apart id id0 b b0 p p1 A A1 hne hb hb0 hbo ho1 hp hp0 hA hA1 hblk.symm
      · have hbf : b.own = false := by simpa using hbo
        have hn : 0 < b.c.n := by rcases hor with h0 | h0; exact h0; exact absurd h0 hbo
        have h1 := (H.blk id b p hb hp).came hbf A hA hn
        have h2 := (((H.blk id0 b0 p1 hb0 hp0).own ho1).2 A1 hA1).2.2.1
        omega
    have pl1 : ∀ {id : Nat} {p : Pl}, id < h.length → (m ++ m1.drop R.length)[id]? = some p → m[id]? = some p := by
      intro id p hl hp
      rwa [List.getElem?_append_left (by rw [H.len]; exact hl)] at hp
    have pl2 : ∀ {k id : Nat} {p : Pl}, k < m1.length → backIn R h.length k = some id → (m ++ m1.drop R.length)[id]? = some p → m1[k]? = some p := by
      intro k id p hk hbk hp
      have := hback k id hbk _ (List.getElem?_eq_getElem hk)
      rw [this] at hp
      cases hp
      exact List.getElem?_eq_getElem hk
    have hslen := hst.hr.len
    refine ⟨Ext.app _ _, { len := by simp only [List.length_append, List.length_drop, mergeIn, List.length_map, List.length_range]; rw [hslen, H.len], blk := ?_, apart := ?_ }, ⟨hst.fr.os, hst.fr.tape, hst.fr.output, hst.fr.size, fun k hk hX => hst.fr.blk k hk fun ho => hX (hownsub k ho)⟩, ?_⟩
    · intro id b p hb hp
      rcases merge_get hd hRb hb with ⟨hni, hl, hb⟩ | ⟨k, b1, hk, rfl, hbk, _⟩
      · have hp' := pl1 hl hp
        exact ((H.blk id b p hb hp').keep fun A hA hlt hor => hst.fr.blk _ hlt (hapartBlk hni hb hp' hA hor)).ext (Ext.app _ _)
      · have hk1 : k < m1.length := by rw [hslen]; exact (List.getElem?_eq_some_iff.1 hk).1
        exact (hst.hr.blk k b1 p hk (pl2 hk1 hbk hp)).ren hback
    · intro id id' b b' p p' A A' hne hb hb' ho ho' hp hp' hA hA'
      have mixed : ∀ {id : Nat} {b : ABlk} {p : Pl} {A : Addr} {k : Nat} {b1 : ABlk} {p1 : Pl} {A1 : Addr}, id ∉ R → id < h.length → h[id]? = some (some b) → b.own = true → m[id]? = some p → p.A = some A →
          hs[k]? = some (some b1) → b1.own = true → m1[k]? = some p1 → p1.A = some A1 → A.block ≠ A1.block := by
        intro id b p A k b1 p1 A1 hni hl hb ho hp hA hk ho1 hp1 hA1 heq
        rcases hst.own A1.block ⟨k, b1, p1, A1, hk, ho1, hp1, hA1, rfl⟩ with hown | hge
        · rw [← heq] at hown
          exact hapartBlk hni hb hp hA (.inr ho) hown
        · obtain ⟨_, _, _, cs0, hc0, _⟩ := ((H.blk id b p hb hp).own ho).2 A hA
          have := (Array.getElem?_eq_some_iff.1 hc0).1
          omega
      rcases merge_get hd hRb hb with ⟨hni, hl, hb⟩ | ⟨k, b1, hk, rfl, hbk, _⟩ <;> rcases merge_get hd hRb hb' with ⟨hni', hl', hb'⟩ | ⟨k', b1', hk', rfl, hbk', _⟩
      · exact H.apart id id' b b' p p' A A' hne hb hb' ho ho' (pl1 hl hp) (pl1 hl' hp') hA hA'
      · have hk1 : k' < m1.length := by rw [hslen]; exact (List.getElem?_eq_some_iff.1 hk').1
        exact mixed hni hl hb ho (pl1 hl hp) hA hk' ho' (pl2 hk1 hbk' hp') hA'
      · have hk1 : k < m1.length := by rw [hslen]; exact (List.getElem?_eq_some_iff.1 hk).1
        exact fun e => mixed hni' hl' hb' ho' (pl1 hl' hp') hA' hk ho (pl2 hk1 hbk hp) hA e.symm
      · have hk1 : k < m1.length := by rw [hslen]; exact (List.getElem?_eq_some_iff.1 hk).1
        have hk1' : k' < m1.length := by rw [hslen]; exact (List.getElem?_eq_some_iff.1 hk').1
        refine hst.hr.apart k k' b1 b1' p p' A A' ?_ hk hk' ho ho' (pl2 hk1 hbk hp) (pl2 hk1' hbk' hp') hA hA'
        intro e
        subst e
        rw [hbk] at hbk'
        cases hbk'
        exact hne rfl
    · intro q hq
      obtain ⟨id, b, p, A, hb, ho, hp, hA, rfl⟩ := hq
      rcases merge_get hd hRb hb with ⟨hni, hl, hb⟩ | ⟨k, b1, hk, rfl, hbk, _⟩
      · exact .inl ⟨id, b, p, A, hb, ho, pl1 hl hp, hA, rfl⟩
      · have hk1 : k < m1.length := by rw [hslen]; exact (List.getElem?_eq_some_iff.1 hk).1
        rcases hst.own A.block ⟨k, b1, p, A, hk, ho, pl2 hk1 hbk hp, hA, rfl⟩ with hown | hge
        · exact .inl (hownsub _ hown)
        · exact .inr hge
end
end Go.Proofs.Ytcpahifgdppkbaa.QAI
