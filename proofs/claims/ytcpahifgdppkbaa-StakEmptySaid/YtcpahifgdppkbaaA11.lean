/- Places given other numbers. -/
import Derived.Test.YtcpahifgdppkbaaA10
set_option linter.unusedVariables false
set_option linter.unusedSimpArgs false
namespace Go.Proofs.Ytcpahifgdppkbaa.QAI
open Go Go.RowKit

/-- Under g what was told by m is told by m'. -/
def RenOk (g : Nat → Option Nat) (m m' : List Pl) : Prop := ∀ (id k : Nat), g id = some k → ∀ p, m[id]? = some p → m'[k]? = some p

section
variable {g : Nat → Option Nat} {m m' : List Pl} {h : AHeap} {w : World} {B : Nat}

theorem CR.ren (hg : RenOk g m m') {c : AC} {y : Value} (h : CR m c y) : CR m' (renAC g c) y := by
  cases c with
  | any => trivial
  | v x => exact h
  | ptr id i j =>
    obtain ⟨p, A, hp, rest⟩ := h
    simp only [renAC]
    cases e : g id with
    | none => trivial
    | some k => exact ⟨p, A, hg id k e p hp, rest⟩
  | sl id i n =>
    obtain ⟨p, A', c', hp, rest⟩ := h
    simp only [renAC]
    cases e : g id with
    | none => trivial
    | some k => exact ⟨p, A', c', hg id k e p hp, rest⟩

mutual
theorem VR.ren (hg : RenOk g m m') : ∀ {v : AV} {y : Value}, VR m v y → VR m' (renAV g v) y
  | .c x, y, h => by simp only [VR, renAV] at h ⊢; exact h.ren hg
  | .agg l, y, h => by simp only [VR, renAV] at h ⊢; obtain ⟨cs, e, hF⟩ := h; exact ⟨cs, e, by simpa using hF.map (renAC g) id fun a b hr => hr.ren hg⟩
  | .arr n f, y, h => by simp only [VR, renAV] at h ⊢; exact h
  | .tup l, y, h => by simp only [VR, renAV] at h ⊢; obtain ⟨vs, e, hF⟩ := h; exact ⟨vs, e, VRs.ren hg hF⟩
theorem VRs.ren (hg : RenOk g m m') : ∀ {l : List AV} {k : List Value}, VRs m l k → VRs m' (renAVs g l) k
  | [], [], _ => by simp [VRs, renAVs]
  | [], _ :: _, h => by simp [VRs] at h
  | _ :: _, [], h => by simp [VRs] at h
  | x :: l, y :: k, h => by simp only [VRs, renAVs] at h ⊢; exact ⟨VR.ren hg h.1, VRs.ren hg h.2⟩
end

theorem renC_n (g : Nat → Option Nat) (c : Cont) : (renC g c).n = c.n := by cases c <;> simp [renC, Cont.n]
theorem renC_sz (g : Nat → Option Nat) (c : Cont) : (renC g c).sz = c.sz := by cases c <;> simp [renC, Cont.sz]
theorem renC_el (g : Nat → Option Nat) (c : Cont) (i : Nat) : (renC g c).el i = (c.el i).map (renAC g) := by
  cases c with
  | one l => rfl
  | row sz n f => simp [renC, Cont.el, ofCells, renAC]
  | lst sz l z =>
    simp only [renC, Cont.el, List.getD_eq_getElem?_getD, List.getElem?_map]
    cases l[i]? <;> rfl

theorem BR.ren (hg : RenOk g m m') {b : ABlk} {p : Pl} (hb : BR B m b p w) : BR B m' (renB g b) p w :=
  { sz := by rw [hb.sz]; exact (renC_sz g b.c).symm
    len := fun i hi => by
      have hi' : i < b.c.n := by rw [← renC_n g]; exact hi
      show ((renC g b.c).el i).length = p.sz
      rw [renC_el, List.length_map, hb.len i hi']
    cap := by show (renC g b.c).n ≤ p.cap; rw [renC_n]; exact hb.cap
    cell := fun i j c hi hc => by
      have hi' : i < b.c.n := by rw [← renC_n g]; exact hi
      have hc' : ((renC g b.c).el i)[j]? = some c := hc
      rw [renC_el, List.getElem?_map, Option.map_eq_some_iff] at hc'
      obtain ⟨a, ha, rfl⟩ := hc'
      obtain ⟨A, x, hA, hs, hx, hr, h1⟩ := hb.cell i j a hi' ha
      exact ⟨A, x, hA, hs, hx, hr.ren hg, h1⟩
    own := hb.own
    came := fun ho A hA hn => hb.came ho A hA (by rw [← renC_n g]; exact hn) }

/-- The list of what is led to. -/
theorem closeOf_ok (h : AHeap) : ∀ (f : Nat) (todo acc : List Nat), ∃ l, closeOf h f todo acc = acc ++ l ∧ (acc.Nodup → (acc ++ l).Nodup) ∧ ∀ x ∈ l, x < h.length
  | 0, _, acc => ⟨[], by simp [closeOf], by simp, by simp⟩
  | _ + 1, [], acc => ⟨[], by simp [closeOf], by simp, by simp⟩
  | k + 1, id :: todo, acc => by
    simp only [closeOf]
    split
    · exact closeOf_ok h k todo acc
    · rename_i hn
      simp only [Bool.or_eq_true, not_or, Bool.not_eq_true, decide_eq_false_iff_not, Nat.not_le] at hn
      obtain ⟨l, e, hd, hb⟩ := closeOf_ok h k (todo ++ refB (h[id]?).join) (acc ++ [id])
      refine ⟨id :: l, by rw [e]; simp, ?_, ?_⟩
      · intro ha
        have hni : id ∉ acc := by have := hn.1; simpa using this
        have := hd (List.nodup_append.2 ⟨ha, by simp, fun x hx y hy => by simp at hy; subst hy; exact fun e => hni (e ▸ hx)⟩)
        simpa using this
      · intro x hx
        cases hx with
        | head => exact hn.2
        | tail _ hx => exact hb x hx

theorem nodup_inj {R : List Nat} (hd : R.Nodup) {i j x : Nat} (hi : R[i]? = some x) (hj : R[j]? = some x) : i = j := by
  obtain ⟨h1, h2⟩ := List.getElem?_eq_some_iff.1 hi
  obtain ⟨h3, h4⟩ := List.getElem?_eq_some_iff.1 hj
  have hp := List.pairwise_iff_getElem.1 hd
  rcases Nat.lt_trichotomy i j with hlt | rfl | hgt
  · exact absurd (h2.trans h4.symm) (hp i j h1 h3 hlt)
  · rfl
  · exact absurd (h4.trans h2.symm) (hp j i h3 h1 hgt)

theorem idxIn_some {R : List Nat} {id k : Nat} (he : idxIn R id = some k) : R[k]? = some id := by
  unfold idxIn at he
  split at he
  · rename_i hc
    simp only [Option.some.injEq] at he
    subst he
    have hm : id ∈ R := by simpa using hc
    have hlt := List.idxOf_lt_length_iff.2 hm
    rw [List.getElem?_eq_getElem hlt, List.getElem_idxOf]
  · cases he
theorem idxIn_of {R : List Nat} (hd : R.Nodup) {id k : Nat} (he : R[k]? = some id) : idxIn R id = some k := by
  unfold idxIn
  have hm : id ∈ R := List.mem_of_getElem? he
  rw [if_pos (by simpa using hm)]
  congr 1
  have hlt := List.idxOf_lt_length_iff.2 hm
  have h1 : R[R.idxOf id]? = some id := by rw [List.getElem?_eq_getElem hlt, List.getElem_idxOf]
  exact nodup_inj hd h1 he

def subPl (m : List Pl) (R : List Nat) : List Pl := R.map fun id => m.getD id ⟨none, 0, 0⟩

theorem subPl_get {R : List Nat} {id k : Nat} {p : Pl} (he : R[k]? = some id) (hp : m[id]? = some p) : (subPl m R)[k]? = some p := by
  simp [subPl, he, List.getD_eq_getElem?_getD, hp]
theorem subPl_ren (R : List Nat) : RenOk (idxIn R) m (subPl m R) := fun id k he p hp => subPl_get (idxIn_some he) hp

theorem subHeap_get {R : List Nat} {k : Nat} {b : ABlk} (he : (subHeap h R)[k]? = some (some b)) : ∃ id b0, R[k]? = some id ∧ h[id]? = some (some b0) ∧ b = renB (idxIn R) b0 := by
  simp only [subHeap, List.getElem?_map, Option.map_eq_some_iff] at he
  obtain ⟨id, hid, he⟩ := he
  obtain ⟨b0, hb0, rfl⟩ := he
  refine ⟨id, b0, hid, ?_, rfl⟩
  cases e : h[id]? with
  | none => simp [e] at hb0
  | some o => rw [e] at hb0; simp at hb0; rw [hb0]

/-- A part of the heap. -/
theorem HR.sub (H : HR B m h w) {R : List Nat} (hd : R.Nodup) (hlt : ∀ x ∈ R, x < h.length) : HR B (subPl m R) (subHeap h R) w := by
  have pl : ∀ {k id : Nat} {p : Pl}, R[k]? = some id → (subPl m R)[k]? = some p → m[id]? = some p := by
    intro k id p hk hp
    have hid : id < m.length := by rw [H.len]; exact hlt id (List.mem_of_getElem? hk)
    have := subPl_get (m := m) hk (List.getElem?_eq_getElem hid)
    rw [this] at hp
    cases hp
    exact List.getElem?_eq_getElem hid
  refine { len := by simp [subPl, subHeap], blk := ?_, apart := ?_ }
  · intro k b p hb hp
    obtain ⟨id, b0, hk, hb0, rfl⟩ := subHeap_get hb
    exact (H.blk id b0 p hb0 (pl hk hp)).ren (subPl_ren R)
  · intro k k' b b' p p' A A' hne hb hb' ho ho' hp hp' hA hA'
    obtain ⟨id, b0, hk, hb0, rfl⟩ := subHeap_get hb
    obtain ⟨id', b0', hk', hb0', rfl⟩ := subHeap_get hb'
    refine H.apart id id' b0 b0' p p' A A' ?_ hb0 hb0' ho ho' (pl hk hp) (pl hk' hp') hA hA'
    intro e
    subst e
    exact hne (nodup_inj hd hk hk')

theorem Own.sub (H : HR B m h w) {R : List Nat} (hlt : ∀ x ∈ R, x < h.length) {k : Nat} (ho : Own (subPl m R) (subHeap h R) k) : Own m h k := by
  obtain ⟨i, b, p, A, hb, how, hp, hA, rfl⟩ := ho
  obtain ⟨id, b0, hk, hb0, rfl⟩ := subHeap_get hb
  refine ⟨id, b0, p, A, hb0, how, ?_, hA, rfl⟩
  have hid : id < m.length := by rw [H.len]; exact hlt id (List.mem_of_getElem? hk)
  have := subPl_get (m := m) hk (List.getElem?_eq_getElem hid)
  rw [this] at hp
  cases hp
  exact List.getElem?_eq_getElem hid
end
end Go.Proofs.Ytcpahifgdppkbaa.QAI
