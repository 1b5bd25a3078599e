/- New blocks and stores. -/
import Derived.Test.YtcpahifgdppkbaaA5
set_option linter.unusedVariables false
set_option linter.unusedSimpArgs false
namespace Go.Proofs.Ytcpahifgdppkbaa.QAI
open Go Go.RowKit

def Ext (m m' : List Pl) : Prop := ∀ (id : Nat) p, m[id]? = some p → m'[id]? = some p
theorem Ext.refl (m : List Pl) : Ext m m := fun _ _ h => h
theorem Ext.trans {a b c : List Pl} (h : Ext a b) (k : Ext b c) : Ext a c := fun i p hp => k i p (h i p hp)
theorem Ext.app (m l : List Pl) : Ext m (m ++ l) := fun i p h => by
  rw [List.getElem?_append_left (List.getElem?_eq_some_iff.1 h).1]; exact h

theorem CR.ext {m m' : List Pl} (h : Ext m m') {c : AC} {y : Value} (hr : CR m c y) : CR m' c y := by
  cases c with
  | any => trivial
  | v x => exact hr
  | ptr id i j => obtain ⟨p, A, hp, rest⟩ := hr; exact ⟨p, A, h _ _ hp, rest⟩
  | sl id i n => obtain ⟨p, A', c', hp, rest⟩ := hr; exact ⟨p, A', c', h _ _ hp, rest⟩
mutual
theorem VR.ext {m m' : List Pl} (h : Ext m m') : ∀ {v : AV} {y : Value}, VR m v y → VR m' v y
  | .c x, y, hr => by simp only [VR] at hr ⊢; exact hr.ext h
  | .agg l, y, hr => by simp only [VR] at hr ⊢; obtain ⟨cs, e, hF⟩ := hr; exact ⟨cs, e, hF.imp fun a b => CR.ext h⟩
  | .arr n f, y, hr => by simp only [VR] at hr ⊢; exact hr
  | .tup l, y, hr => by simp only [VR] at hr ⊢; obtain ⟨vs, e, hF⟩ := hr; exact ⟨vs, e, VRs.ext h hF⟩
theorem VRs.ext {m m' : List Pl} (h : Ext m m') : ∀ {l : List AV} {k : List Value}, VRs m l k → VRs m' l k
  | [], [], _ => by simp [VRs]
  | [], _ :: _, hr => by simp [VRs] at hr
  | _ :: _, [], hr => by simp [VRs] at hr
  | x :: l, y :: k, hr => by simp only [VRs] at hr ⊢; exact ⟨VR.ext h hr.1, VRs.ext h hr.2⟩
end

/-- The blocks that may be written. -/
def Own (m : List Pl) (h : AHeap) (k : Nat) : Prop := ∃ (id : Nat) (b : ABlk) (p : Pl) (A : Addr), h[id]? = some (some b) ∧ b.own = true ∧ m[id]? = some p ∧ p.A = some A ∧ A.block = k

structure Fr (X : Nat → Prop) (w w' : World) : Prop where
  os : w'.os = w.os
  tape : w'.tape = w.tape
  output : w'.output = w.output
  size : w.heap.size ≤ w'.heap.size
  blk : ∀ k, k < w.heap.size → ¬ X k → w'.heap[k]? = w.heap[k]?
theorem Fr.refl (X : Nat → Prop) (w : World) : Fr X w w := ⟨rfl, rfl, rfl, Nat.le_refl _, fun _ _ _ => rfl⟩
theorem Fr.trans {X Y : Nat → Prop} {a b c : World} (h : Fr X a b) (k : Fr Y b c) (hY : ∀ i, Y i → X i ∨ a.heap.size ≤ i) : Fr X a c :=
  ⟨k.os.trans h.os, k.tape.trans h.tape, k.output.trans h.output, Nat.le_trans h.size k.size, fun i hi hx =>
    (k.blk i (Nat.lt_of_lt_of_le hi h.size) fun hy => (hY i hy).elim hx fun hge => absurd hi (Nat.not_lt.2 hge)).trans (h.blk i hi hx)⟩
theorem Fr.alloc (X : Nat → Prop) (w : World) (o : Obj) : Fr X w (w.alloc o) := ⟨rfl, rfl, rfl, by simp, fun k hk _ => Below.heap_alloc w o k hk⟩
theorem Fr.drew (X : Nat → Prop) (w : World) : Fr X w w.drew := ⟨rfl, rfl, rfl, Nat.le_refl _, fun _ _ _ => rfl⟩

theorem cell_of_heap {w w' : World} {k : Nat} (h : w'.heap[k]? = w.heap[k]?) (o : Nat) : w'.cell? ⟨k, o, none⟩ = w.cell? ⟨k, o, none⟩ := by
  simp only [World.cell?, h]
theorem cell_lt {w : World} {k o : Nat} {x : Value} (h : w.cell? ⟨k, o, none⟩ = some x) : k < w.heap.size := World.block_lt_of_cell? w _ h

section
variable {B : Nat} {m : List Pl} {h : AHeap} {w w' : World}

/-- A block whose places are as they were. -/
theorem BR.keep {b : ABlk} {p : Pl} (hb : BR B m b p w) (hk : ∀ A, p.A = some A → A.block < w.heap.size → (0 < b.c.n ∨ b.own = true) → w'.heap[A.block]? = w.heap[A.block]?) : BR B m b p w' :=
  { sz := hb.sz, len := hb.len, cap := hb.cap,
    cell := fun i j c hi hc => by
      obtain ⟨A, x, hA, hs, hx, hr, h1⟩ := hb.cell i j c hi hc
      exact ⟨A, x, hA, hs, by rw [cell_of_heap (hk A hA (cell_lt hx) (.inl (by omega)))]; exact hx, hr, h1⟩
    own := fun ho => by
      obtain ⟨h1, h2⟩ := hb.own ho
      refine ⟨h1, fun A hA => ?_⟩
      obtain ⟨a, b, c, cs, d, e⟩ := h2 A hA
      exact ⟨a, b, c, cs, by rw [hk A hA (Array.getElem?_eq_some_iff.1 d).1 (.inr ho)]; exact d, e⟩
    came := hb.came }

theorem BR.ext {m' : List Pl} {b : ABlk} {p : Pl} (hb : BR B m b p w) (he : Ext m m') : BR B m' b p w :=
  { sz := hb.sz, len := hb.len, cap := hb.cap,
    cell := fun i j c hi hc => by
      obtain ⟨A, x, hA, hs, hx, hr, h1⟩ := hb.cell i j c hi hc
      exact ⟨A, x, hA, hs, hx, hr.ext he, h1⟩
    own := hb.own, came := hb.came }

theorem HR.keep (H : HR B m h w) (hk : ∀ k, k < w.heap.size → w'.heap[k]? = w.heap[k]?) : HR B m h w' :=
  { len := H.len, blk := fun id b p hb hp => (H.blk id b p hb hp).keep fun A _ hlt _ => hk _ hlt, apart := H.apart }

theorem getElem?_snoc {α : Type} {l : List α} {x a : α} {i : Nat} (h : (l ++ [x])[i]? = some a) : l[i]? = some a ∨ (i = l.length ∧ a = x) := by
  rcases Nat.lt_or_ge i l.length with hi | hi
  · left; rwa [List.getElem?_append_left hi] at h
  · right
    rw [List.getElem?_append_right hi] at h
    have : i - l.length = 0 := by
      rcases Nat.eq_zero_or_pos (i - l.length) with h0 | h0
      · exact h0
      · rw [List.getElem?_eq_none (by simp; omega)] at h; cases h
    rw [this] at h
    simp at h
    exact ⟨by omega, h.symm⟩

/-- One more block. -/
theorem HR.new (H : HR B m h w) (hB : B ≤ w.heap.size) {t : TypeId} {c : Cont} {cs : Array Value} {cap : Nat} (hcap : c.n ≤ cap) (hlen : ∀ i, i < c.n → (c.el i).length = c.sz) (hsz : cs.size = cap * c.sz)
    (hcell : ∀ (i j : Nat) a, i < c.n → (c.el i)[j]? = some a → ∃ x, cs[i * c.sz + j]? = some x ∧ CR m a x ∧ oneV x = true) :
    HR B (m ++ [⟨some ⟨w.heap.size, 0, none⟩, cap, c.sz⟩]) (h ++ [some ⟨t, true, c⟩]) (w.alloc (.cells cs t)) := by
  have hnew : (w.alloc (.cells cs t)).heap[w.heap.size]? = some (.cells cs t (0, 0)) := by
    show (w.heap.push _)[w.heap.size]? = _
    simp
  have hold : ∀ k, k < w.heap.size → (w.alloc (.cells cs t)).heap[k]? = w.heap[k]? := fun k hk => Below.heap_alloc w _ k hk
  refine { len := by simp [H.len], blk := ?_, apart := ?_ }
  · intro id b p hb hp
    rcases getElem?_snoc hb with hb | ⟨hid, hbe⟩
    · have hlt : id < m.length := by rw [H.len]; exact (List.getElem?_eq_some_iff.1 hb).1
      rw [List.getElem?_append_left hlt] at hp
      exact ((H.blk id b p hb hp).keep fun A _ hl _ => hold _ hl).ext (Ext.app _ _)
    · cases hbe
      have hpe : p = ⟨some ⟨w.heap.size, 0, none⟩, cap, c.sz⟩ := by
        rw [hid, ← H.len] at hp
        simpa using hp.symm
      subst hpe
      refine { sz := rfl, len := hlen, cap := hcap, cell := ?_, own := ?_, came := fun e => by cases e }
      · intro i j a hi ha
        obtain ⟨x, hx, hr, h1⟩ := hcell i j a hi ha
        refine ⟨_, x, rfl, rfl, ?_, hr.ext (Ext.app _ _), h1⟩
        simp only [World.cell?, hnew]
        simpa using hx
      · intro _
        refine And.intro (fun e => nomatch e) ?_
        intro A hA
        cases hA
        exact ⟨rfl, rfl, hB, cs, hnew, hsz⟩
  · intro id id' b b' p p' A A' hne hb hb' ho ho' hp hp' hA hA'
    have old : ∀ {id : Nat} {b : ABlk} {p : Pl} {A : Addr}, h[id]? = some (some b) → b.own = true → m[id]? = some p → p.A = some A → A.block < w.heap.size := by
      intro id b p A hb ho hp hA
      obtain ⟨_, _, _, cs, hc, _⟩ := ((H.blk id b p hb hp).own ho).2 A hA
      exact (Array.getElem?_eq_some_iff.1 hc).1
    have inOld : ∀ {id : Nat} {b : ABlk} {p : Pl}, h[id]? = some (some b) → (m ++ [⟨some ⟨w.heap.size, 0, none⟩, cap, c.sz⟩])[id]? = some p → m[id]? = some p := by
      intro id b p hb hp
      have hlt : id < m.length := by rw [H.len]; exact (List.getElem?_eq_some_iff.1 hb).1
      rwa [List.getElem?_append_left hlt] at hp
    have inNew : ∀ {id : Nat} {p : Pl} {A : Addr}, id = h.length → (m ++ [⟨some ⟨w.heap.size, 0, none⟩, cap, c.sz⟩])[id]? = some p → p.A = some A → A.block = w.heap.size := by
      intro id p A hid hp hA
      rw [hid, ← H.len] at hp
      simp at hp
      subst hp
      cases hA
      rfl
    rcases getElem?_snoc hb with hb | ⟨hid, hbe⟩ <;> rcases getElem?_snoc hb' with hb' | ⟨hid', hbe'⟩
    · exact H.apart id id' b b' p p' A A' hne hb hb' ho ho' (inOld hb hp) (inOld hb' hp') hA hA'
    · have h1 := old hb ho (inOld hb hp) hA
      have h2 := inNew hid' hp' hA'
      omega
    · have h1 := old hb' ho' (inOld hb' hp') hA'
      have h2 := inNew hid hp hA
      omega
    · omega

theorem Own.new {t : TypeId} {c : Cont} {cap sz k : Nat} (H : m.length = h.length) (ho : Own (m ++ [⟨some ⟨w.heap.size, 0, none⟩, cap, sz⟩]) (h ++ [some ⟨t, true, c⟩]) k) : Own m h k ∨ w.heap.size ≤ k := by
  obtain ⟨id, b, p, A, hb, how, hp, hA, rfl⟩ := ho
  rcases getElem?_snoc hb with hb | ⟨hid, _⟩
  · left
    have hlt : id < m.length := by rw [H]; exact (List.getElem?_eq_some_iff.1 hb).1
    rw [List.getElem?_append_left hlt] at hp
    exact ⟨id, b, p, A, hb, how, hp, hA, rfl⟩
  · right
    rw [hid, ← H] at hp
    simp at hp
    subst hp
    cases hA
    exact Nat.le_refl _

/-- Cells stored one by one. -/
theorem storeCells_run (P : Program) (b o : Nat) (t : TypeId) : ∀ (l : List Value) (i : Nat) (w : World) (cs : Array Value), w.heap[b]? = some (.cells cs t (0, 0)) → o + i + l.length ≤ cs.size → (∀ x ∈ l, oneV x = true) →
    ∃ w' cs', (storeCells ⟨b, o, none⟩ l i).run P w = .ok () w' ∧ w'.heap[b]? = some (.cells cs' t (0, 0)) ∧ cs'.toList = cs.toList.take (o + i) ++ l ++ cs.toList.drop (o + i + l.length) ∧
      (∀ k, k ≠ b → w'.heap[k]? = w.heap[k]?) ∧ w'.heap.size = w.heap.size ∧ w'.os = w.os ∧ w'.tape = w.tape ∧ w'.output = w.output
  | [], i, w, cs, hw, _, _ => ⟨w, cs, by simp [storeCells], hw, by simp, fun _ _ => rfl, rfl, rfl, rfl, rfl⟩
  | x :: l, i, w, cs, hw, hle, h1 => by
    have hlt : o + i < cs.size := by simp at hle; omega
    have hcell : w.cell? ⟨b, o + i, none⟩ = some cs[o + i] := by simp [World.cell?, hw, hlt]
    have hfr : w.frozen? ⟨b, o + i, none⟩ = false := by simp [World.frozen?, hw]
    have hx := h1 x (by simp)
    have hset : (w.setCell ⟨b, o + i, none⟩ x).heap[b]? = some (.cells (cs.setIfInBounds (o + i) x) t (0, 0)) := by
      simp [World.setCell, Array.getElem?_modify, hw]
    obtain ⟨w', cs', hr, hb', hcs, hother, hsize, hos, htape, hout⟩ := storeCells_run P b o t l (i + 1) (w.setCell ⟨b, o + i, none⟩ x) (cs.setIfInBounds (o + i) x) hset (by simp at hle ⊢; omega) (fun y hy => h1 y (by simp [hy]))
    refine ⟨w', cs', ?_, hb', ?_, fun k hk => by rw [hother k hk]; exact Below.heap_setCell _ _ _ _ hk, by rw [hsize]; simp [World.setCell], hos, htape, hout⟩
    · simp only [storeCells, Sem.run_bind]
      have hst : (store ((⟨b, o, none⟩ : Addr).add i) x).run P w = .ok () (w.setCell ⟨b, o + i, none⟩ x) := by
        rw [add_none rfl]
        clear hset hr hb' hcs hother hsize hos htape hout h1 hle
        cases x <;> simp_all [store, Sem.run, oneV]
      rw [hst]
      exact hr
    · rw [hcs]
      have hlt' : o + i < cs.toList.length := by simpa using hlt
      simp only [Array.toList_setIfInBounds, List.length_cons]
      rw [show o + (i + 1) + l.length = o + i + (l.length + 1) by omega, List.drop_set_of_lt (by omega), show o + (i + 1) = (o + i) + 1 by omega, List.take_succ_eq_append_getElem (by simpa using hlt'),
        List.take_set_of_le (Nat.le_refl _), List.getElem_set_self]
      simp
end
end Go.Proofs.Ytcpahifgdppkbaa.QAI
