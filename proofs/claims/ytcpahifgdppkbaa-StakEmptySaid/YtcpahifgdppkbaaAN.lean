/- Blocks that are made earlier, or later, than the order says: how the machine's memory stands without them. -/
import Derived.Test.YtcpahifgdppkbaaA14
set_option linter.unusedVariables false
set_option linter.unusedSimpArgs false
namespace Go.Proofs.Ytcpahifgdppkbaa.QAI
open Go Go.RowKit

/-- The place of a block that is not there yet: nothing leads to it. -/
def mark : Pl := ⟨none, 1, 0⟩
def ExtM (m m' : List Pl) : Prop := m.length ≤ m'.length ∧ ∀ (id : Nat) p, m[id]? = some p → p = mark ∨ m'[id]? = some p

theorem CR.extM {m m' : List Pl} (h : ExtM m m') {c : AC} {y : Value} (hr : CR m c y) : CR m' c y := by
  cases c with
  | any => trivial
  | v x => exact hr
  | ptr id i j =>
    obtain ⟨p, A, hp, hA, rest⟩ := hr
    rcases h.2 _ _ hp with rfl | h1
    · cases hA
    · exact ⟨p, A, h1, hA, rest⟩
  | sl id i n =>
    obtain ⟨p, A', c', hp, hy, ⟨hn, hnil⟩, hz, hpos⟩ := hr
    rcases h.2 _ _ hp with rfl | h1
    · have hn0 : n = 0 := by
        rcases Nat.eq_zero_or_pos n with h0 | h0
        · exact h0
        · obtain ⟨A, hA, _⟩ := hpos h0
          cases hA
      subst hn0
      have hi : i ≠ 0 := by
        intro e
        obtain ⟨h1, h2⟩ := hz e
        have h3 := hnil h1
        rw [h2] at h3
        cases h3
      have hlt : id < m'.length := Nat.lt_of_lt_of_le (List.getElem?_eq_some_iff.1 hp).1 h.1
      exact ⟨m'[id], A', c', List.getElem?_eq_getElem hlt, hy, ⟨hn, hnil⟩, fun e => absurd e hi, fun h => absurd h (Nat.lt_irrefl _)⟩
    · exact ⟨p, A', c', h1, hy, ⟨hn, hnil⟩, hz, hpos⟩
mutual
theorem VR.imp {m m' : List Pl} (h : ∀ c y, CR m c y → CR m' c y) : ∀ {v : AV} {y : Value}, VR m v y → VR m' v y
  | .c x, y, hr => by simp only [VR] at hr ⊢; exact h _ _ hr
  | .agg l, y, hr => by simp only [VR] at hr ⊢; obtain ⟨cs, e, hF⟩ := hr; exact ⟨cs, e, hF.imp fun a b => h a b⟩
  | .arr n f, y, hr => by simp only [VR] at hr ⊢; exact hr
  | .tup l, y, hr => by simp only [VR] at hr ⊢; obtain ⟨vs, e, hF⟩ := hr; exact ⟨vs, e, VRs.imp h hF⟩
theorem VRs.imp {m m' : List Pl} (h : ∀ c y, CR m c y → CR m' c y) : ∀ {l : List AV} {k : List Value}, VRs m l k → VRs m' l k
  | [], [], _ => by simp [VRs]
  | [], _ :: _, hr => by simp [VRs] at hr
  | _ :: _, [], hr => by simp [VRs] at hr
  | x :: l, y :: k, hr => by simp only [VRs] at hr ⊢; exact ⟨VR.imp h hr.1, VRs.imp h hr.2⟩
end
theorem BR.imp {B : Nat} {m m' : List Pl} {b : ABlk} {p : Pl} {w : World} (hb : BR B m b p w) (he : ∀ (i j : Nat) c x, i < b.c.n → (b.c.el i)[j]? = some c → CR m c x → CR m' c x) : BR B m' b p w :=
  { sz := hb.sz, len := hb.len, cap := hb.cap,
    cell := fun i j c hi hc => by
      obtain ⟨A, x, hA, hs, hx, hr, h1⟩ := hb.cell i j c hi hc
      exact ⟨A, x, hA, hs, hx, he i j c x hi hc hr, h1⟩
    own := hb.own, came := hb.came }

structure Nul (N : Nat → Prop) (h k : AHeap) : Prop where
  len : k.length = h.length
  off : ∀ id, N id → k[id]? = some none
  on : ∀ id, ¬ N id → k[id]? = h[id]?

section
variable {N : Nat → Prop} {h k h' : AHeap}
theorem Nul.at_ (H : Nul N h k) {id : Nat} (hn : ¬ N id) : k.at id = h.at id := by
  unfold AHeap.at
  rw [H.on id hn]
theorem Nul.lt (H : Nul N h k) {id : Nat} (hn : N id) : id < h.length := by
  rw [← H.len]
  exact (List.getElem?_eq_some_iff.1 (H.off id hn)).1
theorem Nul.set (H : Nul N h k) {id : Nat} (hn : ¬ N id) (b : Option ABlk) : Nul N (h.set id b) (k.set id b) := by
  refine ⟨by simp [H.len], fun i hi => ?_, fun i hi => ?_⟩
  · have hne : id ≠ i := fun e => hn (e ▸ hi)
    rw [List.getElem?_set_ne hne]
    exact H.off i hi
  · by_cases e : id = i
    · subst e
      simp [List.getElem?_set, H.len, H.on id hn]
    · rw [List.getElem?_set_ne e, List.getElem?_set_ne e]
      exact H.on i hi
theorem Nul.app (H : Nul N h k) (l : AHeap) : Nul N (h ++ l) (k ++ l) := by
  refine ⟨by simp [H.len], fun i hi => ?_, fun i hi => ?_⟩
  · have hlt : i < k.length := by rw [H.len]; exact H.lt hi
    rw [List.getElem?_append_left hlt]
    exact H.off i hi
  · rw [List.getElem?_append, List.getElem?_append, H.len, H.on i hi]

theorem astore_nul {T : List TI} {t : TypeId} {p x : AV} (H : Nul N h k) (hr : ∀ id ∈ refAV p, ¬ N id) (he : (astore T h t p x).eval = some h') : ∃ k', (astore T k t p x).eval = some k' ∧ Nul N h' k' := by
  unfold astore at he
  split at he
  · rename_i id i j ti hti
    have hn : ¬ N id := hr id (by simp [refAV, refAC])
    have hat := H.at_ hn
    unfold astore
    simp only [hti]
    rw [hat]
    split at he
    · rename_i bt c hat2
      split at he
      · split at he
        · rename_i hc
          simp only [Tr.eval, Option.some.injEq] at he
          subst he
          rw [if_pos hc]
          exact ⟨_, rfl, H.set hn _⟩
        · cases he
      · split at he
        · rename_i cs hcs
          split at he
          · rename_i hc
            simp only [Tr.eval, Option.some.injEq] at he
            subst he
            rw [if_pos hc]
            exact ⟨_, rfl, H.set hn _⟩
          · cases he
        · cases he
      · rename_i sz n f hnot
        split at he
        · rename_i cs hcs
          split at he
          · rename_i hc
            obtain ⟨h1, he⟩ := Tr.eval_need.1 he
            simp only [Tr.eval, Option.some.injEq] at he
            subst he
            rw [if_pos hc]
            exact ⟨_, Tr.eval_need.2 ⟨h1, rfl⟩, H.set hn _⟩
          · cases he
        · cases he
      · split at he
        · rename_i cs hcs
          split at he
          · rename_i hc
            obtain ⟨h1, he⟩ := Tr.eval_need.1 he
            simp only [Tr.eval, Option.some.injEq] at he
            subst he
            rw [if_pos hc]
            exact ⟨_, Tr.eval_need.2 ⟨h1, rfl⟩, H.set hn _⟩
          · cases he
        · cases he
    · cases he
  · cases he

theorem srcOf_nul {ti : TI} {x : AV} (H : Nul N h k) (hr : ∀ id ∈ refAV x, ¬ N id) : srcOf k ti x = srcOf h ti x := by
  unfold srcOf
  split
  · rename_i id i n
    rw [H.at_ (hr id (by simp [refAV, refAC]))]
  · rfl
  · rfl
  · rfl
theorem dstOf_nul {ti : TI} {x : AV} {c : Cont} {nn : Nat} (H : Nul N h k) (hr : ∀ id ∈ refAV x, ¬ N id) (he : dstOf h ti x = some (h', c, nn)) : ∃ k', dstOf k ti x = some (k', c, nn) ∧ Nul N h' k' := by
  unfold dstOf at he
  split at he
  · simp only [Option.some.injEq, Prod.mk.injEq] at he
    obtain ⟨rfl, rfl, rfl⟩ := he
    exact ⟨k, rfl, H⟩
  · rename_i id n
    have hn : ¬ N id := hr id (by simp [refAV, refAC])
    unfold dstOf
    simp only
    rw [H.at_ hn]
    split at he
    · split at he
      · rename_i hc
        simp only [Option.some.injEq, Prod.mk.injEq] at he
        obtain ⟨rfl, rfl, rfl⟩ := he
        rw [if_pos hc]
        exact ⟨_, rfl, H.set hn _⟩
      · cases he
    · cases he
  · cases he
theorem aappend_nul {T : List TI} {t t2 : TypeId} {s x : AV} {v : AV} (H : Nul N h k) (hs : ∀ id ∈ refAV s, ¬ N id) (hx : ∀ id ∈ refAV x, ¬ N id) (he : (aappend T h t t2 s x).eval = some (v, h')) :
    ∃ k', (aappend T k t t2 s x).eval = some (v, k') ∧ Nul N h' k' := by
  unfold aappend at he ⊢
  split at he
  · split at he
    · split at he
      · rename_i hk c nn i mm cs hdst hsrc
        obtain ⟨k1, hd, hN⟩ := dstOf_nul H hs hdst
        have hsr := hsrc
        rw [← srcOf_nul H hx] at hsr
        simp only [hd, hsr]
        split at he
        · rename_i hsz
          rw [if_pos hsz]
          split at he
          · rename_i c' hj
            obtain ⟨h1, he⟩ := Tr.eval_need.1 he
            obtain ⟨h2, h3, hv⟩ := need2 he
            simp only [Tr.eval, Option.some.injEq, Prod.mk.injEq] at hv
            obtain ⟨rfl, rfl⟩ := hv
            refine ⟨k1 ++ [some ⟨_, true, c'⟩], ?_, hN.app _⟩
            rw [H.len]
            exact Tr.eval_need.2 ⟨h1, Tr.eval_need.2 ⟨h2, Tr.eval_need.2 ⟨h3, rfl⟩⟩⟩
          · cases he
        · cases he
      · cases he
    · cases he
  · cases he
theorem closeOf_nul (H : Nul N h k) : ∀ (f : Nat) (todo acc : List Nat), (∀ id ∈ closeOf h f todo acc, ¬ N id) → closeOf k f todo acc = closeOf h f todo acc
  | 0, _, _, _ => rfl
  | _ + 1, [], _, _ => rfl
  | f + 1, id :: todo, acc, hn => by
    simp only [closeOf] at hn ⊢
    rw [H.len]
    split at hn
    · rename_i hc
      rw [if_pos hc, if_pos hc]
      exact closeOf_nul H f todo acc hn
    · rename_i hc
      rw [if_neg hc, if_neg hc]
      have hid : ¬ N id := by
        obtain ⟨l, e, _, _⟩ := closeOf_ok h f (todo ++ refB (h[id]?).join) (acc ++ [id])
        refine hn id ?_
        rw [e]
        simp
      rw [H.on id hid]
      exact closeOf_nul H f _ _ hn
theorem mergeIn_nul {R : List Nat} {hs : AHeap} (H : Nul N h k) (hR : ∀ id ∈ R, ¬ N id) : Nul N (mergeIn h R hs) (mergeIn k R hs) := by
  unfold mergeIn
  rw [H.len]
  refine Nul.app ⟨by simp, fun i hi => ?_, fun i hi => ?_⟩ _
  · have hlt := H.lt hi
    rw [List.getElem?_map, List.getElem?_range hlt, Option.map_some]
    have hc : R.contains i = false := by
      cases hc : R.contains i with
      | false => rfl
      | true => exact absurd hi (hR i (by simpa using hc))
    rw [if_neg (by rw [hc]; simp), H.off i hi]
    rfl
  · rw [List.getElem?_map, List.getElem?_map]
    rcases Nat.lt_or_ge i h.length with hlt | hge
    · rw [List.getElem?_range hlt]
      simp only [Option.map_some]
      rw [H.on i hi]
    · rw [List.getElem?_eq_none (by simpa using hge)]
      rfl
theorem acall_nul {F : Spec} {args : List AV} {v : AV} (H : Nul N h k) (hr : ∀ id ∈ closeOf h 10000 (refAVs args) [], ¬ N id) (he : (acall F args h).eval = some (v, h')) : ∃ k', (acall F args k).eval = some (v, k') ∧ Nul N h' k' := by
  have hc := closeOf_nul H 10000 (refAVs args) [] hr
  rw [acall_def] at he ⊢
  simp only [hc]
  generalize closeOf h 10000 (refAVs args) [] = R at he hr
  have hsub : subHeap k R = subHeap h R := List.map_congr_left fun id hid => by rw [H.on id (hr id hid)]
  rw [hsub]
  simp only [Tr.eval_bind] at he ⊢
  cases hs0 : (F (renAVs (idxIn R) args) (subHeap h R)).eval with
  | none => rw [hs0] at he; simp at he
  | some rh =>
    rw [hs0] at he
    simp only [Option.bind_some, Tr.eval, Option.some.injEq, Prod.mk.injEq] at he ⊢
    obtain ⟨rfl, rfl⟩ := he
    exact ⟨_, ⟨by rw [H.len], rfl⟩, mergeIn_nul H hr⟩
theorem refAVs_mem {x : AV} : ∀ {l : List AV}, x ∈ l → ∀ id ∈ refAV x, id ∈ refAVs l
  | [], h, _, _ => by cases h
  | y :: l, h, id, hid => by
    simp only [refAVs, List.mem_append]
    rcases List.mem_cons.1 h with rfl | h
    · exact .inl hid
    · exact .inr (refAVs_mem h id hid)
/-- Whatever is loud and looks at no block that is not there comes to the same without them. -/
theorem aheavy_nul {G : Ctx2} {o : Oper} {ρ : Operand → AV} {v : AV} (H : Nul N h k) (hq : isQuiet o.op = false) (hr : ∀ id ∈ reachOf o ρ h, ¬ N id) (he : (aheavy G o ρ h).eval = some (v, h')) : ∃ k', (aheavy G o ρ k).eval = some (v, k') ∧ Nul N h' k' := by
  unfold aheavy at he ⊢
  split at he
  · rename_i t ho; simp [ho, isQuiet] at hq
  · rename_i t x ho; simp [ho, isQuiet] at hq
  · rename_i t l ps ho; simp [ho, isQuiet] at hq
  · rename_i t l c ho; simp [ho, isQuiet] at hq
  · rename_i t p x ho
    rw [Tr.eval_bind] at he ⊢
    cases hst : (astore G.T h t (ρ p) (ρ x)).eval with
    | none => simp [hst] at he
    | some h'' =>
      rw [hst] at he
      simp only [Option.bind_some, Tr.eval, Option.some.injEq, Prod.mk.injEq] at he
      obtain ⟨rfl, rfl⟩ := he
      obtain ⟨k', h1, h2⟩ := astore_nul H (fun id hid => hr id (by simpa [reachOf, ho] using hid)) hst
      rw [h1]
      exact ⟨k', rfl, h2⟩
  · rename_i args ts ho
    split at he
    · rename_i s x t t2 ha hts
      refine aappend_nul H (fun id hid => hr id ?_) (fun id hid => hr id ?_) he
      · simp only [reachOf, ho]; exact refAVs_mem (x := ρ s) (by rw [ha]; simp) id hid
      · simp only [reachOf, ho]; exact refAVs_mem (x := ρ x) (by rw [ha]; simp) id hid
    · cases he
  · rename_i f args ts ho
    split at he
    · rename_i kk hf
      split at he
      · rename_i F hF
        exact acall_nul H (fun id hid => hr id (by simpa [reachOf, ho] using hid)) he
      · cases he
    · cases he
  · cases he
end
end Go.Proofs.Ytcpahifgdppkbaa.QAI
