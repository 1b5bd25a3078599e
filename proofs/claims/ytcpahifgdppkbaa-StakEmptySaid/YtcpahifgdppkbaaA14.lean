/- An operation hangs on its operands alone, and on the blocks that it reads. -/
import Derived.Test.YtcpahifgdppkbaaA13
set_option linter.unusedVariables false
set_option linter.unusedSimpArgs false
namespace Go.Proofs.Ytcpahifgdppkbaa.QAI
open Go Go.RowKit

theorem apure_congr {P : Program} {o : Oper} {ρ ρ2 : Operand → AV} (hs : ∀ cs b, o.op ≠ .select cs b) (h : ∀ x ∈ o.op.operands, ρ x = ρ2 x) : apure P o ρ = apure P o ρ2 := by
  unfold apure
  have h1 : (o.op.operands.toList.all fun x => (scal (ρ x)).isSome) = (o.op.operands.toList.all fun x => (scal (ρ2 x)).isSome) := by
    rw [Bool.eq_iff_iff, List.all_eq_true, List.all_eq_true]
    constructor
    · intro hh x hx; rw [← h x (Array.mem_toList_iff.1 hx)]; exact hh x hx
    · intro hh x hx; rw [h x (Array.mem_toList_iff.1 hx)]; exact hh x hx
  have h2 : execOp (fun x => (scal (ρ x)).getD undef) o = execOp (fun x => (scal (ρ2 x)).getD undef) o := execOp_congr o hs fun x hx => by rw [h x hx]
  rw [h1, h2]

theorem aload_congr {T : List TI} {t : TypeId} {x : AV} {h h' : AHeap} (hh : ∀ id ∈ refAV x, h.at id = h'.at id) : aload T h t x = aload T h' t x := by
  cases x with
  | c c =>
    cases c with
    | ptr id i j =>
      have h0 : aload0 T h t (.c (.ptr id i j)) = aload0 T h' t (.c (.ptr id i j)) := by simp only [aload0, hh id (by simp [refAV, refAC])]
      have h1 : tblIn T h t id = tblIn T h' t id := by simp only [tblIn, hh id (by simp [refAV, refAC])]
      unfold aload
      cases j with
      | zero => simp only [h0, h1]
      | succ j => exact h0
    | _ => simp [aload, aload0]
  | _ => simp [aload, aload0]

theorem shEq_cases {x y : Option ABlk} (h : shEq x y = true) : (x = none ∧ y = none) ∨ ∃ b b', x = some b ∧ y = some b' ∧ kindC b.c = kindC b'.c ∧ b.c.sz = b'.c.sz := by
  cases x with
  | none => cases y with
    | none => exact .inl ⟨rfl, rfl⟩
    | some b => cases h
  | some b => cases y with
    | none => cases h
    | some b' =>
      simp only [shEq, Bool.and_eq_true] at h
      exact .inr ⟨b, b', rfl, rfl, Nat.eq_of_beq_eq_true h.1, Nat.eq_of_beq_eq_true h.2⟩
theorem shEq_refl (x : Option ABlk) : shEq x x = true := by
  cases x with
  | none => rfl
  | some b => simp [shEq]

theorem alight_congr {G : Ctx} {o : Oper} {ρ ρ2 : Operand → AV} {h h' : AHeap} (hρ : ∀ x ∈ o.op.operands, ρ x = ρ2 x) (hh : ∀ id ∈ hardOf o ρ, h.at id = h'.at id) (hs : ∀ id ∈ softOf o ρ, shEq (h.at id) (h'.at id) = true) : alight G o ρ h = alight G o ρ2 h' := by
  obtain ⟨dst, op, type, pos, after, guard⟩ := o
  have hp : (∀ cs b, op ≠ .select cs b) → apure G.P ⟨dst, op, type, pos, after, guard⟩ ρ = apure G.P ⟨dst, op, type, pos, after, guard⟩ ρ2 := fun hs => apure_congr hs hρ
  cases op with
  | move x => simp only [alight, hρ x (by simp [Op.operands])]
  | assign x => simp only [alight, hρ x (by simp [Op.operands])]
  | pick c a b => simp only [alight, hρ a (by simp [Op.operands]), hρ b (by simp [Op.operands]), hρ c (by simp [Op.operands])]
  | load t a =>
    have ha := hρ a (by simp [Op.operands])
    simp only [alight]
    rw [aload_congr (h' := h') (fun id hid => hh id hid), ha]
  | nilCheck x => simp only [alight, hρ x (by simp [Op.operands]), hp (by simp)]
  | fieldAddr s x k => simp only [alight, hρ x (by simp [Op.operands])]
  | field s x k => simp only [alight, hρ x (by simp [Op.operands])]
  | indexAddr t x ix =>
    have hx := hρ x (by simp [Op.operands])
    have hix := hρ ix (by simp [Op.operands])
    simp only [alight, ← hx, ← hix]
    have key : ∀ id i n, ρ x = .c (.sl id i n) → shEq (h.at id) (h'.at id) = true := fun id i n e => hs id (by simp [softOf, e, refAV, refAC])
    have key2 : ∀ id i j, ρ x = .c (.ptr id i j) → shEq (h.at id) (h'.at id) = true := fun id i n e => hs id (by simp [softOf, e, refAV, refAC])
    split
    · rename_i e _ _ _ _ _ _ id i n _ k _ hx' _
      rcases shEq_cases (key _ _ _ hx') with ⟨h1, h2⟩ | ⟨b, b', h1, h2, _, h4⟩
      · rw [h1, h2]
      · rw [h1, h2]
        cases lookT G.T e with
        | none => rfl
        | some ti => simp only [h4]
    · rename_i mm e _ _ _ _ _ _ id i j _ k _ hx' _
      rcases shEq_cases (key2 _ _ _ hx') with ⟨h1, h2⟩ | ⟨b, b', h1, h2, h3, h4⟩
      · rw [h1, h2]
      · rw [h1, h2]
        obtain ⟨t1, o1, c1⟩ := b
        obtain ⟨t2, o2, c2⟩ := b'
        cases lookT G.T e with
        | none => rfl
        | some ti =>
          simp only at h3 h4 ⊢
          cases c1 <;> cases c2 <;> simp only [kindC, Cont.sz] at h3 h4 <;> first | (exact absurd h3 (by decide)) | rfl | (subst h4; rfl)
    · rfl
  | index t x ix => simp only [alight, hρ x (by simp [Op.operands]), hρ ix (by simp [Op.operands])]
  | slice t x lo hi mx =>
    have hx := hρ x (by simp [Op.operands])
    have hlo : ∀ y, lo = some y → ρ y = ρ2 y := fun y hy => hρ y (by subst hy; simp [Op.operands])
    have hhi : ∀ y, hi = some y → ρ y = ρ2 y := fun y hy => hρ y (by subst hy; simp [Op.operands])
    have key : ∀ id i n, ρ x = .c (.sl id i n) → shEq (h.at id) (h'.at id) = true := fun id i n e => hs id (by simp [softOf, e, refAV, refAC])
    cases lo with
    | none =>
      cases hi with
      | none =>
        simp only [alight, ← hx]
        split
        · rfl
        · rename_i e _ _ _ _ _ _ id i n _ hx'
          rcases shEq_cases (key _ _ _ hx') with ⟨h1, h2⟩ | ⟨b, b', h1, h2, _, h4⟩
          · rw [h1, h2]
          · rw [h1, h2]
            cases lookT G.T e with
            | none => rfl
            | some ti => simp only [h4]
        · rfl
      | some z =>
        simp only [alight, ← hx, ← hhi z rfl]
        split
        · rfl
        · rename_i e _ _ _ _ _ _ id i n _ hx'
          rcases shEq_cases (key _ _ _ hx') with ⟨h1, h2⟩ | ⟨b, b', h1, h2, _, h4⟩
          · rw [h1, h2]
          · rw [h1, h2]
            cases lookT G.T e with
            | none => rfl
            | some ti => simp only [h4]
        · rfl
    | some y =>
      cases hi with
      | none =>
        simp only [alight, ← hx, ← hlo y rfl]
        split
        · rfl
        · rename_i e _ _ _ _ _ _ id i n _ hx'
          rcases shEq_cases (key _ _ _ hx') with ⟨h1, h2⟩ | ⟨b, b', h1, h2, _, h4⟩
          · rw [h1, h2]
          · rw [h1, h2]
            cases lookT G.T e with
            | none => rfl
            | some ti => simp only [h4]
        · rfl
      | some z =>
        simp only [alight, ← hx, ← hhi z rfl, ← hlo y rfl]
        split
        · rfl
        · rename_i e _ _ _ _ _ _ id i n _ hx'
          rcases shEq_cases (key _ _ _ hx') with ⟨h1, h2⟩ | ⟨b, b', h1, h2, _, h4⟩
          · rw [h1, h2]
          · rw [h1, h2]
            cases lookT G.T e with
            | none => rfl
            | some ti => simp only [h4]
        · rfl
  | extract x k => simp only [alight, hρ x (by simp [Op.operands])]
  | build t ps =>
    have : (ps.toList.map fun p => (p.1, ρ p.2)) = (ps.toList.map fun p => (p.1, ρ2 p.2)) := List.map_congr_left fun p hp' => by
      rw [hρ p.2 (by simp only [Op.operands, List.mem_toArray, List.mem_map]; exact ⟨p, hp', rfl⟩)]
    simp only [alight, this]
  | binOp op t x y t' => simp only [alight, hρ x (by simp [Op.operands]), hρ y (by simp [Op.operands]), hp (by simp)]
  | unOp op t x => simp only [alight, hp (by simp)]
  | convert s d x =>
    have hx := hρ x (by simp [Op.operands])
    simp only [alight, ← hx, hp (by simp)]
    split
    · rename_i id i n hx'
      rw [hh id (by simp [hardOf, hx', refAV, refAC])]
    · rfl
  | makeInterface t x => simp only [alight, hp (by simp)]
  | call c =>
    obtain ⟨callee, args, ts⟩ := c
    cases callee with
    | value f => rfl
    | invoke r m => rfl
    | builtin b =>
      cases b with
      | len =>
        have : ∀ x, args.toList = [x] → ρ x = ρ2 x := fun x e => hρ x (by
          have hx : x ∈ args := by rw [← Array.mem_toList_iff, e]; simp
          simp [Op.operands, Call.operands, hx])
        simp only [alight]
        split
        · rename_i x t e _; rw [this x e, hp (by simp)]
        · rfl
      | max => simp only [alight, hp (by simp)]
      | min => simp only [alight, hp (by simp)]
      | _ => rfl
  | _ => rfl

theorem aheavy_congr {G : Ctx2} {o : Oper} {ρ ρ2 : Operand → AV} {h : AHeap} (hρ : ∀ x ∈ o.op.operands, ρ x = ρ2 x) : aheavy G o ρ h = aheavy G o ρ2 h := by
  obtain ⟨dst, op, type, pos, after, guard⟩ := o
  cases op with
  | box t x => simp only [aheavy, hρ x (by simp [Op.operands])]
  | buildSlice t len ps =>
    have : (ps.toList.map fun p => (p.1, ρ p.2)) = (ps.toList.map fun p => (p.1, ρ2 p.2)) := List.map_congr_left fun p hp' => by
      rw [hρ p.2 (by simp only [Op.operands, List.mem_toArray, List.mem_map]; exact ⟨p, hp', rfl⟩)]
    simp only [aheavy, this]
  | makeSlice t l c => simp only [aheavy, hρ l (by simp [Op.operands]), hρ c (by simp [Op.operands])]
  | store t p x => simp only [aheavy, hρ p (by simp [Op.operands]), hρ x (by simp [Op.operands])]
  | call c =>
    obtain ⟨callee, args, ts⟩ := c
    cases callee with
    | value f =>
      have : args.toList.map ρ = args.toList.map ρ2 := List.map_congr_left fun x hx => hρ x (by
        have hx' : x ∈ args := Array.mem_toList_iff.1 hx
        simp [Op.operands, Call.operands, hx'])
      simp only [aheavy, hρ f (by simp [Op.operands, Call.operands]), this]
    | invoke r m => rfl
    | builtin b =>
      cases b with
      | append =>
        simp only [aheavy]
        split
        · rename_i s x t t2 e _
          have hs : s ∈ args := by rw [← Array.mem_toList_iff, e]; simp
          have hx : x ∈ args := by rw [← Array.mem_toList_iff, e]; simp
          rw [hρ s (by simp [Op.operands, Call.operands, hs]), hρ x (by simp [Op.operands, Call.operands, hx])]
        · rfl
      | _ => rfl
  | _ => rfl

/-- What an operation does not name it does not turn. -/
theorem aheavy_keeps {G : Ctx2} {o : Oper} {ρ : Operand → AV} {h h' : AHeap} {v : AV} (he : (aheavy G o ρ h).eval = some (v, h')) : h.length ≤ h'.length ∧ ∀ id, id < h.length → id ∉ writesOf o ρ h → h'[id]? = h[id]? := by
  have snoc : ∀ {x : Option ABlk}, h.length ≤ (h ++ [x]).length ∧ ∀ id, id < h.length → (h ++ [x])[id]? = h[id]? := fun {x} => ⟨by simp, fun id hid => List.getElem?_append_left hid⟩
  unfold aheavy at he
  split at he
  · split at he
    · simp only [Tr.eval, Option.some.injEq, Prod.mk.injEq] at he
      obtain ⟨_, rfl⟩ := he
      exact ⟨snoc.1, fun id hid _ => snoc.2 id hid⟩
    · cases he
  · split at he
    · split at he
      · simp only [Tr.eval, Option.some.injEq, Prod.mk.injEq] at he
        obtain ⟨_, rfl⟩ := he
        exact ⟨snoc.1, fun id hid _ => snoc.2 id hid⟩
      · cases he
    · cases he
  · split at he
    · split at he
      · split at he
        · split at he
          · simp only [Tr.eval, Option.some.injEq, Prod.mk.injEq] at he
            obtain ⟨_, rfl⟩ := he
            exact ⟨snoc.1, fun id hid _ => snoc.2 id hid⟩
          · cases he
        · cases he
      · cases he
    · cases he
  · split at he
    · split at he
      · split at he
        · obtain ⟨_, he⟩ := Tr.eval_need.1 he
          obtain ⟨_, _, hv⟩ := need2 he
          simp only [Tr.eval, Option.some.injEq, Prod.mk.injEq] at hv
          obtain ⟨_, rfl⟩ := hv
          exact ⟨snoc.1, fun id hid _ => snoc.2 id hid⟩
        · cases he
      · cases he
    · cases he
  · rename_i t p x ho
    rw [Tr.eval_bind] at he
    cases hst : (astore G.T h t (ρ p) (ρ x)).eval with
    | none => simp [hst] at he
    | some h'' =>
      rw [hst] at he
      simp only [Option.bind_some, Tr.eval, Option.some.injEq, Prod.mk.injEq] at he
      obtain ⟨_, rfl⟩ := he
      have hset : ∃ id b, id ∈ refAV (ρ p) ∧ h'' = setAt h id b := by
        unfold astore at hst
        split at hst
        · rename_i id i j ti hp _
          have hm : id ∈ refAV (ρ p) := by simp [hp, refAV, refAC]
          split at hst
          · split at hst
            · split at hst
              · simp only [Tr.eval, Option.some.injEq] at hst; exact ⟨id, _, hm, hst.symm⟩
              · cases hst
            · split at hst
              · split at hst
                · simp only [Tr.eval, Option.some.injEq] at hst; exact ⟨id, _, hm, hst.symm⟩
                · cases hst
              · cases hst
            · split at hst
              · split at hst
                · obtain ⟨_, hst⟩ := Tr.eval_need.1 hst
                  simp only [Tr.eval, Option.some.injEq] at hst; exact ⟨id, _, hm, hst.symm⟩
                · cases hst
              · cases hst
            · split at hst
              · split at hst
                · obtain ⟨_, hst⟩ := Tr.eval_need.1 hst
                  simp only [Tr.eval, Option.some.injEq] at hst; exact ⟨id, _, hm, hst.symm⟩
                · cases hst
              · cases hst
          · cases hst
        · cases hst
      obtain ⟨id, b, hm, rfl⟩ := hset
      refine ⟨by simp [setAt], fun i hi hn => ?_⟩
      have hne : i ≠ id := fun e => hn (by rw [e]; simpa [writesOf, ho] using hm)
      exact List.getElem?_set_ne (fun e => hne e.symm)
  · rename_i args ts ho
    split at he
    · rename_i s x t t2 ha _
      unfold aappend at he
      split at he
      · split at he
        · split at he
          · rename_i hk c nn i m cs hdst _
            split at he
            · split at he
              · obtain ⟨_, he⟩ := Tr.eval_need.1 he
                obtain ⟨_, _, hv⟩ := need2 he
                simp only [Tr.eval, Option.some.injEq, Prod.mk.injEq] at hv
                obtain ⟨_, rfl⟩ := hv
                have hd : hk = h ∨ ∃ id, id ∈ refAV (ρ s) ∧ hk = h.set id none := by
                  unfold dstOf at hdst
                  split at hdst
                  · simp only [Option.some.injEq, Prod.mk.injEq] at hdst; exact .inl hdst.1.symm
                  · rename_i id n hs
                    split at hdst
                    · split at hdst
                      · simp only [Option.some.injEq, Prod.mk.injEq] at hdst
                        exact .inr ⟨id, by simp [hs, refAV, refAC], hdst.1.symm⟩
                      · cases hdst
                    · cases hdst
                  · cases hdst
                rcases hd with rfl | ⟨id, hm, rfl⟩
                · exact ⟨snoc.1, fun id hid _ => snoc.2 id hid⟩
                · refine ⟨by simp, fun i hi hn => ?_⟩
                  have hne : i ≠ id := fun e => hn (by rw [e]; simp [writesOf, ho, ha, hm])
                  rw [List.getElem?_append_left (by simpa using hi)]
                  exact List.getElem?_set_ne (fun e => hne e.symm)
              · cases he
            · cases he
          · cases he
        · cases he
      · cases he
    · cases he
  · rename_i f args ts ho
    split at he
    · split at he
      · rename_i F _
        rw [acall_def] at he
        simp only [Tr.eval_bind] at he
        obtain ⟨l, hRe, hRd, hRb⟩ := closeOf_ok h 10000 (refAVs (args.toList.map ρ)) []
        generalize hR : closeOf h 10000 (refAVs (args.toList.map ρ)) [] = R at he
        cases h1 : (F (renAVs (idxIn R) (args.toList.map ρ)) (subHeap h R)).eval with
        | none => rw [h1] at he; simp at he
        | some r =>
          rw [h1] at he
          simp only [Option.bind_some, Tr.eval, Option.some.injEq, Prod.mk.injEq] at he
          obtain ⟨_, rfl⟩ := he
          refine ⟨by simp [mergeIn], fun i hi hn => ?_⟩
          have hni : i ∉ R := by rw [← hR]; simpa [writesOf, ho] using hn
          unfold mergeIn
          rw [List.getElem?_append_left (by simpa using hi), List.getElem?_map, List.getElem?_range hi]
          simp only [Option.map_some]
          rw [if_neg (by simpa using hni)]
          rw [List.getElem?_eq_getElem hi]
          rfl
      · cases he
    · cases he
  · cases he
end Go.Proofs.Ytcpahifgdppkbaa.QAI
