/- Stores. -/
import Derived.Test.YtcpahifgdppkbaaA7
set_option linter.unusedVariables false
set_option linter.unusedSimpArgs false
namespace Go.Proofs.Ytcpahifgdppkbaa.QAI
open Go Go.RowKit

theorem splice_get {α : Type} {L l : List α} {q : Nat} (h : q + l.length ≤ L.length) (k : Nat) :
    (splice L q l)[k]? = if k < q then L[k]? else if k < q + l.length then l[k - q]? else L[k]? := by
  unfold splice
  have hq : (L.take q).length = q := by simp; omega
  by_cases h1 : k < q
  · rw [if_pos h1, List.append_assoc, List.getElem?_append_left (by omega), List.getElem?_take, if_pos h1]
  · rw [if_neg h1]
    by_cases h2 : k < q + l.length
    · rw [if_pos h2, List.getElem?_append_left (by rw [List.length_append, hq]; exact h2), List.getElem?_append_right (by omega), hq]
    · rw [if_neg h2, List.getElem?_append_right (by rw [List.length_append, hq]; omega), List.length_append, hq, List.getElem?_drop]
      congr 1
      omega
theorem splice_len {α : Type} {L l : List α} {q : Nat} (h : q + l.length ≤ L.length) : (splice L q l).length = L.length := by
  unfold splice
  simp
  omega

section
variable {G : Ctx2} {o : Oper} {ρ : Operand → AV} {ρ' : Operand → Value} {h h' : AHeap} {w w' : World} {B : Nat} {m : List Pl} {v : AV}

theorem at_some {id : Nat} {b : ABlk} (hb : h.at id = some b) : h[id]? = some (some b) := by
  unfold AHeap.at at hb
  cases e : h[id]? with
  | none => simp [e] at hb
  | some o => rw [e] at hb; simp at hb; rw [hb]

/-- One block written. -/
theorem HR.set (H : HR B m h w) {id : Nat} {b b' : ABlk} {p : Pl} {A : Addr} (hid : h[id]? = some (some b)) (hp : m[id]? = some p) (ho : b.own = true) (ho' : b'.own = true) (hA : p.A = some A)
    (hw : ∀ k, k ≠ A.block → w'.heap[k]? = w.heap[k]?) (hnew : BR B m b' p w') : HR B m (setAt h id b') w' := by
  have hAB : B ≤ A.block := (((H.blk id b p hid hp).own ho).2 A hA).2.2.1
  have hlt : id < h.length := (List.getElem?_eq_some_iff.1 hid).1
  have hset : ∀ {i : Nat} {c : ABlk}, (setAt h id b')[i]? = some (some c) → (i = id ∧ c = b') ∨ (i ≠ id ∧ h[i]? = some (some c)) := by
    intro i c hc
    unfold setAt at hc
    by_cases e : i = id
    · subst e
      rw [List.getElem?_set_self hlt] at hc
      left
      exact ⟨rfl, by simpa using hc.symm⟩
    · rw [List.getElem?_set_ne (fun e' => e e'.symm)] at hc
      exact .inr ⟨e, hc⟩
  refine { len := by simp [setAt, H.len], blk := ?_, apart := ?_ }
  · intro i c q hc hq
    rcases hset hc with ⟨rfl, rfl⟩ | ⟨hne, hc⟩
    · have : q = p := by rw [hp] at hq; cases hq; rfl
      subst this
      exact hnew
    · have hbr := H.blk i c q hc hq
      refine hbr.keep fun A' hA' hlt' hor => hw _ ?_
      by_cases hco : c.own = true
      · exact H.apart i id c b q p A' A hne hc hid hco ho hq hp hA' hA
      · have hcf : c.own = false := by simpa using hco
        have hn : 0 < c.c.n := by rcases hor with h0 | h0; exact h0; exact absurd h0 hco
        have := hbr.came hcf A' hA' hn
        omega
  · intro i i' c c' q q' A1 A2 hne hc hc' hoc hoc' hq hq' hA1 hA2
    have conv : ∀ {i : Nat} {c : ABlk}, (setAt h id b')[i]? = some (some c) → c.own = true → ∃ c0, h[i]? = some (some c0) ∧ c0.own = true := by
      intro i c hc hoc
      rcases hset hc with ⟨rfl, rfl⟩ | ⟨_, hc⟩
      · exact ⟨b, hid, ho⟩
      · exact ⟨c, hc, hoc⟩
    obtain ⟨c0, h0, h0o⟩ := conv hc hoc
    obtain ⟨c1, h1, h1o⟩ := conv hc' hoc'
    exact H.apart i i' c0 c1 q q' A1 A2 hne h0 h1 h0o h1o hq hq' hA1 hA2

theorem Own.set {id : Nat} {b b' : ABlk} {k : Nat} (hid : h[id]? = some (some b)) (ho : b.own = true) (hk : Own m (setAt h id b') k) : Own m h k := by
  obtain ⟨i, c, q, A, hc, hoc, hq, hA, rfl⟩ := hk
  by_cases e : i = id
  · subst e
    exact ⟨i, b, q, A, hid, ho, hq, hA, rfl⟩
  · unfold setAt at hc
    rw [List.getElem?_set_ne (fun e' => e e'.symm)] at hc
    exact ⟨i, c, q, A, hc, hoc, hq, hA, rfl⟩

/-- Cells j.. of element i written. -/
theorem BR.store {b b' : ABlk} {p : Pl} {A : Addr} (hb : BR B m b p w) (ho : b.own = true) (ho' : b'.own = true) (ht : b'.t = b.t) (hA : p.A = some A) {i j : Nat} (hi : i < b.c.n) {cl : List AC} {xs : List Value} (hF : F2 (CR m) cl xs) (h1 : ∀ x ∈ xs, oneV x = true)
    (hj : j + cl.length ≤ b.c.sz) (hn : b'.c.n = b.c.n) (hs : b'.c.sz = b.c.sz) (hel : ∀ k, k < b.c.n → b'.c.el k = if k = i then splice (b.c.el i) j cl else b.c.el k)
    {cs cs' : Array Value} (hold : w.heap[A.block]? = some (.cells cs b.t (0, 0))) (hnew : w'.heap[A.block]? = some (.cells cs' b.t (0, 0))) (hcs : cs'.toList = splice cs.toList (i * p.sz + j) xs) : BR B m b' p w' := by
  have hsz := hb.sz
  obtain ⟨hA0, hAsp, hAB, cs0, hc0, hcsz⟩ := (hb.own ho).2 A hA
  have hcc : cs0 = cs := by rw [hold] at hc0; cases hc0; rfl
  subst hcc
  have hxl : xs.length = cl.length := hF.length.symm
  have hle : i * p.sz + j + xs.length ≤ cs0.toList.length := by
    have h2 : i * p.sz + p.sz ≤ p.cap * p.sz := by
      have : (i + 1) * p.sz ≤ p.cap * p.sz := Nat.mul_le_mul_right _ (Nat.le_trans hi hb.cap)
      rwa [Nat.add_mul, Nat.one_mul] at this
    simp only [Array.length_toList]
    omega
  have hlen := splice_len hle
  have hcsz' : cs'.size = cs0.size := by
    have := congrArg List.length hcs
    simpa [hlen] using this
  refine { sz := by rw [hs]; exact hsz, len := ?_, cap := by rw [hn]; exact hb.cap, cell := ?_, own := ?_, came := fun e => by rw [ho'] at e; cases e }
  · intro k hk
    rw [hn] at hk
    rw [hel k hk]
    split
    · rw [splice_len (by rw [hb.len i hi]; omega)]; exact hb.len i hi
    · exact hb.len k hk
  · intro k q a hk ha
    rw [hn] at hk
    rw [hel k hk] at ha
    have hcell : ∀ x, cs'.toList[k * p.sz + q]? = some x → w'.cell? ⟨A.block, A.off + (k * p.sz + q), none⟩ = some x := by
      intro x hx
      simp only [World.cell?, hnew, hA0]
      simpa using hx
    have hold' : ∀ x, w.cell? ⟨A.block, A.off + (k * p.sz + q), none⟩ = some x → cs0.toList[k * p.sz + q]? = some x := by
      intro x hx
      simp only [World.cell?, hold, hA0] at hx
      simpa using hx
    have old : (b.c.el k)[q]? = some a → ¬ (i * p.sz + j ≤ k * p.sz + q ∧ k * p.sz + q < i * p.sz + j + xs.length) → ∃ A x, p.A = some A ∧ A.spot = none ∧ w'.cell? ⟨A.block, A.off + (k * p.sz + q), none⟩ = some x ∧ CR m a x ∧ oneV x = true := by
      intro ha hnot
      obtain ⟨A', x, hA', hsp, hx, hr, h1x⟩ := hb.cell k q a hk ha
      have : A' = A := by rw [hA] at hA'; cases hA'; rfl
      subst this
      refine ⟨A', x, hA', hsp, hcell x ?_, hr, h1x⟩
      rw [hcs, splice_get hle]
      by_cases hlt : k * p.sz + q < i * p.sz + j
      · rw [if_pos hlt]; exact hold' x hx
      · rw [if_neg hlt, if_neg (by omega)]; exact hold' x hx
    split at ha
    · rename_i e
      subst e
      have hspl : j + cl.length ≤ (b.c.el k).length := by rw [hb.len k hi]; omega
      rw [splice_get hspl] at ha
      split at ha
      · exact old ha (by omega)
      · split at ha
        · obtain ⟨x, hx, hr⟩ := hF.get _ _ ha
          refine ⟨A, x, hA, hAsp, hcell x ?_, hr, h1 x (List.mem_of_getElem? hx)⟩
          rw [hcs, splice_get hle, if_neg (by omega), if_pos (by omega), show k * p.sz + q - (k * p.sz + j) = q - j by omega]
          exact hx
        · exact old ha (by omega)
    · rename_i e
      have hq : q < p.sz := by rw [← hb.len k hk]; exact (List.getElem?_eq_some_iff.1 ha).1
      refine old ha ?_
      rcases Nat.lt_or_gt_of_ne e with hlt | hgt
      · have : (k + 1) * p.sz ≤ i * p.sz := Nat.mul_le_mul_right _ hlt
        rw [Nat.add_mul, Nat.one_mul] at this
        omega
      · have : (i + 1) * p.sz ≤ k * p.sz := Nat.mul_le_mul_right _ hgt
        rw [Nat.add_mul, Nat.one_mul] at this
        omega
  · intro _
    refine ⟨(hb.own ho).1, fun A' hA' => ?_⟩
    have : A' = A := by rw [hA] at hA'; cases hA'; rfl
    subst this
    exact ⟨hA0, hAsp, hAB, cs', by rw [ht]; exact hnew, by rw [hcsz']; exact hcsz⟩

theorem run_storeAt {P : Program} {T : List TI} (hT : TOk P T) {t : TypeId} {ti : TI} (ht : lookT T t = some ti) {a : Addr} {x : Value} (hs : x.cells.size = ti.size) {w' : World} (hr : (storeCells a x.cells.toList 0).run P w = .ok () w') :
    (Instr.storeAt t (.pointer (some a)) x).run P w = .ok () w' := by
  obtain ⟨inf, z, hi, hsi, _, _, _⟩ := hT.i _ _ ht
  simp only [Instr.storeAt, Instr.sureAddr, Sem.run_bind, Sem.run_pure, Result.andThen_ok, storeVar, run_sizeOf' hi, hsi]
  rw [if_neg (by simpa using hs)]
  exact hr

theorem valsOf_some : ∀ {l : List AC} {k : List Value}, valsOf l = some k → l = ofCells k
  | [], k, h => by simp [valsOf] at h; subst h; rfl
  | a :: l, k, h => by
    simp only [valsOf] at h
    split at h
    · rename_i x r hx hr
      simp only [Option.some.injEq] at h
      subst h
      cases a <;> simp [valOf] at hx
      subst hx
      rw [valsOf_some hr]
      rfl
    · cases h

theorem ofCells_splice (l k : List Value) (j : Nat) : splice (ofCells l) j (ofCells k) = ofCells (splice l j k) := by
  simp [splice, ofCells]

/-- A store that the abstract machine takes. -/
theorem h_store (hG : GOk G.toCtx) (hρ : OpsOk m ρ ρ') (H : HR B m h w) {t : TypeId} {pp x : Operand} (ho : o.op = .store t pp x) (he : (astore G.T h t (ρ pp) (ρ x)).eval = some h') :
    HOk G.P B m h w ρ' o (.c (.v undef)) h' := by
  unfold astore at he
  split at he
  · rename_i id i j ti hpp hti
    split at he
    · rename_i bt c hb
      have hid := at_some hb
      obtain ⟨p, hp, hbr⟩ := H.at_ hb
      have hpv := hρ pp
      rw [hpp] at hpv
      obtain ⟨p', A, hp', hA, hsp, hpe⟩ := hpv
      have : p' = p := by rw [hp] at hp'; cases hp'; rfl
      subst this
      obtain ⟨hA0, _, hAB, cs, hcs, hcsz⟩ := (hbr.own rfl).2 A hA
      -- what is left when the new cells are known
      have fin : ∀ (b' : ABlk), b'.own = true → (ρ' x).cells.size = ti.size → i * p'.sz + j + (ρ' x).cells.size ≤ cs.size → (∀ y ∈ (ρ' x).cells.toList, oneV y = true) →
          (∀ w' cs', w'.heap[A.block]? = some (.cells cs' bt (0, 0)) → cs'.toList = splice cs.toList (i * p'.sz + j) (ρ' x).cells.toList → BR B m b' p' w') → h' = setAt h id b' → HOk G.P B m h w ρ' o (.c (.v undef)) h' := by
        intro b' hb'o hsz hle h1 hnew hh
        subst hh
        obtain ⟨w', cs', hr, hb', hcs', hother, hsize, hos, htape, hout⟩ := storeCells_run G.P A.block (A.off + (i * p'.sz + j)) bt (ρ' x).cells.toList 0 w cs hcs (by simp [hA0]; omega) h1
        have hcs2 : cs'.toList = splice cs.toList (i * p'.sz + j) (ρ' x).cells.toList := by
          rw [hcs', hA0]; simp [splice]
        refine ⟨undef, w', m, .inr ⟨?_, rfl⟩, ⟨Ext.refl _, H.set hid hp rfl hb'o hA hother (hnew w' cs' hb' hcs2), ⟨hos, htape, hout, by omega, fun k hk hX => hother k fun e => hX ⟨id, _, p', A, hid, rfl, hp, hA, e.symm⟩⟩, fun k hk => .inl (Own.set hid rfl hk)⟩, rfl⟩
        simp only [execOp, ho, Sem.run_bind]
        rw [hpe, run_storeAt hG.c.t hti hsz hr]
        rfl
      have hseg : ∀ {cl : List AC} {xs : List Value}, i < c.n → j + cl.length ≤ c.sz → F2 (CR m) cl xs → i * p'.sz + j + xs.length ≤ cs.size := by
        intro cl xs hi hj hF
        have h2 : (i + 1) * p'.sz ≤ p'.cap * p'.sz := Nat.mul_le_mul_right _ (Nat.le_trans hi hbr.cap)
        rw [Nat.add_mul, Nat.one_mul] at h2
        have := hF.length
        have hs := hbr.sz
        simp only at hs
        omega
      split at he
      · -- an array, whole
        rename_i n f mm g hxv
        split at he
        · rename_i hc
          obtain ⟨rfl, rfl, hsz, hn⟩ := hc
          subst hn
          simp only [Tr.eval, Option.some.injEq] at he
          have hx := hρ x
          rw [hxv] at hx
          simp only [VR] at hx
          obtain ⟨hxe, hone⟩ := hx
          have hps : p'.sz = 1 := hbr.sz
          have hncap : n ≤ p'.cap := hbr.cap
          refine fin _ rfl (by rw [hxe]; simp [Value.cells, hsz]) (by rw [hxe, hcsz, hps]; simp [Value.cells]; omega) (by rw [hxe]; simp only [Value.cells]; intro y hy; simp at hy; obtain ⟨k, hk, rfl⟩ := hy; exact hone k hk) ?_ he.symm
          intro w' cs' hw' hcs'
          have hxl : (ρ' x).cells.toList = (List.range n).map g := by rw [hxe]; rfl
          rw [hxl] at hcs'
          have hle : 0 * p'.sz + 0 + ((List.range n).map g).length ≤ cs.toList.length := by simp [hcsz, hps]; omega
          have hcsz' : cs'.size = cs.size := by
            have := congrArg List.length hcs'
            rw [splice_len hle] at this
            simpa using this
          refine { sz := hbr.sz, len := fun k _ => by simp [Cont.el, ofCells, hps], cap := hbr.cap, cell := ?_, own := ?_, came := fun e => by cases e }
          · intro k q a hk ha
            have hk' : k < n := hk
            simp only [Cont.el, ofCells, List.map_cons, List.map_nil] at ha
            cases q with
            | zero =>
              simp at ha
              subst ha
              refine ⟨A, g k, hA, hsp, ?_, rfl, hone k hk'⟩
              simp only [World.cell?, hw', hA0]
              have : cs'.toList[k]? = some (g k) := by
                rw [hcs', splice_get hle, if_neg (by omega), if_pos (by simp; omega)]
                simp [hk']
              simpa [hps] using this
            | succ q => simp at ha
          · intro _
            refine ⟨(hbr.own rfl).1, fun A' hA' => ?_⟩
            have : A' = A := by rw [hA] at hA'; cases hA'; rfl
            subst this
            exact ⟨hA0, hsp, hAB, cs', hw', by rw [hcsz']; exact hcsz⟩
        · cases he
      · -- a variable
        rename_i l
        split at he
        · rename_i cl hcl
          split at he
          · rename_i hc
            obtain ⟨rfl, hlen, hj⟩ := hc
            simp only [Tr.eval, Option.some.injEq] at he
            obtain ⟨hF, h1⟩ := cellsOf_ok hcl (hρ x)
            have hFl := hF.length
            simp only [Array.length_toList] at hFl
            refine fin _ rfl (by omega) (by simpa using hseg (cl := cl) Nat.zero_lt_one hj hF) h1 ?_ he.symm
            intro w' cs' hw' hcs'
            exact hbr.store rfl rfl rfl hA Nat.zero_lt_one hF h1 hj rfl (by simp [Cont.sz, splice_len hj]) (fun k hk => by
              have : k = 0 := by simp [Cont.n] at hk; exact hk
              subst this
              simp [Cont.el]) hcs hw' hcs'
          · cases he
        · cases he
      · -- an element of a row
        rename_i sz n f _
        split at he
        · rename_i vs hvs
          split at he
          · rename_i hc
            obtain ⟨hlen, hj⟩ := hc
            obtain ⟨hi, he⟩ := Tr.eval_need.1 he
            have hi' : i < n := by simpa using hi
            simp only [Tr.eval, Option.some.injEq] at he
            cases hcl : cellsOf (ρ x) with
            | none => simp [hcl] at hvs
            | some cl =>
              rw [hcl] at hvs
              simp only [Option.bind_some] at hvs
              have hclv := valsOf_some hvs
              obtain ⟨hF, h1⟩ := cellsOf_ok hcl (hρ x)
              have hFl := hF.length
              simp only [Array.length_toList] at hFl
              have hcll : cl.length = vs.length := by rw [hclv]; simp [ofCells]
              refine fin _ rfl (by omega) (by simpa using hseg (cl := cl) hi' (by simp only [Cont.sz]; omega) hF) h1 ?_ he.symm
              intro w' cs' hw' hcs'
              exact hbr.store rfl rfl rfl hA hi' hF h1 (by simp only [Cont.sz]; omega) rfl rfl (fun k hk => by
                simp only [Cont.el, updC, selL_eq]
                by_cases hkk : k = i
                · subst hkk; simp only [decide_true, cond_true, if_true]; rw [hclv, ofCells_splice]
                · simp only [hkk, decide_false, cond_false, if_false]) hcs hw' hcs'
          · cases he
        · cases he
      · -- an element of a literal
        rename_i sz l z
        split at he
        · rename_i cl hcl
          split at he
          · rename_i hc
            obtain ⟨hlen, hj⟩ := hc
            obtain ⟨hi, he⟩ := Tr.eval_need.1 he
            have hi' : i < l.length := by simpa using hi
            simp only [Tr.eval, Option.some.injEq] at he
            obtain ⟨hF, h1⟩ := cellsOf_ok hcl (hρ x)
            have hFl := hF.length
            simp only [Array.length_toList] at hFl
            refine fin _ rfl (by omega) (by simpa using hseg (cl := cl) hi' hj hF) h1 ?_ he.symm
            intro w' cs' hw' hcs'
            exact hbr.store rfl rfl rfl hA hi' hF h1 hj (by simp [Cont.n]) rfl (fun k hk => by
              simp only [Cont.el]
              have hk' : k < l.length := hk
              by_cases e : k = i
              · subst e
                rw [if_pos rfl, List.getD_eq_getElem?_getD, List.getElem?_set_self hk']
                rfl
              · rw [if_neg e, List.getD_eq_getElem?_getD, List.getElem?_set_ne (fun e' => e e'.symm), List.getD_eq_getElem?_getD]) hcs hw' hcs'
          · cases he
        · cases he
    · cases he
  · cases he
end
end Go.Proofs.Ytcpahifgdppkbaa.QAI
