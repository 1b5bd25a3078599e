/- append, the operation. -/
import Derived.Test.YtcpahifgdppkbaaA9
set_option linter.unusedVariables false
set_option linter.unusedSimpArgs false
namespace Go.Proofs.Ytcpahifgdppkbaa.QAI
open Go Go.RowKit

section
variable {G : Ctx2} {o : Oper} {ρ : Operand → AV} {ρ' : Operand → Value} {h h' : AHeap} {w w' : World} {B : Nat} {m : List Pl} {v : AV}

theorem addr_eta {A : Addr} (h : A.spot = none) (s : Nat) : some A = some ⟨A.block, A.off + 0 * s, none⟩ := by
  cases A; simp at h; simp [h]

theorem lookT_t {T : List TI} {t : TypeId} {ti : TI} (h : lookT T t = some ti) : ti.t = t := by
  unfold lookT at h
  have := List.find?_some h
  simpa using this

theorem kill_some {id i : Nat} {c : ABlk} (hc : (h.set id none)[i]? = some (some c)) : i ≠ id ∧ h[i]? = some (some c) := by
  by_cases e : i = id
  · subst e
    rcases Nat.lt_or_ge i h.length with hl | hl
    · rw [List.getElem?_set_self hl] at hc; cases hc
    · rw [List.getElem?_eq_none (by simpa using hl)] at hc; cases hc
  · rw [List.getElem?_set_ne (fun e' => e e'.symm)] at hc
    exact ⟨e, hc⟩

theorem HR.kill (H : HR B m h w) (id : Nat) : HR B m (h.set id none) w :=
  { len := by simp [H.len], blk := fun i c q hc hq => H.blk i c q (kill_some hc).2 hq,
    apart := fun i i' c c' q q' A1 A2 hne hc hc' => H.apart i i' c c' q q' A1 A2 hne (kill_some hc).2 (kill_some hc').2 }

theorem HR.killSet (H : HR B m h w) {id : Nat} {b : ABlk} {p : Pl} {A : Addr} (hid : h[id]? = some (some b)) (hp : m[id]? = some p) (ho : b.own = true) (hA : p.A = some A)
    (hw : ∀ k, k ≠ A.block → w'.heap[k]? = w.heap[k]?) : HR B m (h.set id none) w' := by
  have hAB : B ≤ A.block := (((H.blk id b p hid hp).own ho).2 A hA).2.2.1
  refine { len := by simp [H.len], blk := ?_, apart := (H.kill id).apart }
  intro i c q hc hq
  obtain ⟨hne, hc⟩ := kill_some hc
  refine (H.blk i c q hc hq).keep fun A' hA' hlt' hor => hw _ ?_
  by_cases hco : c.own = true
  · exact H.apart i id c b q p A' A hne hc hid hco ho hq hp hA' hA
  · have hcf : c.own = false := by simpa using hco
    have hn : 0 < c.c.n := by rcases hor with h0 | h0; exact h0; exact absurd h0 hco
    have := (H.blk i c q hc hq).came hcf A' hA' hn
    omega

theorem Own.kill {id k : Nat} (hk : Own m (h.set id none) k) : Own m h k := by
  obtain ⟨i, c, q, A, hc, hoc, hq, hA, rfl⟩ := hk
  exact ⟨i, c, q, A, (kill_some hc).2, hoc, hq, hA, rfl⟩

theorem HR.push (H : HR B m h w) {b : ABlk} {p : Pl} (hbr : BR B (m ++ [p]) b p w) (hap : ∀ (id : Nat) b' p' A A', h[id]? = some (some b') → b'.own = true → m[id]? = some p' → p'.A = some A' → p.A = some A → A'.block ≠ A.block) :
    HR B (m ++ [p]) (h ++ [some b]) w := by
  have inOld : ∀ {id : Nat} {c : ABlk} {q : Pl}, h[id]? = some (some c) → (m ++ [p])[id]? = some q → m[id]? = some q := by
    intro id c q hc hq
    have hlt : id < m.length := by rw [H.len]; exact (List.getElem?_eq_some_iff.1 hc).1
    rwa [List.getElem?_append_left hlt] at hq
  have inNew : ∀ {id : Nat} {q : Pl}, id = h.length → (m ++ [p])[id]? = some q → q = p := by
    intro id q hid hq
    rw [hid, ← H.len] at hq
    simp at hq
    exact hq.symm
  refine { len := by simp [H.len], blk := ?_, apart := ?_ }
  · intro id c q hc hq
    rcases getElem?_snoc hc with hc | ⟨hid, hce⟩
    · exact (H.blk id c q hc (inOld hc hq)).ext (Ext.app _ _)
    · cases hce
      have := inNew hid hq
      subst this
      exact hbr
  · intro id id' c c' q q' A A' hne hc hc' hoc hoc' hq hq' hA hA'
    rcases getElem?_snoc hc with hc | ⟨hid, hce⟩ <;> rcases getElem?_snoc hc' with hc' | ⟨hid', hce'⟩
    · exact H.apart id id' c c' q q' A A' hne hc hc' hoc hoc' (inOld hc hq) (inOld hc' hq') hA hA'
    · have := inNew hid' hq'
      subst this
      exact hap id c q A' A hc hoc (inOld hc hq) hA hA'
    · have := inNew hid hq
      subst this
      exact fun e => hap id' c' q' A A' hc' hoc' (inOld hc' hq') hA' hA e.symm
    · omega

theorem Own.push {b : ABlk} {p : Pl} {k : Nat} (H : m.length = h.length) (hk : Own (m ++ [p]) (h ++ [some b]) k) : Own m h k ∨ (∃ A, p.A = some A ∧ A.block = k) := by
  obtain ⟨id, c, q, A, hc, hoc, hq, hA, rfl⟩ := hk
  rcases getElem?_snoc hc with hc | ⟨hid, _⟩
  · left
    have hlt : id < m.length := by rw [H]; exact (List.getElem?_eq_some_iff.1 hc).1
    rw [List.getElem?_append_left hlt] at hq
    exact ⟨id, c, q, A, hc, hoc, hq, hA, rfl⟩
  · right
    rw [hid, ← H] at hq
    simp at hq
    subst hq
    exact ⟨A, hA, rfl⟩

/-- An appended row's cells, one behind the other. -/
theorem joinCells {c cs c' : Cont} {i k s : Nat} {old new : List Value} (hc : c'.n = c.n + k ∧ c'.sz = s ∧ ∀ q, q < c.n + k → c'.el q = if q < c.n then c.el q else cs.el (i + (q - c.n))) (hcs : c.sz = s) (hss : cs.sz = s)
    (hold : Cells m c 0 c.n old) (hnew : Cells m cs i k new) : Cells m c' 0 (c.n + k) (old ++ new) := by
  obtain ⟨h1, h2, h3⟩ := hc
  refine ⟨by rw [List.length_append, hold.1, hnew.1, hcs, hss, h2, Nat.add_mul], ?_, ?_⟩
  rotate_left
  · intro q hq
    rw [Nat.zero_add, h3 q hq, h2]
    split
    · rename_i hlt
      have := hold.2.2 q hlt
      rw [Nat.zero_add] at this
      rw [this, hcs]
    · rw [hnew.2.2 (q - c.n) (by omega), hss]
  intro q j a hq ha
  rw [Nat.zero_add, h3 q hq] at ha
  rw [h2]
  split at ha
  · rename_i hlt
    obtain ⟨y, hy, hr⟩ := hold.2.1 q j a hlt (by rw [Nat.zero_add]; exact ha)
    rw [hcs] at hy
    exact ⟨y, by rw [List.getElem?_append_left (List.getElem?_eq_some_iff.1 hy).1]; exact hy, hr⟩
  · rename_i hge
    obtain ⟨y, hy, hr⟩ := hnew.2.1 (q - c.n) j a (by omega) ha
    rw [hss] at hy
    refine ⟨y, ?_, hr⟩
    have hlen : old.length = c.n * s := by rw [hold.1, hcs]
    have hqs : (q - c.n) * s + c.n * s = q * s := by rw [← Nat.add_mul]; congr 1; omega
    rw [List.getElem?_append_right (by rw [hlen]; omega), hlen, show q * s + j - c.n * s = (q - c.n) * s + j by omega]
    exact hy

theorem zeroCells_size (z : Array Value) (n : Nat) : (Builtin.zeroCells z n).size = n * z.size := by simp [Builtin.zeroCells]

theorem isSrcD_cases {u : TypeDesc} (h : isSrcD u = true) : (∃ e, u = .slice e) ∨ u = .string := by
  cases u <;> simp_all [isSrcD]

theorem run_append_fit {P : Program} {t t2 ty : TypeId} {e : TypeId} {u2 : TypeDesc} {x : Value} {base : Option Addr} {n cap k : Nat} {inf : TypeInfo} {new : List Value} (hu : P.underlying t = some (.slice e)) (hu2 : P.underlying t2 = some u2) (hni : isSrcD u2 = true)
    (hi : P.info? e = some inf) (hl : (Builtin.lenOf x).run P w = .ok k w) (hf : (Builtin.firstCells inf.size k x).run P w = .ok new.toArray w) (hle : n + k ≤ cap)
    (hst : (∀ a, base = some a → (storeCells (a.add (n * inf.size)) new 0).run P w = .ok () w') ∧ (base = none → w' = w)) :
    (Builtin.append_ #[t, t2] ty #[.slice base n cap, x]).run P w = .ok (.slice base (n + k) cap) w' := by
  rcases isSrcD_cases hni with ⟨e2, rfl⟩ | rfl
  all_goals
    simp only [Builtin.append_, List.getElem?_toArray, List.getElem?_cons_zero, List.getElem?_cons_succ, Sem.run_bind, run_underlying' hu, run_underlying' hu2, Result.andThen_ok, run_sizeOf' hi, Sem.run_pure, Bool.false_eq_true, if_false, hl, hle, if_true, Bool.not_false, hf]
    cases base with
    | none =>
      have := hst.2 rfl
      subst this
      simp
    | some a =>
      have := hst.1 a rfl
      simp [this]

theorem run_append_grow {P : Program} {t t2 ty : TypeId} {e : TypeId} {u2 : TypeDesc} {x : Value} {base : Option Addr} {n cap k : Nat} {inf : TypeInfo} {z : Value} {old new : List Value} (hu : P.underlying t = some (.slice e)) (hu2 : P.underlying t2 = some u2) (hni : isSrcD u2 = true)
    (hi : P.info? e = some inf) (hz : inf.zero = some z) (hl : (Builtin.lenOf x).run P w = .ok k w) (hfo : (Builtin.firstCells inf.size n (.slice base n cap)).run P w.drew = .ok old.toArray w.drew) (hf : (Builtin.firstCells inf.size k x).run P w.drew = .ok new.toArray w.drew) (hgt : cap < n + k)
    (hb : 0 < inf.bytes) (hsm : (n + k) * inf.bytes ≤ maxCells) :
    ∃ nc, n + k ≤ nc ∧ (Builtin.append_ #[t, t2] ty #[.slice base n cap, x]).run P w = .ok (.slice (some ⟨w.heap.size, 0, none⟩) (n + k) nc) (w.drew.alloc (.cells (old.toArray ++ new.toArray ++ Builtin.zeroCells z.cells (nc - (n + k))) e)) := by
  have hnc : ∃ nc, n + k ≤ nc ∧ (choose (.appendCap (n + k) cap e)).run P w = .ok nc w.drew := by
    refine ⟨_, ?_, rfl⟩
    simp only [Question.cut]
    omega
  obtain ⟨nc, hnc1, hnc2⟩ := hnc
  refine ⟨nc, hnc1, ?_⟩
  have hmc : (n + k) * inf.bytes ≤ 140737488355328 := hsm
  have hnext : ¬ Builtin.nextslicecap (n + k) cap * inf.bytes > 2 ^ 48 := by
    have h1 := nextcap_le hgt
    have h2 : Builtin.nextslicecap (n + k) cap * inf.bytes ≤ 2 * (n + k) * inf.bytes := Nat.mul_le_mul_right _ h1
    rw [Nat.mul_assoc] at h2
    omega
  have hbig : ¬ (((n + k : Nat) : Int) > IntKind.i64.max ∧ (False ∨ inf.bytes = 0)) := by
    rintro ⟨_, h⟩
    rcases h with h | h
    · exact h
    · omega
  have hask : (askRoom (nc * inf.bytes)).run P w.drew = .ok () w.drew := by
    unfold askRoom
    split <;> rfl
  have hzero : (zeroValue e).run P w.drew = .ok z w.drew := run_zero' hi hz
  rcases isSrcD_cases hni with ⟨e2, rfl⟩ | rfl
  all_goals
    simp only [Builtin.append_, List.getElem?_toArray, List.getElem?_cons_zero, List.getElem?_cons_succ, Sem.run_bind, run_underlying' hu, run_underlying' hu2, Result.andThen_ok, run_sizeOf' hi, Sem.run_pure, Bool.false_eq_true, if_false, hl, Nat.not_le.2 hgt, Bool.not_false, if_true, run_typeInfo' hi]
    rw [if_neg (by simpa using hbig)]
    simp only [Sem.run_bind, run_typeInfo' hi, Result.andThen_ok]
    rw [if_neg hnext]
    simp only [Sem.run_pure, Result.andThen_ok, Sem.run_bind, run_typeInfo' hi, hnc2, hask, hfo, hf, hzero, run_newRow]
    rfl

/-- A row known by its cells. -/
theorem BR.ofCells' {c : Cont} {list : List Value} {cs : Array Value} {t : TypeId} {A : Addr} {cap : Nat} (hC : Cells m c 0 c.n list) (hcap : c.n ≤ cap) (hA0 : A.off = 0) (hsp : A.spot = none) (hB : B ≤ A.block)
    (hw : w.heap[A.block]? = some (.cells cs t (0, 0))) (hsz : cs.size = cap * c.sz) (hpre : ∀ (k : Nat) y, list[k]? = some y → cs.toList[k]? = some y) : BR B m ⟨t, true, c⟩ ⟨some A, cap, c.sz⟩ w := by
  refine { sz := rfl, len := fun i hi => by simpa using hC.2.2 i hi, cap := hcap, cell := ?_, own := ?_, came := fun e => by cases e }
  · intro i j a hi ha
    obtain ⟨y, hy, hr, h1⟩ := hC.2.1 i j a hi (by simpa using ha)
    refine ⟨A, y, rfl, hsp, ?_, hr, h1⟩
    simp only [World.cell?, hw, hA0]
    have := hpre _ _ hy
    simpa using this
  · intro _
    refine And.intro (fun e => nomatch e) ?_
    intro A' hA'
    cases hA'
    exact ⟨hA0, hsp, hB, cs, hw, hsz⟩

theorem Cells.ext {m' : List Pl} (he : Ext m m') {c : Cont} {i k : Nat} {list : List Value} (h : Cells m c i k list) : Cells m' c i k list :=
  ⟨h.1, fun q j a hq ha => let ⟨y, hy, hr, h1⟩ := h.2.1 q j a hq ha; ⟨y, hy, hr.ext he, h1⟩, h.2.2⟩

theorem h_append (hG : GOk G.toCtx) (hρ : OpsOk m ρ ρ') (H : HR B m h w) (hB : B ≤ w.heap.size) {args : Array Operand} {ts : Array TypeId} (ho : o.op = .call ⟨.builtin .append, args, ts⟩) {s x : Operand} {t t2 : TypeId} (ha : args.toList = [s, x]) (hts : ts.toList = [t, t2])
    (he : (aappend G.T h t t2 (ρ s) (ρ x)).eval = some (v, h')) : HOk G.P B m h w ρ' o v h' := by
  have hargs : args = #[s, x] := by apply Array.ext'; simpa using ha
  have htss : ts = #[t, t2] := by apply Array.ext'; simpa using hts
  subst hargs; subst htss
  unfold aappend at he
  split at he
  · rename_i e _ _ _ _ _ _ ti2 ht ht2
    split at he
    · rename_i ti hsrc hte
      split at he
      · rename_i hk c nn i k cs hdst hsr
        split at he
        · rename_i hcs
          split at he
          · rename_i c' hj
            obtain ⟨h0, he⟩ := Tr.eval_need.1 he
            have hnn : c.n = nn := by simpa using h0
            obtain ⟨h1, h2, hv⟩ := need2 he
            simp only [Tr.eval, Option.some.injEq, Prod.mk.injEq] at hv
            obtain ⟨rfl, rfl⟩ := hv
            have hle : i + k ≤ cs.n := by simpa using h1
            have hsm : (c.n + k) * ti.bytes ≤ maxCells := by simpa using h2
            obtain ⟨inf, z, hi, hs, hby, hz, hzc⟩ := hG.c.t.i _ _ hte
            have hpos := (hG.c.one _ _ hte).1
            have hbp := hG.c.bytes _ _ hte
            have hut := hG.c.t.u _ _ ht
            have hut2 := hG.c.t.u _ _ ht2
            obtain ⟨new, hnew, hlen, hfirst⟩ := src_ok G.P H hpos (hρ x) hsr hcs hle
            have hdr : HR B m h w.drew := H.keep fun k _ => rfl
            obtain ⟨new2, hnew2, hlen2, hfirst2⟩ := src_ok G.P hdr hpos (hρ x) hsr hcs hle
            obtain ⟨hcsz, hd⟩ := dst_ok H (hρ s) hdst hnn
            have hjo := joinC_ok hj hle
            -- the old cells
            have hexec : ∀ {y : Value} {w'' : World}, (Builtin.append_ #[t, t2] o.type #[ρ' s, ρ' x]).run G.P w = .ok y w'' → (execOp ρ' o).run G.P w = .ok (.value y) w'' := by
              intro y w'' hr
              simp only [execOp, ho, resolve, invoke, builtin, Sem.run_bind, Sem.run_pure, Result.andThen_ok, List.map_toArray, List.map_cons, List.map_nil]
              rw [hr]
              rfl
            have hkill : HR B m hk w := by
              rcases hd with ⟨_, rfl, _⟩ | ⟨id, b, p, _, _, _, _, _, rfl, _⟩
              · exact H
              · exact H.kill id
            have hkown : ∀ q, Own m hk q → Own m h q := by
              rcases hd with ⟨_, rfl, _⟩ | ⟨id, b, p, _, _, _, _, _, rfl, _⟩
              · exact fun _ hq => hq
              · exact fun _ hq => Own.kill hq
            have hkl : hk.length = h.length := by rw [← H.len, ← hkill.len]
            -- a new block
            have grow : ∀ {old : List Value} {base : Option Addr} {cap : Nat}, ρ' s = .slice base c.n cap → Cells m c 0 c.n old → (Builtin.firstCells ti.size c.n (.slice base c.n cap)).run G.P w.drew = .ok old.toArray w.drew → cap < c.n + k →
                HOk G.P B m h w ρ' o (.c (.sl h.length 0 (c.n + k))) (hk ++ [some ⟨e, true, c'⟩]) := by
              intro old base cap hse hold hfo hgt
              obtain ⟨nc, hnc, hrun⟩ := run_append_grow (ty := o.type) (k := k) hut hut2 hsrc hi hz hlen (by rw [hs]; exact hfo) (by rw [hs]; exact hfirst2) hgt (by rw [hby]; exact hbp) (by rw [hby]; exact hsm)
              have hC := joinCells hjo hcsz hcs hold hnew2
              have hzs : z.cells.size = ti.size := by
                have := hG.c.t.zlen _ _ hte
                rw [← hzc] at this
                simpa using this
              have hcell : (w.drew.alloc (.cells (old.toArray ++ new2.toArray ++ Builtin.zeroCells z.cells (nc - (c.n + k))) e)).heap[w.heap.size]? = some (.cells (old.toArray ++ new2.toArray ++ Builtin.zeroCells z.cells (nc - (c.n + k))) e (0, 0)) := by
                show (w.heap.push _)[w.heap.size]? = _
                simp
              have hfr : Fr (Own m h) w (w.drew.alloc (.cells (old.toArray ++ new2.toArray ++ Builtin.zeroCells z.cells (nc - (c.n + k))) e)) := (Fr.drew _ w).trans (Fr.alloc (Own m h) _ _) fun _ hq => .inl hq
              have hH : HR B m hk (w.drew.alloc (.cells (old.toArray ++ new2.toArray ++ Builtin.zeroCells z.cells (nc - (c.n + k))) e)) := hkill.keep fun q hq => Below.heap_alloc w.drew _ q hq
              have hoL : old.length = c.n * ti.size := by rw [hold.1, hcsz]
              have hnL : new2.length = k * ti.size := by rw [hnew2.1, hcs]
              have hbr := BR.ofCells' (B := B) (A := ⟨w.heap.size, 0, none⟩) (cap := nc) (by rw [hjo.1]; exact hC) (by rw [hjo.1]; exact hnc) rfl rfl hB hcell (by
                rw [Array.size_append, Array.size_append, zeroCells_size, hzs, hjo.2.1]
                simp only [List.size_toArray, hoL, hnL]
                rw [← Nat.add_mul, ← Nat.add_mul]
                congr 1
                omega) (fun q y hy => by
                  rw [Array.toList_append, Array.toList_append, List.getElem?_append_left (by simpa using (List.getElem?_eq_some_iff.1 hy).1)]
                  simpa using hy)
              refine ⟨_, _, m ++ [⟨some ⟨w.heap.size, 0, none⟩, nc, c'.sz⟩], .inl (hexec (by rw [hse]; exact hrun)), ⟨Ext.app _ _, hH.push (hbr.ext (Ext.app _ _)) ?_, hfr, ?_⟩, ?_⟩
              · intro id b' p' A A' hb' ho' hp' hA hA'
                cases hA'
                obtain ⟨_, _, _, cs0, hc0, _⟩ := ((hkill.blk id b' p' hb' hp').own ho').2 A' hA
                have := (Array.getElem?_eq_some_iff.1 hc0).1
                show A'.block ≠ w.heap.size
                omega
              · intro q hq
                rcases Own.push hH.len hq with hq | ⟨A, hA, rfl⟩
                · exact .inl (hkown q hq)
                · cases hA; exact .inr (Nat.le_refl _)
              · refine ⟨⟨some ⟨w.heap.size, 0, none⟩, nc, c'.sz⟩, _, _, ?_, rfl, ⟨hnc, fun e => nomatch e⟩, fun _ => ⟨rfl, rfl⟩, fun _ => ⟨_, rfl, rfl, by simp⟩⟩
                rw [← H.len]
                simp
            rcases hd with ⟨hse, rfl, hn0⟩ | ⟨id, b, p, hid, hbo, hp, hbr, hse, rfl, hbs, hbn, hbt, hel⟩
            · -- to nil
              have hold : Cells m c 0 c.n [] := by rw [hn0]; exact ⟨by simp, fun q j a hq => absurd hq (Nat.not_lt_zero _), fun q hq => absurd hq (Nat.not_lt_zero _)⟩
              rcases Nat.eq_zero_or_pos k with hk0 | hk0
              · subst hk0
                have hrun := run_append_fit (P := G.P) (ty := o.type) (base := none) (n := 0) (cap := 0) (k := 0) (w' := w) hut hut2 hsrc hi hlen (by rw [hs]; exact hfirst) (by omega) ⟨(fun a h => nomatch h), fun _ => rfl⟩
                refine ⟨_, w, m ++ [⟨none, 0, c'.sz⟩], .inl (hexec (by rw [hse]; exact hrun)), ⟨Ext.app _ _, H.push ?_ (fun _ _ _ _ _ _ _ _ _ h => by cases h), Fr.refl _ _, ?_⟩, ?_⟩
                · have hn : c'.n = 0 := by rw [hjo.1, hn0]
                  exact { sz := rfl, len := fun i hi => by rw [hn] at hi; omega, cap := by rw [hn]; exact Nat.le_refl _, cell := fun i j a hi => by rw [hn] at hi; omega, own := fun _ => And.intro (fun _ => rfl) (fun A h => nomatch h), came := fun e => by cases e }
                · intro q hq
                  rcases Own.push H.len hq with hq | ⟨A, hA, _⟩
                  · exact .inl hq
                  · cases hA
                · rw [hn0]
                  refine ⟨⟨none, 0, c'.sz⟩, none, 0, ?_, rfl, ⟨Nat.le_refl _, fun _ => rfl⟩, fun _ => ⟨rfl, rfl⟩, fun h => by omega⟩
                  rw [← H.len]
                  simp
              · refine grow (old := []) (base := none) (cap := 0) (by rw [hse, hn0]) hold ?_ (by omega)
                simp [Builtin.firstCells]
            · -- to a row
              have hbsz : b.c.sz = c.sz := by rw [hbs, hcsz]
              have hold : ∃ old : List Value, Cells m c 0 c.n old ∧ (∀ A, p.A = some A → A.spot = none ∧ ∀ (q : Nat) y, old[q]? = some y → w.cell? ⟨A.block, A.off + q, none⟩ = some y) := by
                rcases Nat.eq_zero_or_pos c.n with h0 | h0
                · refine ⟨[], by rw [h0]; exact ⟨by simp, fun q j a hq => absurd hq (Nat.not_lt_zero _), fun q hq => absurd hq (Nat.not_lt_zero _)⟩, fun A hA => ⟨((hbr.own hbo).2 A hA).2.1, fun q y hy => by simp at hy⟩⟩
                · obtain ⟨A, cells, hA, hsp, hC, hcell⟩ := hbr.cellsFrom (i := 0) (k := c.n) (by omega) (by omega) h0
                  refine ⟨cells, ⟨by rw [hC.1, hbsz], fun q j a hq ha => ?_, fun q hq => ?_⟩, fun A' hA' => ?_⟩
                  · rw [Nat.zero_add, hel q hq] at ha
                    have := hC.2.1 q j a hq (by rw [Nat.zero_add]; exact ha)
                    rwa [hbsz] at this
                  · have := hC.2.2 q hq
                    rw [Nat.zero_add] at this ⊢
                    rw [hel q hq, this, hbsz]
                  · have : A' = A := by rw [hA] at hA'; cases hA'; rfl
                    subst this
                    exact ⟨hsp, fun q y hy => by have := hcell q y hy; simpa using this⟩
              obtain ⟨old, hold, hocell⟩ := hold
              have hoL : old.length = c.n * ti.size := by rw [hold.1, hcsz]
              rcases Nat.lt_or_ge p.cap (c.n + k) with hgt | hfit
              · -- there is no room
                refine grow (old := old) hse hold ?_ hgt
                cases hpA : p.A with
                | none =>
                  have hc0 : c.n = 0 := by
                    have := (hbr.own hbo).1 hpA
                    have := hbr.cap
                    omega
                  have : old = [] := List.length_eq_zero_iff.1 (by rw [hoL, hc0]; simp)
                  subst this
                  simp [Builtin.firstCells]
                | some A =>
                  simp only [Builtin.firstCells]
                  obtain ⟨hsp, hoc⟩ := hocell A hpA
                  refine run_loadCells' (by rw [hoL]) fun q y hy => ?_
                  rw [add_none hsp]
                  exact hoc q y hy
              · -- in place
                have hC := joinCells hjo hcsz hcs hold hnew
                have hnL : new.length = k * ti.size := by rw [hnew.1, hcs]
                cases hpA : p.A with
                | none =>
                  have hcap0 := (hbr.own hbo).1 hpA
                  have hn0 : c.n = 0 := by omega
                  have hk0 : k = 0 := by omega
                  subst hk0
                  have hrun := run_append_fit (P := G.P) (ty := o.type) (base := none) (n := c.n) (cap := p.cap) (k := 0) (w' := w) hut hut2 hsrc hi hlen (by rw [hs]; exact hfirst) hfit ⟨(fun a h => nomatch h), fun _ => rfl⟩
                  refine ⟨_, w, m ++ [⟨none, 0, c'.sz⟩], .inl (hexec (by rw [hse, hpA]; exact hrun)), ⟨Ext.app _ _, hkill.push ?_ (fun _ _ _ _ _ _ _ _ _ h => by cases h), Fr.refl _ _, ?_⟩, ?_⟩
                  · have hn : c'.n = 0 := by rw [hjo.1, hn0]
                    exact { sz := rfl, len := fun i hi => by rw [hn] at hi; omega, cap := by rw [hn]; exact Nat.le_refl _, cell := fun i j a hi => by rw [hn] at hi; omega, own := fun _ => And.intro (fun _ => rfl) (fun A h => nomatch h), came := fun e => by cases e }
                  · intro q hq
                    rcases Own.push hkill.len hq with hq | ⟨A, hA, _⟩
                    · exact .inl (hkown q hq)
                    · cases hA
                  · refine ⟨⟨none, 0, c'.sz⟩, none, p.cap, ?_, rfl, ⟨by omega, fun _ => hcap0⟩, fun _ => ⟨rfl, hcap0⟩, fun h => by omega⟩
                    rw [← H.len]
                    simp
                | some A =>
                  obtain ⟨hA0, hsp, hAB, cs0, hc0, hcsz0⟩ := (hbr.own hbo).2 A hpA
                  have hps : p.sz = ti.size := by rw [hbr.sz, hbs]
                  have hroom : c.n * ti.size + new.length ≤ cs0.size := by
                    rw [hnL, hcsz0, hps, ← Nat.add_mul]
                    exact Nat.mul_le_mul_right _ hfit
                  have hone : ∀ y ∈ new, oneV y = true := by
                    intro y hy
                    obtain ⟨q, hq⟩ := List.getElem?_of_mem hy
                    have hql : q < k * ti.size := by rw [← hnL]; exact (List.getElem?_eq_some_iff.1 hq).1
                    have hd1 : q / ti.size < k := Nat.div_lt_of_lt_mul (by rw [Nat.mul_comm]; exact hql)
                    have hd2 : q % ti.size < ti.size := Nat.mod_lt _ hpos
                    have hl := hnew.2.2 (q / ti.size) hd1
                    obtain ⟨y', hy', _, h1⟩ := hnew.2.1 (q / ti.size) (q % ti.size) _ hd1 (List.getElem?_eq_getElem (by rw [hl, hcs]; exact hd2))
                    rw [hcs, show q / ti.size * ti.size + q % ti.size = q by rw [Nat.mul_comm]; exact Nat.div_add_mod q ti.size, hq] at hy'
                    cases hy'
                    exact h1
                  obtain ⟨w', cs', hr, hb', hcs', hother, hsize, hos, htape, hout⟩ := storeCells_run G.P A.block (c.n * ti.size) b.t new 0 w cs0 hc0 (by simpa using hroom) hone
                  have hrun := run_append_fit (P := G.P) (ty := o.type) (base := some A) (n := c.n) (cap := p.cap) (k := k) (w' := w') hut hut2 hsrc hi hlen (by rw [hs]; exact hfirst) hfit ⟨fun a h => by
                    cases h
                    rw [add_none hsp, hs, hA0, Nat.zero_add]
                    exact hr, fun h => by cases h⟩
                  have hte' : b.t = e := by rw [hbt]; exact lookT_t hte
                  have hkill' : HR B m (h.set id none) w' := H.killSet hid hp hbo hpA hother
                  have hsz' : cs'.size = cs0.size := by
                    have := congrArg List.length hcs'
                    simp at this
                    omega
                  have hbr' := BR.ofCells' (B := B) (A := A) (cap := p.cap) (t := b.t) (by rw [hjo.1]; exact hC) (by rw [hjo.1]; exact hfit) hA0 hsp hAB hb' (by rw [hsz', hcsz0, hps, hjo.2.1]) (fun q y hy => by
                    rw [hcs', Nat.add_zero, List.append_assoc]
                    have hol : (cs0.toList.take (c.n * ti.size)).length = c.n * ti.size := by simp; omega
                    rcases Nat.lt_or_ge q old.length with hq | hq
                    · rw [List.getElem?_append_left hq] at hy
                      rw [List.getElem?_append_left (by rw [hol, ← hoL]; exact hq), List.getElem?_take, if_pos (by rw [← hoL]; exact hq)]
                      have := (hocell A hpA).2 q y hy
                      simp only [World.cell?, hc0, hA0] at this
                      simpa using this
                    · rw [List.getElem?_append_right hq] at hy
                      rw [List.getElem?_append_right (by rw [hol, ← hoL]; exact hq), hol, ← hoL, List.getElem?_append_left (List.getElem?_eq_some_iff.1 hy).1]
                      exact hy)
                  rw [hte'] at hbr'
                  refine ⟨_, w', m ++ [⟨some A, p.cap, c'.sz⟩], .inl (hexec (by rw [hse, hpA]; exact hrun)), ⟨Ext.app _ _, hkill'.push (hbr'.ext (Ext.app _ _)) ?_, ⟨hos, htape, hout, by omega, fun q hq hX => hother q fun e => hX ⟨id, b, p, A, hid, hbo, hp, hpA, e.symm⟩⟩, ?_⟩, ?_⟩
                  · intro id' b' p' A1 A2 hb1 ho1 hp1 hA1 hA2
                    cases hA2
                    obtain ⟨hne, hb1⟩ := kill_some hb1
                    exact H.apart id' id b' b p' p A2 A hne hb1 hid ho1 hbo hp1 hp hA1 hpA
                  · intro q hq
                    rcases Own.push hkill'.len hq with hq | ⟨A', hA', rfl⟩
                    · exact .inl (hkown q hq)
                    · cases hA'
                      exact .inl ⟨id, b, p, A, hid, hbo, hp, hpA, rfl⟩
                  · refine ⟨⟨some A, p.cap, c'.sz⟩, _, _, ?_, rfl, ⟨hfit, fun e => nomatch e⟩, fun _ => ⟨rfl, rfl⟩, fun _ => ⟨A, rfl, hsp, addr_eta hsp _⟩⟩
                    rw [← H.len]
                    simp
          · cases he
        · cases he
      · cases he
    · cases he
  · cases he
end
end Go.Proofs.Ytcpahifgdppkbaa.QAI
