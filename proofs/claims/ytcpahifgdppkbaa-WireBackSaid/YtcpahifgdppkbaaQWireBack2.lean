/- append, the operation. -/
import Derived.Test.YtcpahifgdppkbaaQWireBack1
import Derived.Tactics
set_option linter.unusedVariables false
set_option linter.unusedSimpArgs false
set_option maxRecDepth 100000
namespace Go.Proofs.Ytcpahifgdppkbaa.QAI
section
open Go Go.RowKit

section
variable {G : Ctx2} {o : Oper} {ρ : Operand → AV} {ρ' : Operand → Value} {h h' : AHeap} {w w' : World} {B : Nat} {m : List Pl} {v : AV}

theorem addr_eta {A : Addr} (h : A.spot = none) (s : Nat) : some A = some ⟨A.block, A.off + 0 * s, none⟩ := by
  cases A; simp at h; simp [h]

theorem lookT_t {T : List TI} {t : TypeId} {ti : TI} (h : lookT T t = some ti) : ti.t = t := by
  unfold lookT at h
  have := List.find?_some h
  simpa using this

theorem kill_some {id i : Nat} {c : ABlk} (hc : (h.set id none)[i]? = some (some c)) : i ≠ id ∧ h[i]? = some (some c) := by
  by_cases e : i = id
  · subst e
    rcases Nat.lt_or_ge i h.length with hl | hl
    · rw [List.getElem?_set_self hl] at hc; cases hc
    · rw [List.getElem?_eq_none (by simpa using hl)] at hc; cases hc
  · rw [List.getElem?_set_ne (fun e' => e e'.symm)] at hc
    exact ⟨e, hc⟩

theorem HR.kill (H : HR B m h w) (id : Nat) : HR B m (h.set id none) w :=
  { len := by simp [H.len], blk := fun i c q hc hq => H.blk i c q (kill_some hc).2 hq,
    apart := fun i i' c c' q q' A1 A2 hne hc hc' => H.apart i i' c c' q q' A1 A2 hne (kill_some hc).2 (kill_some hc').2 }

theorem HR.killSet (H : HR B m h w) {id : Nat} {b : ABlk} {p : Pl} {A : Addr} (hid : h[id]? = some (some b)) (hp : m[id]? = some p) (ho : b.own = true) (hA : p.A = some A)
    (hw : ∀ k, k ≠ A.block → w'.heap[k]? = w.heap[k]?) : HR B m (h.set id none) w' := by
  have hAB : B ≤ A.block := (((H.blk id b p hid hp).own ho).2 A hA).2.2.1
  refine { len := by simp [H.len], blk := ?_, apart := (H.kill id).apart }
  intro i c q hc hq
  obtain ⟨hne, hc⟩ := kill_some hc
  refine (H.blk i c q hc hq).keep fun A' hA' hlt' hor => hw _ ?_
  by_cases hco : c.own = true
  · exact H.apart i id c b q p A' A hne hc hid hco ho hq hp hA' hA
  · have hcf : c.own = false := by simpa using hco
    have hn : 0 < c.c.n := by rcases hor with h0 | h0; exact h0; exact absurd h0 hco
    have := (H.blk i c q hc hq).came hcf A' hA' hn
    omega

theorem Own.kill {id k : Nat} (hk : Own m (h.set id none) k) : Own m h k := by
  obtain ⟨i, c, q, A, hc, hoc, hq, hA, rfl⟩ := hk
  exact ⟨i, c, q, A, (kill_some hc).2, hoc, hq, hA, rfl⟩

theorem HR.push (H : HR B m h w) {b : ABlk} {p : Pl} (hbr : BR B (m ++ [p]) b p w) (hap : ∀ (id : Nat) b' p' A A', h[id]? = some (some b') → b'.own = true → m[id]? = some p' → p'.A = some A' → p.A = some A → A'.block ≠ A.block) :
    HR B (m ++ [p]) (h ++ [some b]) w := by
  have inOld : ∀ {id : Nat} {c : ABlk} {q : Pl}, h[id]? = some (some c) → (m ++ [p])[id]? = some q → m[id]? = some q := by
    intro id c q hc hq
    have hlt : id < m.length := by rw [H.len]; exact (List.getElem?_eq_some_iff.1 hc).1
    rwa [List.getElem?_append_left hlt] at hq
  have inNew : ∀ {id : Nat} {q : Pl}, id = h.length → (m ++ [p])[id]? = some q → q = p := by
    intro id q hid hq
    rw [hid, ← H.len] at hq
    simp at hq
    exact hq.symm
  refine { len := by simp [H.len], blk := ?_, apart := ?_ }
  · intro id c q hc hq
    rcases getElem?_snoc hc with hc | ⟨hid, hce⟩
    · exact (H.blk id c q hc (inOld hc hq)).ext (Ext.app _ _)
    · cases hce
      have := inNew hid hq
      subst this
      exact hbr
  · intro id id' c c' q q' A A' hne hc hc' hoc hoc' hq hq' hA hA'
    rcases getElem?_snoc hc with hc | ⟨hid, hce⟩ <;> rcases getElem?_snoc hc' with hc' | ⟨hid', hce'⟩
    · exact H.apart id id' c c' q q' A A' hne hc hc' hoc hoc' (inOld hc hq) (inOld hc' hq') hA hA'
    · have := inNew hid' hq'
      subst this
      exact hap id c q A' A hc hoc (inOld hc hq) hA hA'
    · have := inNew hid hq
      subst this
      exact fun e => hap id' c' q' A A' hc' hoc' (inOld hc' hq') hA' hA e.symm
    · omega

theorem Own.push {b : ABlk} {p : Pl} {k : Nat} (H : m.length = h.length) (hk : Own (m ++ [p]) (h ++ [some b]) k) : Own m h k ∨ (∃ A, p.A = some A ∧ A.block = k) := by
  obtain ⟨id, c, q, A, hc, hoc, hq, hA, rfl⟩ := hk
  rcases getElem?_snoc hc with hc | ⟨hid, _⟩
  · left
    have hlt : id < m.length := by rw [H]; exact (List.getElem?_eq_some_iff.1 hc).1
    rw [List.getElem?_append_left hlt] at hq
    exact ⟨id, c, q, A, hc, hoc, hq, hA, rfl⟩
  · right
    rw [hid, ← H] at hq
    simp at hq
    subst hq
    exact ⟨A, hA, rfl⟩

/-- An appended row's cells, one behind the other. -/
theorem joinCells {c cs c' : Cont} {i k s : Nat} {old new : List Value} (hc : c'.n = c.n + k ∧ c'.sz = s ∧ ∀ q, q < c.n + k → c'.el q = if q < c.n then c.el q else cs.el (i + (q - c.n))) (hcs : c.sz = s) (hss : cs.sz = s)
    (hold : Cells m c 0 c.n old) (hnew : Cells m cs i k new) : Cells m c' 0 (c.n + k) (old ++ new) := by
  obtain ⟨h1, h2, h3⟩ := hc
  refine ⟨by rw [List.length_append, hold.1, hnew.1, hcs, hss, h2, Nat.add_mul], ?_, ?_⟩
  rotate_left
  · intro q hq
    rw [Nat.zero_add, h3 q hq, h2]
    split
    · rename_i hlt
      have := hold.2.2 q hlt
      rw [Nat.zero_add] at this
      rw [this, hcs]
    · rw [hnew.2.2 (q - c.n) (by omega), hss]
  intro q j a hq ha
  rw [Nat.zero_add, h3 q hq] at ha
  rw [h2]
  split at ha
  · rename_i hlt
    obtain ⟨y, hy, hr⟩ := hold.2.1 q j a hlt (by rw [Nat.zero_add]; exact ha)
    rw [hcs] at hy
    exact ⟨y, by rw [List.getElem?_append_left (List.getElem?_eq_some_iff.1 hy).1]; exact hy, hr⟩
  · rename_i hge
    obtain ⟨y, hy, hr⟩ := hnew.2.1 (q - c.n) j a (by omega) ha
    rw [hss] at hy
    refine ⟨y, ?_, hr⟩
    have hlen : old.length = c.n * s := by rw [hold.1, hcs]
    have hqs : (q - c.n) * s + c.n * s = q * s := by rw [← Nat.add_mul]; congr 1; omega
    rw [List.getElem?_append_right (by rw [hlen]; omega), hlen, show q * s + j - c.n * s = (q - c.n) * s + j by omega]
    exact hy

theorem zeroCells_size (z : Array Value) (n : Nat) : (Builtin.zeroCells z n).size = n * z.size := by simp [Builtin.zeroCells]

theorem isSrcD_cases {u : TypeDesc} (h : isSrcD u = true) : (∃ e, u = .slice e) ∨ u = .string := by
  cases u <;> simp_all [isSrcD]

theorem run_append_fit {P : Program} {t t2 ty : TypeId} {e : TypeId} {u2 : TypeDesc} {x : Value} {base : Option Addr} {n cap k : Nat} {inf : TypeInfo} {new : List Value} (hu : P.underlying t = some (.slice e)) (hu2 : P.underlying t2 = some u2) (hni : isSrcD u2 = true)
    (hi : P.info? e = some inf) (hl : (Builtin.lenOf x).run P w = .ok k w) (hf : (Builtin.firstCells inf.size k x).run P w = .ok new.toArray w) (hle : n + k ≤ cap)
    (hst : (∀ a, base = some a → (storeCells (a.add (n * inf.size)) new 0).run P w = .ok () w') ∧ (base = none → w' = w)) :
    (Builtin.append_ #[t, t2] ty #[.slice base n cap, x]).run P w = .ok (.slice base (n + k) cap) w' := by
  rcases isSrcD_cases hni with ⟨e2, rfl⟩ | rfl
  all_goals
    simp only [Builtin.append_, List.getElem?_toArray, List.getElem?_cons_zero, List.getElem?_cons_succ, Sem.run_bind, run_underlying' hu, run_underlying' hu2, Result.andThen_ok, run_sizeOf' hi, Sem.run_pure, Bool.false_eq_true, if_false, hl, hle, if_true, Bool.not_false, hf]
    cases base with
    | none =>
      have := hst.2 rfl
      subst this
      simp
    | some a =>
      have := hst.1 a rfl
      simp [this]

theorem run_append_grow {P : Program} {t t2 ty : TypeId} {e : TypeId} {u2 : TypeDesc} {x : Value} {base : Option Addr} {n cap k : Nat} {inf : TypeInfo} {z : Value} {old new : List Value} (hu : P.underlying t = some (.slice e)) (hu2 : P.underlying t2 = some u2) (hni : isSrcD u2 = true)
    (hi : P.info? e = some inf) (hz : inf.zero = some z) (hl : (Builtin.lenOf x).run P w = .ok k w) (hfo : (Builtin.firstCells inf.size n (.slice base n cap)).run P w.drew = .ok old.toArray w.drew) (hf : (Builtin.firstCells inf.size k x).run P w.drew = .ok new.toArray w.drew) (hgt : cap < n + k)
    (hb : 0 < inf.bytes) (hsm : (n + k) * inf.bytes ≤ maxCells) :
    ∃ nc, n + k ≤ nc ∧ (Builtin.append_ #[t, t2] ty #[.slice base n cap, x]).run P w = .ok (.slice (some ⟨w.heap.size, 0, none⟩) (n + k) nc) (w.drew.alloc (.cells (old.toArray ++ new.toArray ++ Builtin.zeroCells z.cells (nc - (n + k))) e)) := by
  have hnc : ∃ nc, n + k ≤ nc ∧ (choose (.appendCap (n + k) cap e)).run P w = .ok nc w.drew := by
    refine ⟨_, ?_, rfl⟩
    simp only [Question.cut]
    omega
  obtain ⟨nc, hnc1, hnc2⟩ := hnc
  refine ⟨nc, hnc1, ?_⟩
  have hmc : (n + k) * inf.bytes ≤ 140737488355328 := hsm
  have hnext : ¬ Builtin.nextslicecap (n + k) cap * inf.bytes > 2 ^ 48 := by
    have h1 := nextcap_le hgt
    have h2 : Builtin.nextslicecap (n + k) cap * inf.bytes ≤ 2 * (n + k) * inf.bytes := Nat.mul_le_mul_right _ h1
    rw [Nat.mul_assoc] at h2
    omega
  have hbig : ¬ (((n + k : Nat) : Int) > IntKind.i64.max ∧ (False ∨ inf.bytes = 0)) := by
    rintro ⟨_, h⟩
    rcases h with h | h
    · exact h
    · omega
  have hask : (askRoom (nc * inf.bytes)).run P w.drew = .ok () w.drew := by
    unfold askRoom
    split <;> rfl
  have hzero : (zeroValue e).run P w.drew = .ok z w.drew := run_zero' hi hz
  rcases isSrcD_cases hni with ⟨e2, rfl⟩ | rfl
  all_goals
    simp only [Builtin.append_, List.getElem?_toArray, List.getElem?_cons_zero, List.getElem?_cons_succ, Sem.run_bind, run_underlying' hu, run_underlying' hu2, Result.andThen_ok, run_sizeOf' hi, Sem.run_pure, Bool.false_eq_true, if_false, hl, Nat.not_le.2 hgt, Bool.not_false, if_true, run_typeInfo' hi]
    rw [if_neg (by simpa using hbig)]
    simp only [Sem.run_bind, run_typeInfo' hi, Result.andThen_ok]
    rw [if_neg hnext]
    simp only [Sem.run_pure, Result.andThen_ok, Sem.run_bind, run_typeInfo' hi, hnc2, hask, hfo, hf, hzero, run_newRow]
    rfl

/-- A row known by its cells. -/
theorem BR.ofCells' {c : Cont} {list : List Value} {cs : Array Value} {t : TypeId} {A : Addr} {cap : Nat} (hC : Cells m c 0 c.n list) (hcap : c.n ≤ cap) (hA0 : A.off = 0) (hsp : A.spot = none) (hB : B ≤ A.block)
    (hw : w.heap[A.block]? = some (.cells cs t (0, 0))) (hsz : cs.size = cap * c.sz) (hpre : ∀ (k : Nat) y, list[k]? = some y → cs.toList[k]? = some y) : BR B m ⟨t, true, c⟩ ⟨some A, cap, c.sz⟩ w := by
  refine { sz := rfl, len := fun i hi => by simpa using hC.2.2 i hi, cap := hcap, cell := ?_, own := ?_, came := fun e => by cases e }
  · intro i j a hi ha
    obtain ⟨y, hy, hr, h1⟩ := hC.2.1 i j a hi (by simpa using ha)
    refine ⟨A, y, rfl, hsp, ?_, hr, h1⟩
    simp only [World.cell?, hw, hA0]
    have := hpre _ _ hy
    simpa using this
  · intro _
    refine And.intro (fun e => nomatch e) ?_
    intro A' hA'
    cases hA'
    exact ⟨hA0, hsp, hB, cs, hw, hsz⟩

theorem Cells.ext {m' : List Pl} (he : Ext m m') {c : Cont} {i k : Nat} {list : List Value} (h : Cells m c i k list) : Cells m' c i k list :=
  ⟨h.1, fun q j a hq ha => let ⟨y, hy, hr, h1⟩ := h.2.1 q j a hq ha; ⟨y, hy, hr.ext he, h1⟩, h.2.2⟩

theorem h_append (hG : GOk G.toCtx) (hρ : OpsOk m ρ ρ') (H : HR B m h w) (hB : B ≤ w.heap.size) {args : Array Operand} {ts : Array TypeId} (ho : o.op = .call ⟨.builtin .append, args, ts⟩) {s x : Operand} {t t2 : TypeId} (ha : args.toList = [s, x]) (hts : ts.toList = [t, t2])
    (he : (aappend G.T h t t2 (ρ s) (ρ x)).eval = some (v, h')) : HOk G.P B m h w ρ' o v h' := by
  have hargs : args = #[s, x] := by apply Array.ext'; simpa using ha
  have htss : ts = #[t, t2] := by apply Array.ext'; simpa using hts
  subst hargs; subst htss
  unfold aappend at he
  split at he
  · rename_i e _ _ _ _ _ _ ti2 ht ht2
    split at he
    · rename_i ti hsrc hte
      split at he
      · rename_i hk c nn i k cs hdst hsr
        split at he
        · rename_i hcs
          split at he
          · rename_i c' hj
            obtain ⟨h0, he⟩ := Tr.eval_need.1 he
            have hnn : c.n = nn := by simpa using h0
            obtain ⟨h1, h2, hv⟩ := need2 he
            simp only [Tr.eval, Option.some.injEq, Prod.mk.injEq] at hv
            obtain ⟨rfl, rfl⟩ := hv
            have hle : i + k ≤ cs.n := by simpa using h1
            have hsm : (c.n + k) * ti.bytes ≤ maxCells := by simpa using h2
            obtain ⟨inf, z, hi, hs, hby, hz, hzc⟩ := hG.c.t.i _ _ hte
            have hpos := (hG.c.one _ _ hte).1
            have hbp := hG.c.bytes _ _ hte
            have hut := hG.c.t.u _ _ ht
            have hut2 := hG.c.t.u _ _ ht2
            obtain ⟨new, hnew, hlen, hfirst⟩ := src_ok G.P H hpos (hρ x) hsr hcs hle
            have hdr : HR B m h w.drew := H.keep fun k _ => rfl
            obtain ⟨new2, hnew2, hlen2, hfirst2⟩ := src_ok G.P hdr hpos (hρ x) hsr hcs hle
            obtain ⟨hcsz, hd⟩ := dst_ok H (hρ s) hdst hnn
            have hjo := joinC_ok hj hle
            -- the old cells
            have hexec : ∀ {y : Value} {w'' : World}, (Builtin.append_ #[t, t2] o.type #[ρ' s, ρ' x]).run G.P w = .ok y w'' → (execOp ρ' o).run G.P w = .ok (.value y) w'' := by
              intro y w'' hr
              simp only [execOp, ho, resolve, invoke, builtin, Sem.run_bind, Sem.run_pure, Result.andThen_ok, List.map_toArray, List.map_cons, List.map_nil]
              rw [hr]
              rfl
            have hkill : HR B m hk w := by
              rcases hd with ⟨_, rfl, _⟩ | ⟨id, b, p, _, _, _, _, _, rfl, _⟩
              · exact H
              · exact H.kill id
            have hkown : ∀ q, Own m hk q → Own m h q := by
              rcases hd with ⟨_, rfl, _⟩ | ⟨id, b, p, _, _, _, _, _, rfl, _⟩
              · exact fun _ hq => hq
              · exact fun _ hq => Own.kill hq
            have hkl : hk.length = h.length := by rw [← H.len, ← hkill.len]
            -- a new block
            have grow : ∀ {old : List Value} {base : Option Addr} {cap : Nat}, ρ' s = .slice base c.n cap → Cells m c 0 c.n old → (Builtin.firstCells ti.size c.n (.slice base c.n cap)).run G.P w.drew = .ok old.toArray w.drew → cap < c.n + k →
                HOk G.P B m h w ρ' o (.c (.sl h.length 0 (c.n + k))) (hk ++ [some ⟨e, true, c'⟩]) := by
              intro old base cap hse hold hfo hgt
              obtain ⟨nc, hnc, hrun⟩ := run_append_grow (ty := o.type) (k := k) hut hut2 hsrc hi hz hlen (by rw [hs]; exact hfo) (by rw [hs]; exact hfirst2) hgt (by rw [hby]; exact hbp) (by rw [hby]; exact hsm)
              have hC := joinCells hjo hcsz hcs hold hnew2
              have hzs : z.cells.size = ti.size := by
                have := hG.c.t.zlen _ _ hte
                rw [← hzc] at this
                simpa using this
              have hcell : (w.drew.alloc (.cells (old.toArray ++ new2.toArray ++ Builtin.zeroCells z.cells (nc - (c.n + k))) e)).heap[w.heap.size]? = some (.cells (old.toArray ++ new2.toArray ++ Builtin.zeroCells z.cells (nc - (c.n + k))) e (0, 0)) := by
                show (w.heap.push _)[w.heap.size]? = _
                simp
              have hfr : Fr (Own m h) w (w.drew.alloc (.cells (old.toArray ++ new2.toArray ++ Builtin.zeroCells z.cells (nc - (c.n + k))) e)) := (Fr.drew _ w).trans (Fr.alloc (Own m h) _ _) fun _ hq => .inl hq
              have hH : HR B m hk (w.drew.alloc (.cells (old.toArray ++ new2.toArray ++ Builtin.zeroCells z.cells (nc - (c.n + k))) e)) := hkill.keep fun q hq => Below.heap_alloc w.drew _ q hq
              have hoL : old.length = c.n * ti.size := by rw [hold.1, hcsz]
              have hnL : new2.length = k * ti.size := by rw [hnew2.1, hcs]
              have hbr := BR.ofCells' (B := B) (A := ⟨w.heap.size, 0, none⟩) (cap := nc) (by rw [hjo.1]; exact hC) (by rw [hjo.1]; exact hnc) rfl rfl hB hcell (by
                rw [Array.size_append, Array.size_append, zeroCells_size, hzs, hjo.2.1]
                simp only [List.size_toArray, hoL, hnL]
                rw [← Nat.add_mul, ← Nat.add_mul]
                congr 1
                omega) (fun q y hy => by
                  rw [Array.toList_append, Array.toList_append, List.getElem?_append_left (by simpa using (List.getElem?_eq_some_iff.1 hy).1)]
                  simpa using hy)
              refine ⟨_, _, m ++ [⟨some ⟨w.heap.size, 0, none⟩, nc, c'.sz⟩], .inl (hexec (by rw [hse]; exact hrun)), ⟨Ext.app _ _, hH.push (hbr.ext (Ext.app _ _)) ?_, hfr, ?_⟩, ?_⟩
              · intro id b' p' A A' hb' ho' hp' hA hA'
                cases hA'
                obtain ⟨_, _, _, cs0, hc0, _⟩ := ((hkill.blk id b' p' hb' hp').own ho').2 A' hA
                have := (Array.getElem?_eq_some_iff.1 hc0).1
                show A'.block ≠ w.heap.size
                omega
              · intro q hq
                rcases Own.push hH.len hq with hq | ⟨A, hA, rfl⟩
                · exact .inl (hkown q hq)
                · cases hA; exact .inr (Nat.le_refl _)
              · refine ⟨⟨some ⟨w.heap.size, 0, none⟩, nc, c'.sz⟩, _, _, ?_, rfl, ⟨hnc, fun e => nomatch e⟩, fun _ => ⟨rfl, rfl⟩, fun _ => ⟨_, rfl, rfl, by simp⟩⟩
                rw [← H.len]
                simp
            rcases hd with ⟨hse, rfl, hn0⟩ | ⟨id, b, p, hid, hbo, hp, hbr, hse, rfl, hbs, hbn, hbt, hel⟩
            · -- to nil
              have hold : Cells m c 0 c.n [] := by rw [hn0]; exact ⟨by simp, fun q j a hq => absurd hq (Nat.not_lt_zero _), fun q hq => absurd hq (Nat.not_lt_zero _)⟩
              rcases Nat.eq_zero_or_pos k with hk0 | hk0
              · subst hk0
                have hrun := run_append_fit (P := G.P) (ty := o.type) (base := none) (n := 0) (cap := 0) (k := 0) (w' := w) hut hut2 hsrc hi hlen (by rw [hs]; exact hfirst) (by omega) ⟨(fun a h => nomatch h), fun _ => rfl⟩
                refine ⟨_, w, m ++ [⟨none, 0, c'.sz⟩], .inl (hexec (by rw [hse]; exact hrun)), ⟨Ext.app _ _, H.push ?_ (fun _ _ _ _ _ _ _ _ _ h => by cases h), Fr.refl _ _, ?_⟩, ?_⟩
                · have hn : c'.n = 0 := by rw [hjo.1, hn0]
                  exact { sz := rfl, len := fun i hi => by rw [hn] at hi; omega, cap := by rw [hn]; exact Nat.le_refl _, cell := fun i j a hi => by rw [hn] at hi; omega, own := fun _ => And.intro (fun _ => rfl) (fun A h => nomatch h), came := fun e => by cases e }
                · intro q hq
                  rcases Own.push H.len hq with hq | ⟨A, hA, _⟩
                  · exact .inl hq
                  · cases hA
                · rw [hn0]
                  refine ⟨⟨none, 0, c'.sz⟩, none, 0, ?_, rfl, ⟨Nat.le_refl _, fun _ => rfl⟩, fun _ => ⟨rfl, rfl⟩, fun h => by omega⟩
                  rw [← H.len]
                  simp
              · refine grow (old := []) (base := none) (cap := 0) (by rw [hse, hn0]) hold ?_ (by omega)
                simp [Builtin.firstCells]
            · -- to a row
              have hbsz : b.c.sz = c.sz := by rw [hbs, hcsz]
              have hold : ∃ old : List Value, Cells m c 0 c.n old ∧ (∀ A, p.A = some A → A.spot = none ∧ ∀ (q : Nat) y, old[q]? = some y → w.cell? ⟨A.block, A.off + q, none⟩ = some y) := by
                rcases Nat.eq_zero_or_pos c.n with h0 | h0
                · refine ⟨[], by rw [h0]; exact ⟨by simp, fun q j a hq => absurd hq (Nat.not_lt_zero _), fun q hq => absurd hq (Nat.not_lt_zero _)⟩, fun A hA => ⟨((hbr.own hbo).2 A hA).2.1, fun q y hy => by simp at hy⟩⟩
                · obtain ⟨A, cells, hA, hsp, hC, hcell⟩ := hbr.cellsFrom (i := 0) (k := c.n) (by omega) (by omega) h0
                  refine ⟨cells, ⟨by rw [hC.1, hbsz], fun q j a hq ha => ?_, fun q hq => ?_⟩, fun A' hA' => ?_⟩
                  · rw [Nat.zero_add, hel q hq] at ha
                    have := hC.2.1 q j a hq (by rw [Nat.zero_add]; exact ha)
                    rwa [hbsz] at this
                  · have := hC.2.2 q hq
                    rw [Nat.zero_add] at this ⊢
                    rw [hel q hq, this, hbsz]
                  · have : A' = A := by rw [hA] at hA'; cases hA'; rfl
                    subst this
                    exact ⟨hsp, fun q y hy => by have := hcell q y hy; simpa using this⟩
              obtain ⟨old, hold, hocell⟩ := hold
              have hoL : old.length = c.n * ti.size := by rw [hold.1, hcsz]
              rcases Nat.lt_or_ge p.cap (c.n + k) with hgt | hfit
              · -- there is no room
                refine grow (old := old) hse hold ?_ hgt
                cases hpA : p.A with
                | none =>
                  have hc0 : c.n = 0 := by
                    have := (hbr.own hbo).1 hpA
                    have := hbr.cap
                    omega
                  have : old = [] := List.length_eq_zero_iff.1 (by rw [hoL, hc0]; simp)
                  subst this
                  simp [Builtin.firstCells]
                | some A =>
                  simp only [Builtin.firstCells]
                  obtain ⟨hsp, hoc⟩ := hocell A hpA
                  refine run_loadCells' (by rw [hoL]) fun q y hy => ?_
                  rw [add_none hsp]
                  exact hoc q y hy
              · -- in place
                have hC := joinCells hjo hcsz hcs hold hnew
                have hnL : new.length = k * ti.size := by rw [hnew.1, hcs]
                cases hpA : p.A with
                | none =>
                  have hcap0 := (hbr.own hbo).1 hpA
                  have hn0 : c.n = 0 := by omega
                  have hk0 : k = 0 := by omega
                  subst hk0
                  have hrun := run_append_fit (P := G.P) (ty := o.type) (base := none) (n := c.n) (cap := p.cap) (k := 0) (w' := w) hut hut2 hsrc hi hlen (by rw [hs]; exact hfirst) hfit ⟨(fun a h => nomatch h), fun _ => rfl⟩
                  refine ⟨_, w, m ++ [⟨none, 0, c'.sz⟩], .inl (hexec (by rw [hse, hpA]; exact hrun)), ⟨Ext.app _ _, hkill.push ?_ (fun _ _ _ _ _ _ _ _ _ h => by cases h), Fr.refl _ _, ?_⟩, ?_⟩
                  · have hn : c'.n = 0 := by rw [hjo.1, hn0]
                    exact { sz := rfl, len := fun i hi => by rw [hn] at hi; omega, cap := by rw [hn]; exact Nat.le_refl _, cell := fun i j a hi => by rw [hn] at hi; omega, own := fun _ => And.intro (fun _ => rfl) (fun A h => nomatch h), came := fun e => by cases e }
                  · intro q hq
                    rcases Own.push hkill.len hq with hq | ⟨A, hA, _⟩
                    · exact .inl (hkown q hq)
                    · cases hA
                  · refine ⟨⟨none, 0, c'.sz⟩, none, p.cap, ?_, rfl, ⟨by omega, fun _ => hcap0⟩, fun _ => ⟨rfl, hcap0⟩, fun h => by omega⟩
                    rw [← H.len]
                    simp
                | some A =>
                  obtain ⟨hA0, hsp, hAB, cs0, hc0, hcsz0⟩ := (hbr.own hbo).2 A hpA
                  have hps : p.sz = ti.size := by rw [hbr.sz, hbs]
                  have hroom : c.n * ti.size + new.length ≤ cs0.size := by
                    rw [hnL, hcsz0, hps, ← Nat.add_mul]
                    exact Nat.mul_le_mul_right _ hfit
                  have hone : ∀ y ∈ new, oneV y = true := by
                    intro y hy
                    obtain ⟨q, hq⟩ := List.getElem?_of_mem hy
                    have hql : q < k * ti.size := by rw [← hnL]; exact (List.getElem?_eq_some_iff.1 hq).1
                    have hd1 : q / ti.size < k := Nat.div_lt_of_lt_mul (by rw [Nat.mul_comm]; exact hql)
                    have hd2 : q % ti.size < ti.size := Nat.mod_lt _ hpos
                    have hl := hnew.2.2 (q / ti.size) hd1
                    obtain ⟨y', hy', _, h1⟩ := hnew.2.1 (q / ti.size) (q % ti.size) _ hd1 (List.getElem?_eq_getElem (by rw [hl, hcs]; exact hd2))
                    rw [hcs, show q / ti.size * ti.size + q % ti.size = q by rw [Nat.mul_comm]; exact Nat.div_add_mod q ti.size, hq] at hy'
                    cases hy'
                    exact h1
                  obtain ⟨w', cs', hr, hb', hcs', hother, hsize, hos, htape, hout⟩ := storeCells_run G.P A.block (c.n * ti.size) b.t new 0 w cs0 hc0 (by simpa using hroom) hone
                  have hrun := run_append_fit (P := G.P) (ty := o.type) (base := some A) (n := c.n) (cap := p.cap) (k := k) (w' := w') hut hut2 hsrc hi hlen (by rw [hs]; exact hfirst) hfit ⟨fun a h => by
                    cases h
                    rw [add_none hsp, hs, hA0, Nat.zero_add]
                    exact hr, fun h => by cases h⟩
                  have hte' : b.t = e := by rw [hbt]; exact lookT_t hte
                  have hkill' : HR B m (h.set id none) w' := H.killSet hid hp hbo hpA hother
                  have hsz' : cs'.size = cs0.size := by
                    have := congrArg List.length hcs'
                    simp at this
                    omega
                  have hbr' := BR.ofCells' (B := B) (A := A) (cap := p.cap) (t := b.t) (by rw [hjo.1]; exact hC) (by rw [hjo.1]; exact hfit) hA0 hsp hAB hb' (by rw [hsz', hcsz0, hps, hjo.2.1]) (fun q y hy => by
                    rw [hcs', Nat.add_zero, List.append_assoc]
                    have hol : (cs0.toList.take (c.n * ti.size)).length = c.n * ti.size := by simp; omega
                    rcases Nat.lt_or_ge q old.length with hq | hq
                    · rw [List.getElem?_append_left hq] at hy
                      rw [List.getElem?_append_left (by rw [hol, ← hoL]; exact hq), List.getElem?_take, if_pos (by rw [← hoL]; exact hq)]
                      have := (hocell A hpA).2 q y hy
                      simp only [World.cell?, hc0, hA0] at this
                      simpa using this
                    · rw [List.getElem?_append_right hq] at hy
                      rw [List.getElem?_append_right (by rw [hol, ← hoL]; exact hq), hol, ← hoL, List.getElem?_append_left (List.getElem?_eq_some_iff.1 hy).1]
                      exact hy)
                  rw [hte'] at hbr'
                  refine ⟨_, w', m ++ [⟨some A, p.cap, c'.sz⟩], .inl (hexec (by rw [hse, hpA]; exact hrun)), ⟨Ext.app _ _, hkill'.push (hbr'.ext (Ext.app _ _)) ?_, ⟨hos, htape, hout, by omega, fun q hq hX => hother q fun e => hX ⟨id, b, p, A, hid, hbo, hp, hpA, e.symm⟩⟩, ?_⟩, ?_⟩
                  · intro id' b' p' A1 A2 hb1 ho1 hp1 hA1 hA2
                    cases hA2
                    obtain ⟨hne, hb1⟩ := kill_some hb1
                    exact H.apart id' id b' b p' p A2 A hne hb1 hid ho1 hbo hp1 hp hA1 hpA
                  · intro q hq
                    rcases Own.push hkill'.len hq with hq | ⟨A', hA', rfl⟩
                    · exact .inl (hkown q hq)
                    · cases hA'
                      exact .inl ⟨id, b, p, A, hid, hbo, hp, hpA, rfl⟩
                  · refine ⟨⟨some A, p.cap, c'.sz⟩, _, _, ?_, rfl, ⟨hfit, fun e => nomatch e⟩, fun _ => ⟨rfl, rfl⟩, fun _ => ⟨A, rfl, hsp, addr_eta hsp _⟩⟩
                    rw [← H.len]
                    simp
          · cases he
        · cases he
      · cases he
    · cases he
  · cases he
end
end
section
open Go Go.RowKit

/-- Under g what was told by m is told by m'. -/
def RenOk (g : Nat → Option Nat) (m m' : List Pl) : Prop := ∀ (id k : Nat), g id = some k → ∀ p, m[id]? = some p → m'[k]? = some p

section
variable {g : Nat → Option Nat} {m m' : List Pl} {h : AHeap} {w : World} {B : Nat}

theorem CR.ren (hg : RenOk g m m') {c : AC} {y : Value} (h : CR m c y) : CR m' (renAC g c) y := by
  cases c with
  | any => trivial
  | v x => exact h
  | ptr id i j =>
    obtain ⟨p, A, hp, rest⟩ := h
    simp only [renAC]
    cases e : g id with
    | none => trivial
    | some k => exact ⟨p, A, hg id k e p hp, rest⟩
  | sl id i n =>
    obtain ⟨p, A', c', hp, rest⟩ := h
    simp only [renAC]
    cases e : g id with
    | none => trivial
    | some k => exact ⟨p, A', c', hg id k e p hp, rest⟩

mutual
theorem VR.ren (hg : RenOk g m m') : ∀ {v : AV} {y : Value}, VR m v y → VR m' (renAV g v) y
  | .c x, y, h => by simp only [VR, renAV] at h ⊢; exact h.ren hg
  | .agg l, y, h => by simp only [VR, renAV] at h ⊢; obtain ⟨cs, e, hF⟩ := h; exact ⟨cs, e, by simpa using hF.map (renAC g) id fun a b hr => hr.ren hg⟩
  | .arr n f, y, h => by simp only [VR, renAV] at h ⊢; exact h
  | .tup l, y, h => by simp only [VR, renAV] at h ⊢; obtain ⟨vs, e, hF⟩ := h; exact ⟨vs, e, VRs.ren hg hF⟩
theorem VRs.ren (hg : RenOk g m m') : ∀ {l : List AV} {k : List Value}, VRs m l k → VRs m' (renAVs g l) k
  | [], [], _ => by simp [VRs, renAVs]
  | [], _ :: _, h => by simp [VRs] at h
  | _ :: _, [], h => by simp [VRs] at h
  | x :: l, y :: k, h => by simp only [VRs, renAVs] at h ⊢; exact ⟨VR.ren hg h.1, VRs.ren hg h.2⟩
end

theorem renC_n (g : Nat → Option Nat) (c : Cont) : (renC g c).n = c.n := by cases c <;> simp [renC, Cont.n]
theorem renC_sz (g : Nat → Option Nat) (c : Cont) : (renC g c).sz = c.sz := by cases c <;> simp [renC, Cont.sz]
theorem renC_el (g : Nat → Option Nat) (c : Cont) (i : Nat) : (renC g c).el i = (c.el i).map (renAC g) := by
  cases c with
  | one l => rfl
  | row sz n f => simp [renC, Cont.el, ofCells, renAC]
  | lst sz l z =>
    simp only [renC, Cont.el, List.getD_eq_getElem?_getD, List.getElem?_map]
    cases l[i]? <;> rfl

theorem BR.ren (hg : RenOk g m m') {b : ABlk} {p : Pl} (hb : BR B m b p w) : BR B m' (renB g b) p w :=
  { sz := by rw [hb.sz]; exact (renC_sz g b.c).symm
    len := fun i hi => by
      have hi' : i < b.c.n := by rw [← renC_n g]; exact hi
      show ((renC g b.c).el i).length = p.sz
      rw [renC_el, List.length_map, hb.len i hi']
    cap := by show (renC g b.c).n ≤ p.cap; rw [renC_n]; exact hb.cap
    cell := fun i j c hi hc => by
      have hi' : i < b.c.n := by rw [← renC_n g]; exact hi
      have hc' : ((renC g b.c).el i)[j]? = some c := hc
      rw [renC_el, List.getElem?_map, Option.map_eq_some_iff] at hc'
      obtain ⟨a, ha, rfl⟩ := hc'
      obtain ⟨A, x, hA, hs, hx, hr, h1⟩ := hb.cell i j a hi' ha
      exact ⟨A, x, hA, hs, hx, hr.ren hg, h1⟩
    own := hb.own
    came := fun ho A hA hn => hb.came ho A hA (by rw [← renC_n g]; exact hn) }

/-- The list of what is led to. -/
theorem closeOf_ok (h : AHeap) : ∀ (f : Nat) (todo acc : List Nat), ∃ l, closeOf h f todo acc = acc ++ l ∧ (acc.Nodup → (acc ++ l).Nodup) ∧ ∀ x ∈ l, x < h.length
  | 0, _, acc => ⟨[], by simp [closeOf], by simp, by simp⟩
  | _ + 1, [], acc => ⟨[], by simp [closeOf], by simp, by simp⟩
  | k + 1, id :: todo, acc => by
    simp only [closeOf]
    split
    · exact closeOf_ok h k todo acc
    · rename_i hn
      simp only [Bool.or_eq_true, not_or, Bool.not_eq_true, decide_eq_false_iff_not, Nat.not_le] at hn
      obtain ⟨l, e, hd, hb⟩ := closeOf_ok h k (todo ++ refB (h[id]?).join) (acc ++ [id])
      refine ⟨id :: l, by rw [e]; simp, ?_, ?_⟩
      · intro ha
        have hni : id ∉ acc := by have := hn.1; simpa using this
        have := hd (List.nodup_append.2 ⟨ha, by simp, fun x hx y hy => by simp at hy; subst hy; exact fun e => hni (e ▸ hx)⟩)
        simpa using this
      · intro x hx
        cases hx with
        | head => exact hn.2
        | tail _ hx => exact hb x hx

theorem nodup_inj {R : List Nat} (hd : R.Nodup) {i j x : Nat} (hi : R[i]? = some x) (hj : R[j]? = some x) : i = j := by
  obtain ⟨h1, h2⟩ := List.getElem?_eq_some_iff.1 hi
  obtain ⟨h3, h4⟩ := List.getElem?_eq_some_iff.1 hj
  have hp := List.pairwise_iff_getElem.1 hd
  rcases Nat.lt_trichotomy i j with hlt | rfl | hgt
  · exact absurd (h2.trans h4.symm) (hp i j h1 h3 hlt)
  · rfl
  · exact absurd (h4.trans h2.symm) (hp j i h3 h1 hgt)

theorem idxIn_some {R : List Nat} {id k : Nat} (he : idxIn R id = some k) : R[k]? = some id := by
  unfold idxIn at he
  split at he
  · rename_i hc
    simp only [Option.some.injEq] at he
    subst he
    have hm : id ∈ R := by simpa using hc
    have hlt := List.idxOf_lt_length_iff.2 hm
    rw [List.getElem?_eq_getElem hlt, List.getElem_idxOf]
  · cases he
theorem idxIn_of {R : List Nat} (hd : R.Nodup) {id k : Nat} (he : R[k]? = some id) : idxIn R id = some k := by
  unfold idxIn
  have hm : id ∈ R := List.mem_of_getElem? he
  rw [if_pos (by simpa using hm)]
  congr 1
  have hlt := List.idxOf_lt_length_iff.2 hm
  have h1 : R[R.idxOf id]? = some id := by rw [List.getElem?_eq_getElem hlt, List.getElem_idxOf]
  exact nodup_inj hd h1 he

def subPl (m : List Pl) (R : List Nat) : List Pl := R.map fun id => m.getD id ⟨none, 0, 0⟩

theorem subPl_get {R : List Nat} {id k : Nat} {p : Pl} (he : R[k]? = some id) (hp : m[id]? = some p) : (subPl m R)[k]? = some p := by
  simp [subPl, he, List.getD_eq_getElem?_getD, hp]
theorem subPl_ren (R : List Nat) : RenOk (idxIn R) m (subPl m R) := fun id k he p hp => subPl_get (idxIn_some he) hp

theorem subHeap_get {R : List Nat} {k : Nat} {b : ABlk} (he : (subHeap h R)[k]? = some (some b)) : ∃ id b0, R[k]? = some id ∧ h[id]? = some (some b0) ∧ b = renB (idxIn R) b0 := by
  simp only [subHeap, List.getElem?_map, Option.map_eq_some_iff] at he
  obtain ⟨id, hid, he⟩ := he
  obtain ⟨b0, hb0, rfl⟩ := he
  refine ⟨id, b0, hid, ?_, rfl⟩
  cases e : h[id]? with
  | none => simp [e] at hb0
  | some o => rw [e] at hb0; simp at hb0; rw [hb0]

/-- A part of the heap. -/
theorem HR.sub (H : HR B m h w) {R : List Nat} (hd : R.Nodup) (hlt : ∀ x ∈ R, x < h.length) : HR B (subPl m R) (subHeap h R) w := by
  have pl : ∀ {k id : Nat} {p : Pl}, R[k]? = some id → (subPl m R)[k]? = some p → m[id]? = some p := by
    intro k id p hk hp
    have hid : id < m.length := by rw [H.len]; exact hlt id (List.mem_of_getElem? hk)
    have := subPl_get (m := m) hk (List.getElem?_eq_getElem hid)
    rw [this] at hp
    cases hp
    exact List.getElem?_eq_getElem hid
  refine { len := by simp [subPl, subHeap], blk := ?_, apart := ?_ }
  · intro k b p hb hp
    obtain ⟨id, b0, hk, hb0, rfl⟩ := subHeap_get hb
    exact (H.blk id b0 p hb0 (pl hk hp)).ren (subPl_ren R)
  · intro k k' b b' p p' A A' hne hb hb' ho ho' hp hp' hA hA'
    obtain ⟨id, b0, hk, hb0, rfl⟩ := subHeap_get hb
    obtain ⟨id', b0', hk', hb0', rfl⟩ := subHeap_get hb'
    refine H.apart id id' b0 b0' p p' A A' ?_ hb0 hb0' ho ho' (pl hk hp) (pl hk' hp') hA hA'
    intro e
    subst e
    exact hne (nodup_inj hd hk hk')

theorem Own.sub (H : HR B m h w) {R : List Nat} (hlt : ∀ x ∈ R, x < h.length) {k : Nat} (ho : Own (subPl m R) (subHeap h R) k) : Own m h k := by
  obtain ⟨i, b, p, A, hb, how, hp, hA, rfl⟩ := ho
  obtain ⟨id, b0, hk, hb0, rfl⟩ := subHeap_get hb
  refine ⟨id, b0, p, A, hb0, how, ?_, hA, rfl⟩
  have hid : id < m.length := by rw [H.len]; exact hlt id (List.mem_of_getElem? hk)
  have := subPl_get (m := m) hk (List.getElem?_eq_getElem hid)
  rw [this] at hp
  cases hp
  exact List.getElem?_eq_getElem hid
end
end
section
open Go Go.RowKit

def SpecOk (P : Program) (f : FuncId) (F : Spec) : Prop :=
  ∀ (B : Nat) args H r H', (F args H).eval = some (r, H') → ∀ m w (vals : Array Value), HR B m H w → B ≤ w.heap.size → VRs m args vals.toList →
    Calls P f vals w fun e w' => ∃ m' x, e = .returned x ∧ Step B m H w m' H' w' ∧ VR m' r x

section
variable {m m1 : List Pl} {h hs : AHeap} {w w' : World} {B : Nat} {R : List Nat}

theorem merge_get {id : Nat} {b : ABlk} (hd : R.Nodup) (hlt : ∀ x ∈ R, x < h.length) (he : (mergeIn h R hs)[id]? = some (some b)) :
    (id ∉ R ∧ id < h.length ∧ h[id]? = some (some b)) ∨ (∃ (k : Nat) (b1 : ABlk), hs[k]? = some (some b1) ∧ b = renB (backIn R h.length) b1 ∧ backIn R h.length k = some id ∧ (k < R.length → R[k]? = some id)) := by
  unfold mergeIn at he
  rcases Nat.lt_or_ge id h.length with hl | hl
  · rw [List.getElem?_append_left (by simpa using hl), List.getElem?_map, List.getElem?_range hl] at he
    simp only [Option.map_some, Option.some.injEq] at he
    split at he
    · rename_i hc
      right
      have hm : id ∈ R := by simpa using hc
      have hidx := List.idxOf_lt_length_iff.2 hm
      have hR : R[R.idxOf id]? = some id := by rw [List.getElem?_eq_getElem hidx, List.getElem_idxOf]
      cases e : hs[R.idxOf id]? with
      | none => simp [e] at he
      | some o =>
        cases o with
        | none => simp [e] at he
        | some b1 =>
          rw [e] at he
          simp only [Option.join_some, Option.map_some, Option.some.injEq] at he
          refine ⟨R.idxOf id, b1, e, he.symm, ?_, fun _ => hR⟩
          unfold backIn
          rw [if_pos hidx, List.getD_eq_getElem?_getD, hR]
          rfl
    · rename_i hc
      left
      refine ⟨by simpa using hc, hl, ?_⟩
      cases e : h[id]? with
      | none => simp [e] at he
      | some o => rw [e] at he; simp at he; rw [he]
  · rw [List.getElem?_append_right (by simpa using hl)] at he
    simp only [List.length_map, List.length_range, List.getElem?_map, List.getElem?_drop, Option.map_eq_some_iff] at he
    obtain ⟨o, ho, b1, rfl, rfl⟩ := he
    right
    refine ⟨R.length + (id - h.length), b1, ho, rfl, ?_, fun hk => by omega⟩
    unfold backIn
    rw [if_neg (by omega)]
    congr 1
    omega

theorem acall_ok {P : Program} {f : FuncId} {F : Spec} (hF : SpecOk P f F) {args : List AV} {vals : Array Value} {r : AV} {h' : AHeap} (H : HR B m h w) (hB : B ≤ w.heap.size) (hv : VRs m args vals.toList) (he : (acall F args h).eval = some (r, h')) :
    Calls P f vals w fun e w' => ∃ m' x, e = .returned x ∧ Step B m h w m' h' w' ∧ VR m' r x := by
  rw [acall_def] at he
  obtain ⟨l, hRe, hRd, hRb⟩ := closeOf_ok h 10000 (refAVs args) []
  generalize hR : closeOf h 10000 (refAVs args) [] = R at he hRe
  simp only [List.nil_append] at hRe hRd
  subst hRe
  have hd : R.Nodup := hRd List.nodup_nil
  simp only [Tr.eval_bind] at he
  cases hs0 : (F (renAVs (idxIn R) args) (subHeap h R)).eval with
  | none => rw [hs0] at he; simp at he
  | some rh =>
    obtain ⟨rs, hs⟩ := rh
    rw [hs0] at he
    simp only [Option.bind_some, Tr.eval, Option.some.injEq, Prod.mk.injEq] at he
    obtain ⟨rfl, rfl⟩ := he
    have hsub := H.sub hd hRb
    refine (hF B _ _ rs hs hs0 (subPl m R) w vals hsub hB (VRs.ren (subPl_ren R) hv)).mono ?_
    rintro e w' ⟨m1, x, rfl, hst, hvr⟩
    have hRm : ∀ x ∈ R, x < m.length := fun x hx => by rw [H.len]; exact hRb x hx
    have hsubl : (subPl m R).length = R.length := by simp [subPl]
    have hm1 : R.length ≤ m1.length := by
      rcases Nat.eq_zero_or_pos R.length with h0 | h0
      · omega
      · have hlt : R.length - 1 < (subPl m R).length := by omega
        have := hst.ext _ _ (List.getElem?_eq_getElem hlt)
        have := (List.getElem?_eq_some_iff.1 this).1
        omega
    -- places, back
    have hback : RenOk (backIn R h.length) m1 (m ++ m1.drop R.length) := by
      intro i k hk p hp
      unfold backIn at hk
      simp only [Option.some.injEq] at hk
      subst hk
      split
      · rename_i hi
        obtain ⟨y, hy⟩ : ∃ y, R[i]? = some y := ⟨_, List.getElem?_eq_getElem hi⟩
        have hym := hRm y (List.mem_of_getElem? hy)
        have h1 := hst.ext _ _ (subPl_get (m := m) hy (List.getElem?_eq_getElem hym))
        rw [h1] at hp
        cases hp
        rw [List.getD_eq_getElem?_getD, hy, Option.getD_some, List.getElem?_append_left hym]
        exact List.getElem?_eq_getElem hym
      · rename_i hi
        rw [← H.len, List.getElem?_append_right (by omega), List.getElem?_drop, show R.length + (m.length + (i - R.length) - m.length) = i by omega]
        exact hp
    refine ⟨m ++ m1.drop R.length, x, rfl, ?_, VR.ren hback hvr⟩
    have hownsub : ∀ k, Own (subPl m R) (subHeap h R) k → Own m h k := fun k hk => Own.sub H hRb hk
    -- what the callee may write is apart from what it does not know
    have hapartBlk : ∀ {id : Nat} {b : ABlk} {p : Pl} {A : Addr}, id ∉ R → h[id]? = some (some b) → m[id]? = some p → p.A = some A → (0 < b.c.n ∨ b.own = true) → ¬ Own (subPl m R) (subHeap h R) A.block := by
      intro id b p A hni hb hp hA hor hown
      obtain ⟨i, b1, p1, A1, hb1, ho1, hp1, hA1, hblk⟩ := hown
      obtain ⟨id0, b0, hk0, hb0, rfl⟩ := subHeap_get hb1
      have hid0 : id0 ∈ R := List.mem_of_getElem? hk0
      have hne : id ≠ id0 := fun e => hni (e ▸ hid0)
      have hm0 := hRm id0 hid0
      have hp0 : m[id0]? = some p1 := by
        have := subPl_get (m := m) hk0 (List.getElem?_eq_getElem hm0)
        rw [this] at hp1
        cases hp1
        exact List.getElem?_eq_getElem hm0
      by_cases hbo : b.own = true
      · exact H.apart id id0 b b0 p p1 A A1 hne hb hb0 hbo ho1 hp hp0 hA hA1 hblk.symm
      · have hbf : b.own = false := by simpa using hbo
        have hn : 0 < b.c.n := by rcases hor with h0 | h0; exact h0; exact absurd h0 hbo
        have h1 := (H.blk id b p hb hp).came hbf A hA hn
        have h2 := (((H.blk id0 b0 p1 hb0 hp0).own ho1).2 A1 hA1).2.2.1
        omega
    have pl1 : ∀ {id : Nat} {p : Pl}, id < h.length → (m ++ m1.drop R.length)[id]? = some p → m[id]? = some p := by
      intro id p hl hp
      rwa [List.getElem?_append_left (by rw [H.len]; exact hl)] at hp
    have pl2 : ∀ {k id : Nat} {p : Pl}, k < m1.length → backIn R h.length k = some id → (m ++ m1.drop R.length)[id]? = some p → m1[k]? = some p := by
      intro k id p hk hbk hp
      have := hback k id hbk _ (List.getElem?_eq_getElem hk)
      rw [this] at hp
      cases hp
      exact List.getElem?_eq_getElem hk
    have hslen := hst.hr.len
    refine ⟨Ext.app _ _, { len := by simp only [List.length_append, List.length_drop, mergeIn, List.length_map, List.length_range]; rw [hslen, H.len], blk := ?_, apart := ?_ }, ⟨hst.fr.os, hst.fr.tape, hst.fr.output, hst.fr.size, fun k hk hX => hst.fr.blk k hk fun ho => hX (hownsub k ho)⟩, ?_⟩
    · intro id b p hb hp
      rcases merge_get hd hRb hb with ⟨hni, hl, hb⟩ | ⟨k, b1, hk, rfl, hbk, _⟩
      · have hp' := pl1 hl hp
        exact ((H.blk id b p hb hp').keep fun A hA hlt hor => hst.fr.blk _ hlt (hapartBlk hni hb hp' hA hor)).ext (Ext.app _ _)
      · have hk1 : k < m1.length := by rw [hslen]; exact (List.getElem?_eq_some_iff.1 hk).1
        exact (hst.hr.blk k b1 p hk (pl2 hk1 hbk hp)).ren hback
    · intro id id' b b' p p' A A' hne hb hb' ho ho' hp hp' hA hA'
      have mixed : ∀ {id : Nat} {b : ABlk} {p : Pl} {A : Addr} {k : Nat} {b1 : ABlk} {p1 : Pl} {A1 : Addr}, id ∉ R → id < h.length → h[id]? = some (some b) → b.own = true → m[id]? = some p → p.A = some A →
          hs[k]? = some (some b1) → b1.own = true → m1[k]? = some p1 → p1.A = some A1 → A.block ≠ A1.block := by
        intro id b p A k b1 p1 A1 hni hl hb ho hp hA hk ho1 hp1 hA1 heq
        rcases hst.own A1.block ⟨k, b1, p1, A1, hk, ho1, hp1, hA1, rfl⟩ with hown | hge
        · rw [← heq] at hown
          exact hapartBlk hni hb hp hA (.inr ho) hown
        · obtain ⟨_, _, _, cs0, hc0, _⟩ := ((H.blk id b p hb hp).own ho).2 A hA
          have := (Array.getElem?_eq_some_iff.1 hc0).1
          omega
      rcases merge_get hd hRb hb with ⟨hni, hl, hb⟩ | ⟨k, b1, hk, rfl, hbk, _⟩ <;> rcases merge_get hd hRb hb' with ⟨hni', hl', hb'⟩ | ⟨k', b1', hk', rfl, hbk', _⟩
      · exact H.apart id id' b b' p p' A A' hne hb hb' ho ho' (pl1 hl hp) (pl1 hl' hp') hA hA'
      · have hk1 : k' < m1.length := by rw [hslen]; exact (List.getElem?_eq_some_iff.1 hk').1
        exact mixed hni hl hb ho (pl1 hl hp) hA hk' ho' (pl2 hk1 hbk' hp') hA'
      · have hk1 : k < m1.length := by rw [hslen]; exact (List.getElem?_eq_some_iff.1 hk).1
        exact fun e => mixed hni' hl' hb' ho' (pl1 hl' hp') hA' hk ho (pl2 hk1 hbk hp) hA e.symm
      · have hk1 : k < m1.length := by rw [hslen]; exact (List.getElem?_eq_some_iff.1 hk).1
        have hk1' : k' < m1.length := by rw [hslen]; exact (List.getElem?_eq_some_iff.1 hk').1
        refine hst.hr.apart k k' b1 b1' p p' A A' ?_ hk hk' ho ho' (pl2 hk1 hbk hp) (pl2 hk1' hbk' hp') hA hA'
        intro e
        subst e
        rw [hbk] at hbk'
        cases hbk'
        exact hne rfl
    · intro q hq
      obtain ⟨id, b, p, A, hb, ho, hp, hA, rfl⟩ := hq
      rcases merge_get hd hRb hb with ⟨hni, hl, hb⟩ | ⟨k, b1, hk, rfl, hbk, _⟩
      · exact .inl ⟨id, b, p, A, hb, ho, pl1 hl hp, hA, rfl⟩
      · have hk1 : k < m1.length := by rw [hslen]; exact (List.getElem?_eq_some_iff.1 hk).1
        rcases hst.own A.block ⟨k, b1, p, A, hk, ho, pl2 hk1 hbk hp, hA, rfl⟩ with hown | hge
        · exact .inl (hownsub _ hown)
        · exact .inr hge
end
end
section
open Go Go.RowKit

structure XOk (G : Ctx2) : Prop where
  g : GOk G.toCtx
  f : FOk G.toCtx
  mixed : G.P.follows .mixedOrders = true
  σ : ∀ k F, G.σ k = some F → SpecOk G.P k F ∧ ∃ fn, G.P.funcs[k]? = some fn ∧ (fn.name == "runtime.NumGoroutine") = false ∧ fn.body.isNone = false

def SlOk (m : List Pl) (sl : List AV) (tmps : Array Value) : Prop := sl.length = tmps.size ∧ ∀ (t : Nat) v, sl[t]? = some v → ∃ x, tmps[t]? = some x ∧ VR m v x

section
variable {G : Ctx2} {o : Oper} {S S' : St} {m m0 : List Pl} {h h0 : AHeap} {w w0 : World} {B : Nat} {a : Act} {v : AV}

theorem SlOk.getD {sl : List AV} {tmps : Array Value} (hs : SlOk m sl tmps) (t : Nat) : VR m (sl.getD t (.c .any)) (tmps.getD t undef) := by
  rw [List.getD_eq_getElem?_getD]
  cases e : sl[t]? with
  | none => simp [VR, CR]
  | some v =>
    obtain ⟨x, hx, hr⟩ := hs.2 t v e
    have : tmps.getD t undef = x := by
      simp [Array.getD_eq_getD_getElem?, hx]
    rw [this]
    exact hr
theorem SlOk.ops (hs : SlOk m S.sl a.tmps) : OpsOk m (evs S.sl) a.eval := fun x => by
  cases x with
  | tmp t => exact hs.getD t
  | const v => exact VR_ofConst m v
  | global g => exact rfl
  | func f => exact rfl
theorem SlOk.ext {m' : List Pl} {sl : List AV} {tmps : Array Value} (hs : SlOk m sl tmps) (he : Ext m m') : SlOk m' sl tmps :=
  ⟨hs.1, fun t v ht => let ⟨x, hx, hr⟩ := hs.2 t v ht; ⟨x, hx, VR.ext he hr⟩⟩
theorem SlOk.put {sl : List AV} {x : Value} (hs : SlOk m sl a.tmps) (dst : Option Tmp) (hr : VR m v x) : SlOk m (putA sl dst v) (a.put dst x).tmps := by
  cases dst with
  | none => exact hs
  | some d =>
    refine ⟨by simp [putA, Act.put, hs.1], fun t u ht => ?_⟩
    simp only [putA] at ht
    simp only [Act.put]
    by_cases e : t = d
    · subst e
      have hlt : t < sl.length := by simpa using (List.getElem?_eq_some_iff.1 ht).1
      rw [List.getElem?_set_self hlt] at ht
      cases ht
      exact ⟨x, by rw [Array.getElem?_setIfInBounds]; simp [← hs.1, hlt], hr⟩
    · rw [List.getElem?_set_ne (fun e' => e e'.symm)] at ht
      obtain ⟨y, hy, hry⟩ := hs.2 t u ht
      exact ⟨y, by rw [Array.getElem?_setIfInBounds_ne (fun e' => e e'.symm)]; exact hy, hry⟩

/-- How things stand while a function runs: B0 the place where the seat's own blocks begin; m0, h0, w0 as they were when it began. -/
structure RI (B : Nat) (m0 : List Pl) (h0 : AHeap) (w0 : World) (S : St) (a : Act) (w : World) : Prop where
  hB : B ≤ w0.heap.size
  ex : ∃ m, Step B m0 h0 w0 m S.h w ∧ SlOk m S.sl a.tmps
  def_ : a.defers = []

theorem put_defers (a : Act) (d : Option Tmp) (x : Value) : (a.put d x).defers = a.defers := by cases d <;> rfl

/-- What an operation makes. -/
def OpOk (P : Program) (B : Nat) (m : List Pl) (h : AHeap) (w : World) (a : Act) (o : Oper) (v : AV) (h' : AHeap) : Prop :=
  ∀ (K : Act → World → Prop) (Q : Exit → Act → World → Prop), (∀ m' x w', Step B m h w m' h' w' → VR m' v x → K (a.put o.dst x) w') → o.wp P a w K Q

theorem OpOk.of_h {h' : AHeap} (hh : HOk G.P B m h w a.eval o v h') : OpOk G.P B m h w a o v h' := by
  obtain ⟨x, w', m', hr, hst, hv⟩ := hh
  intro K Q hK
  unfold Oper.wp
  rcases hr with hr | ⟨hr, rfl⟩
  · rw [hr]; exact hK m' x w' hst hv
  · rw [hr]; exact hK m' _ w' hst hv

theorem funcOf_some {u : AV} {y : Value} {k : Nat} (h : funcOf u = some k) (hv : VR m u y) : y = .func (.func k) #[] #[] := by
  unfold funcOf at h
  split at h
  · rename_i k' f c
    split at h
    · rename_i hf hc
      simp only [Option.some.injEq] at h
      subst h
      have hf' : f = #[] := by apply Array.ext'; simpa using hf
      have hc' : c = #[] := by apply Array.ext'; simpa using hc
      subst hf'; subst hc'
      exact hv
    · cases h
  · cases h

theorem heavy_ok (hG : XOk G) {ρ : Operand → AV} (hρ : OpsOk m ρ a.eval) (H : HR B m h w) (hB : B ≤ w.heap.size) {h' : AHeap} (he : (aheavy G o ρ h).eval = some (v, h')) : OpOk G.P B m h w a o v h' := by
  unfold aheavy at he
  split at he
  · rename_i t ho
    split at he
    · rename_i ti hti
      simp only [Tr.eval, Option.some.injEq, Prod.mk.injEq] at he
      obtain ⟨rfl, rfl⟩ := he
      exact .of_h (h_alloc hG.g H hB ho hti)
    · cases he
  · rename_i t x ho
    split at he
    · rename_i ti hti
      split at he
      · rename_i c hc
        simp only [Tr.eval, Option.some.injEq, Prod.mk.injEq] at he
        obtain ⟨rfl, rfl⟩ := he
        exact .of_h (h_box hG.g hρ H hB ho hc)
      · cases he
    · cases he
  · rename_i t len ps ho
    split at he
    · rename_i e _ _ _ _ _ _ ht
      split at he
      · rename_i ti hti
        split at he
        · rename_i l hl
          split at he
          · rename_i hc
            simp only [Tr.eval, Option.some.injEq, Prod.mk.injEq] at he
            obtain ⟨rfl, rfl⟩ := he
            exact .of_h (h_buildSlice hG.g hρ H hB ho ht rfl hti hl hc.1 hc.2)
          · cases he
        · cases he
      · cases he
    · cases he
  · rename_i t l c ho
    split at he
    · rename_i e _ _ _ _ _ _ k1 n k2 n' ht hl hc
      split at he
      · rename_i ti hti
        split at he
        · obtain ⟨h1, he⟩ := Tr.eval_need.1 he
          obtain ⟨h2, h3, hv⟩ := need2 he
          simp only [Tr.eval, Option.some.injEq, Prod.mk.injEq] at hv
          obtain ⟨rfl, rfl⟩ := hv
          have e1 : n' = n := by simpa using h2
          subst e1
          exact .of_h (h_makeSlice hG.g hρ H hB ho ht rfl hti hl hc (by simpa using h1) (by simpa using h3))
        · cases he
      · cases he
    · cases he
  · rename_i t p x ho
    rw [Tr.eval_bind] at he
    cases hst : (astore G.T h t (ρ p) (ρ x)).eval with
    | none => simp [hst] at he
    | some h'' =>
      rw [hst] at he
      simp only [Option.bind_some, Tr.eval, Option.some.injEq, Prod.mk.injEq] at he
      obtain ⟨rfl, rfl⟩ := he
      exact .of_h (h_store hG.g hρ H ho hst)
  · rename_i args ts ho
    split at he
    · rename_i s x t t2 ha hts
      exact .of_h (h_append hG.g hρ H hB ho ha hts he)
    · cases he
  · rename_i f args ts ho
    split at he
    · rename_i k hf
      split at he
      · rename_i F hF
        obtain ⟨hsp, fn, hfn, hname, hbody⟩ := hG.σ k F hF
        have hvs : VRs m (args.toList.map ρ) (args.map a.eval).toList := by
          rw [Array.toList_map]
          generalize args.toList = l
          clear he ho
          induction l with
          | nil => simp [VRs]
          | cons x l ih => simp only [List.map_cons, VRs]; exact ⟨hρ x, ih⟩
        have hc := acall_ok hsp H hB hvs he
        have hfv : a.eval f = .func (.func k) #[] #[] := funcOf_some hf (hρ f)
        intro K Q hK
        have hrun : (execOp a.eval o).run G.P w = .ok (.enter k (args.map a.eval)) w := by
          simp only [execOp, ho, resolve, hfv, Deferred.ofValue, Sem.run_bind, Sem.run_pure, Result.andThen_ok, invoke, callFunc, Array.empty_append, Array.append_empty]
          have h1 : ¬ fn.name = "runtime.NumGoroutine" := by simpa using hname
          have h2 : ¬ fn.body = none := by intro e; rw [e] at hbody; simp at hbody
          simp [Sem.run, program, hfn, h1, h2]
        unfold Oper.wp
        rw [hrun, Oper.upon_enter]
        refine hc.mono ?_
        rintro e w' ⟨m', x, rfl, hst, hv⟩
        exact hK m' x w' hst hv
      · cases he
    · cases he
  · cases he

theorem stepOp_ok (hG : XOk G) (hI : RI B m0 h0 w0 S a w) (he : (stepOp G o S).eval = some S') (K : Act → World → Prop) (Q : Exit → Act → World → Prop) (hK : ∀ a' w', RI B m0 h0 w0 S' a' w' → K a' w') : o.wp G.P a w K Q := by
  obtain ⟨hB, ⟨m, hst, hs⟩, hd⟩ := hI
  have hBw : B ≤ w.heap.size := Nat.le_trans hB hst.fr.size
  rw [stepOp_def] at he
  split at he
  · rw [Tr.eval_bind] at he
    cases hl : (alight G.toCtx o (evs S.sl) S.h).eval with
    | none => simp [hl] at he
    | some v =>
      rw [hl] at he
      simp only [Option.bind_some, Tr.eval, Option.some.injEq] at he
      subst he
      obtain ⟨x, hr, hv⟩ := light_ok hG.g hG.f hs.ops hst.hr hl
      unfold Oper.wp
      rw [hr]
      exact hK _ _ ⟨hB, ⟨m, hst, hs.put o.dst hv⟩, by rw [put_defers]; exact hd⟩
  · rw [Tr.eval_bind] at he
    cases hl : (aheavy G o (evs S.sl) S.h).eval with
    | none => simp [hl] at he
    | some vh =>
      obtain ⟨v, h'⟩ := vh
      rw [hl] at he
      simp only [Option.bind_some, Tr.eval, Option.some.injEq] at he
      subst he
      refine heavy_ok hG hs.ops hst.hr hBw hl K Q fun m' x w' hst' hv => hK _ _ ⟨hB, ⟨m', hst.trans hst', (hs.ext hst'.ext).put o.dst hv⟩, by rw [put_defers]; exact hd⟩

theorem RI.skip (hI : RI B m0 h0 w0 S a w) (o : Oper) : RI B m0 h0 w0 (skipOp o S) (a.put o.dst undef) w := by
  obtain ⟨hB, ⟨m, hst, hs⟩, hd⟩ := hI
  exact ⟨hB, ⟨m, hst, hs.put o.dst (rfl : CR m (.v undef) undef)⟩, by rw [put_defers]; exact hd⟩

theorem RI.lit (hI : RI B m0 h0 w0 S a w) {t : Nat} {b : Bool} (ht : S.sl.getD t (.c .any) = .c (.v (.bool b))) : RI B m0 h0 w0 (litB S t b) a w := by
  obtain ⟨hB, ⟨m, hst, hs⟩, hd⟩ := hI
  refine ⟨hB, ⟨m, hst, ?_⟩, hd⟩
  refine ⟨by simp [litB, hs.1], fun u v hu => ?_⟩
  simp only [litB] at hu
  by_cases e : u = t
  · subst e
    have hlt : u < S.sl.length := by simpa using (List.getElem?_eq_some_iff.1 hu).1
    rw [List.getElem?_set_self hlt] at hu
    cases hu
    have hg : S.sl[u]? = some (.c (.v (.bool b))) := by
      rw [List.getD_eq_getElem?_getD, List.getElem?_eq_getElem hlt] at ht
      simp only [Option.getD_some] at ht
      rw [List.getElem?_eq_getElem hlt, ht]
    exact hs.2 u _ hg
  · rw [List.getElem?_set_ne (fun e' => e e'.symm)] at hu
    exact hs.2 u v hu

theorem RI.slot (hI : RI B m0 h0 w0 S a w) (t : Nat) : ∃ m, VR m (S.sl.getD t (.c .any)) (a.tmps.getD t undef) ∧ (t < a.tmps.size ∨ S.sl.getD t (.c .any) = .c .any) := by
  obtain ⟨_, ⟨m, _, hs⟩, _⟩ := hI
  refine ⟨m, hs.getD t, ?_⟩
  rcases Nat.lt_or_ge t a.tmps.size with h | h
  · exact .inl h
  · right
    rw [List.getD_eq_getElem?_getD, List.getElem?_eq_none (by rw [hs.1]; exact h)]
    rfl

/-- What a guard says. -/
theorem RI.bool (hI : RI B m0 h0 w0 S a w) {t : Nat} {b : Bool} (ht : S.sl.getD t (.c .any) = .c (.v (.bool b))) : a.tmps[t]? = some (.bool b) := by
  obtain ⟨m, hv, hor⟩ := hI.slot t
  rw [ht] at hv hor
  rcases hor with hlt | h
  · have hv' : a.tmps.getD t undef = .bool b := hv
    rw [Array.getD_eq_getD_getElem?, Array.getElem?_eq_getElem hlt] at hv'
    rw [Array.getElem?_eq_getElem hlt, ← hv']
    rfl
  · cases h
theorem RI.tuple (hI : RI B m0 h0 w0 S a w) {t : Nat} {vs : Array Value} (ht : S.sl.getD t (.c .any) = .c (.v (.tuple vs))) : a.tmps[t]? = some (.tuple vs) := by
  obtain ⟨m, hv, hor⟩ := hI.slot t
  rw [ht] at hv hor
  rcases hor with hlt | h
  · have hv' : a.tmps.getD t undef = .tuple vs := hv
    rw [Array.getD_eq_getD_getElem?, Array.getElem?_eq_getElem hlt] at hv'
    rw [Array.getElem?_eq_getElem hlt, ← hv']
    rfl
  · cases h

theorem guarded_ok (hG : XOk G) {ops : Array Oper} (hI : RI B m0 h0 w0 S a w) (he : (guarded G ops o S).eval = some S') (K : Act → World → Prop) (Q : Exit → Act → World → Prop) (hK : ∀ a' w', RI B m0 h0 w0 S' a' w' → K a' w') :
    if Region.wanted o (yielded ops a.tmps) then o.wp G.P a w K Q else K (a.put o.dst undef) w := by
  unfold guarded at he
  split at he
  · rename_i hg
    rw [if_pos (by simp [Region.wanted, hg])]
    exact stepOp_ok hG hI he K Q hK
  · rename_i g want hg
    split at he
    · rename_i t ht
      split at he
      · rename_i b hb
        have hy : yielded ops a.tmps g = some b := by
          have := hI.bool hb
          simp [yielded, ht, this]
        have hw : Region.wanted o (yielded ops a.tmps) = (b == want) := by
          simp only [Region.wanted, hg, hy]
          cases b <;> cases want <;> rfl
        rw [Tr.eval_ite] at he
        rw [hw]
        cases b with
        | true =>
          rw [if_pos rfl] at he
          cases want with
          | true =>
            simp only [if_true] at he
            exact stepOp_ok hG (hI.lit hb) he K Q hK
          | false =>
            simp only [Bool.false_eq_true, if_false, Tr.eval, Option.some.injEq] at he
            subst he
            exact hK _ _ ((hI.lit hb).skip o)
        | false =>
          rw [if_neg (by simp)] at he
          cases want with
          | true =>
            simp only [if_true, Tr.eval, Option.some.injEq] at he
            subst he
            exact hK _ _ ((hI.lit hb).skip o)
          | false =>
            simp only [Bool.false_eq_true, if_false] at he
            exact stepOp_ok hG (hI.lit hb) he K Q hK
      · rename_i vs hb
        have hy : yielded ops a.tmps g = none := by
          have := hI.tuple hb
          simp [yielded, ht, this]
        have hw : Region.wanted o (yielded ops a.tmps) = false := by
          simp only [Region.wanted, hg, hy]
          rfl
        rw [hw]
        simp only [Tr.eval, Option.some.injEq] at he
        subst he
        exact hK _ _ (hI.skip o)
      · cases he
    · cases he

theorem regSeq_ok (hG : XOk G) {ops : Array Oper} {Q : Exit → Act → World → Prop} : ∀ (l : List Oper) (S : St) (a : Act) (w : World), RI B m0 h0 w0 S a w → (regSeq G ops l S).eval = some S' → (∀ a' w', RI B m0 h0 w0 S' a' w' → Q .normal a' w') →
    wpList G.P ops Q l a w
  | [], S, a, w, hI, he, hK => by
    simp only [regSeq, Tr.eval, Option.some.injEq] at he
    subst he
    exact hK a w hI
  | o :: l, S, a, w, hI, he, hK => by
    simp only [regSeq, Tr.eval_bind] at he
    cases hg : (guarded G ops o S).eval with
    | none => simp [hg] at he
    | some S1 =>
      rw [hg] at he
      simp only [Option.bind_some] at he
      refine wpList_step fun K hKK => guarded_ok hG hI hg K Q fun a' w' hI' => hKK a' w' (regSeq_ok hG l S1 a' w' hI' he hK)
end
end
section
open Go Go.RowKit

theorem apure_congr {P : Program} {o : Oper} {ρ ρ2 : Operand → AV} (hs : ∀ cs b, o.op ≠ .select cs b) (h : ∀ x ∈ o.op.operands, ρ x = ρ2 x) : apure P o ρ = apure P o ρ2 := by
  unfold apure
  have h1 : (o.op.operands.toList.all fun x => (scal (ρ x)).isSome) = (o.op.operands.toList.all fun x => (scal (ρ2 x)).isSome) := by
    rw [Bool.eq_iff_iff, List.all_eq_true, List.all_eq_true]
    constructor
    · intro hh x hx; rw [← h x (Array.mem_toList_iff.1 hx)]; exact hh x hx
    · intro hh x hx; rw [h x (Array.mem_toList_iff.1 hx)]; exact hh x hx
  have h2 : execOp (fun x => (scal (ρ x)).getD undef) o = execOp (fun x => (scal (ρ2 x)).getD undef) o := execOp_congr o hs fun x hx => by rw [h x hx]
  rw [h1, h2]

theorem aload_congr {T : List TI} {t : TypeId} {x : AV} {h h' : AHeap} (hh : ∀ id ∈ refAV x, h.at id = h'.at id) : aload T h t x = aload T h' t x := by
  cases x with
  | c c =>
    cases c with
    | ptr id i j =>
      have h0 : aload0 T h t (.c (.ptr id i j)) = aload0 T h' t (.c (.ptr id i j)) := by simp only [aload0, hh id (by simp [refAV, refAC])]
      have h1 : tblIn T h t id = tblIn T h' t id := by simp only [tblIn, hh id (by simp [refAV, refAC])]
      have h2 : pickIn T h t id = pickIn T h' t id := by simp only [pickIn, hh id (by simp [refAV, refAC])]
      unfold aload
      cases j with
      | zero => simp only [h0, h1, h2]
      | succ j => exact h0
    | _ => simp [aload, aload0]
  | _ => simp [aload, aload0]

theorem shEq_cases {x y : Option ABlk} (h : shEq x y = true) : (x = none ∧ y = none) ∨ ∃ b b', x = some b ∧ y = some b' ∧ kindC b.c = kindC b'.c ∧ b.c.sz = b'.c.sz := by
  cases x with
  | none => cases y with
    | none => exact .inl ⟨rfl, rfl⟩
    | some b => cases h
  | some b => cases y with
    | none => cases h
    | some b' =>
      simp only [shEq, Bool.and_eq_true] at h
      exact .inr ⟨b, b', rfl, rfl, Nat.eq_of_beq_eq_true h.1, Nat.eq_of_beq_eq_true h.2⟩
theorem shEq_refl (x : Option ABlk) : shEq x x = true := by
  cases x with
  | none => rfl
  | some b => simp [shEq]

theorem alight_congr {G : Ctx} {o : Oper} {ρ ρ2 : Operand → AV} {h h' : AHeap} (hρ : ∀ x ∈ o.op.operands, ρ x = ρ2 x) (hh : ∀ id ∈ hardOf o ρ, h.at id = h'.at id) (hs : ∀ id ∈ softOf o ρ, shEq (h.at id) (h'.at id) = true) : alight G o ρ h = alight G o ρ2 h' := by
  obtain ⟨dst, op, type, pos, after, guard⟩ := o
  have hp : (∀ cs b, op ≠ .select cs b) → apure G.P ⟨dst, op, type, pos, after, guard⟩ ρ = apure G.P ⟨dst, op, type, pos, after, guard⟩ ρ2 := fun hs => apure_congr hs hρ
  cases op with
  | move x => simp only [alight, hρ x (by simp [Op.operands])]
  | assign x => simp only [alight, hρ x (by simp [Op.operands])]
  | pick c a b => simp only [alight, hρ a (by simp [Op.operands]), hρ b (by simp [Op.operands]), hρ c (by simp [Op.operands])]
  | load t a =>
    have ha := hρ a (by simp [Op.operands])
    simp only [alight]
    rw [aload_congr (h' := h') (fun id hid => hh id hid), ha]
  | nilCheck x => simp only [alight, hρ x (by simp [Op.operands]), hp (by simp)]
  | fieldAddr s x k => simp only [alight, hρ x (by simp [Op.operands])]
  | field s x k => simp only [alight, hρ x (by simp [Op.operands])]
  | indexAddr t x ix =>
    have hx := hρ x (by simp [Op.operands])
    have hix := hρ ix (by simp [Op.operands])
    simp only [alight, ← hx, ← hix]
    have key : ∀ id i n, ρ x = .c (.sl id i n) → shEq (h.at id) (h'.at id) = true := fun id i n e => hs id (by simp [softOf, e, refAV, refAC])
    have key2 : ∀ id i j, ρ x = .c (.ptr id i j) → shEq (h.at id) (h'.at id) = true := fun id i n e => hs id (by simp [softOf, e, refAV, refAC])
    split
    · rename_i e _ _ _ _ _ _ id i n _ k _ hx' _
      rcases shEq_cases (key _ _ _ hx') with ⟨h1, h2⟩ | ⟨b, b', h1, h2, _, h4⟩
      · rw [h1, h2]
      · rw [h1, h2]
        cases lookT G.T e with
        | none => rfl
        | some ti => simp only [h4]
    · rename_i mm e _ _ _ _ _ _ id i j _ k _ hx' _
      rcases shEq_cases (key2 _ _ _ hx') with ⟨h1, h2⟩ | ⟨b, b', h1, h2, h3, h4⟩
      · rw [h1, h2]
      · rw [h1, h2]
        obtain ⟨t1, o1, c1⟩ := b
        obtain ⟨t2, o2, c2⟩ := b'
        cases lookT G.T e with
        | none => rfl
        | some ti =>
          simp only at h3 h4 ⊢
          cases c1 <;> cases c2 <;> simp only [kindC, Cont.sz] at h3 h4 <;> first | (exact absurd h3 (by decide)) | rfl | (subst h4; rfl)
    · rfl
  | index t x ix => simp only [alight, hρ x (by simp [Op.operands]), hρ ix (by simp [Op.operands])]
  | slice t x lo hi mx =>
    have hx := hρ x (by simp [Op.operands])
    have hlo : ∀ y, lo = some y → ρ y = ρ2 y := fun y hy => hρ y (by subst hy; simp [Op.operands])
    have hhi : ∀ y, hi = some y → ρ y = ρ2 y := fun y hy => hρ y (by subst hy; simp [Op.operands])
    have key : ∀ id i n, ρ x = .c (.sl id i n) → shEq (h.at id) (h'.at id) = true := fun id i n e => hs id (by simp [softOf, e, refAV, refAC])
    cases lo with
    | none =>
      cases hi with
      | none =>
        simp only [alight, ← hx]
        split
        · rfl
        · rename_i e _ _ _ _ _ _ id i n _ hx'
          rcases shEq_cases (key _ _ _ hx') with ⟨h1, h2⟩ | ⟨b, b', h1, h2, _, h4⟩
          · rw [h1, h2]
          · rw [h1, h2]
            cases lookT G.T e with
            | none => rfl
            | some ti => simp only [h4]
        · rfl
      | some z =>
        simp only [alight, ← hx, ← hhi z rfl]
        split
        · rfl
        · rename_i e _ _ _ _ _ _ id i n _ hx'
          rcases shEq_cases (key _ _ _ hx') with ⟨h1, h2⟩ | ⟨b, b', h1, h2, _, h4⟩
          · rw [h1, h2]
          · rw [h1, h2]
            cases lookT G.T e with
            | none => rfl
            | some ti => simp only [h4]
        · rfl
    | some y =>
      cases hi with
      | none =>
        simp only [alight, ← hx, ← hlo y rfl]
        split
        · rfl
        · rename_i e _ _ _ _ _ _ id i n _ hx'
          rcases shEq_cases (key _ _ _ hx') with ⟨h1, h2⟩ | ⟨b, b', h1, h2, _, h4⟩
          · rw [h1, h2]
          · rw [h1, h2]
            cases lookT G.T e with
            | none => rfl
            | some ti => simp only [h4]
        · rfl
      | some z =>
        simp only [alight, ← hx, ← hhi z rfl, ← hlo y rfl]
        split
        · rfl
        · rename_i e _ _ _ _ _ _ id i n _ hx'
          rcases shEq_cases (key _ _ _ hx') with ⟨h1, h2⟩ | ⟨b, b', h1, h2, _, h4⟩
          · rw [h1, h2]
          · rw [h1, h2]
            cases lookT G.T e with
            | none => rfl
            | some ti => simp only [h4]
        · rfl
  | extract x k => simp only [alight, hρ x (by simp [Op.operands])]
  | build t ps =>
    have : (ps.toList.map fun p => (p.1, ρ p.2)) = (ps.toList.map fun p => (p.1, ρ2 p.2)) := List.map_congr_left fun p hp' => by
      rw [hρ p.2 (by simp only [Op.operands, List.mem_toArray, List.mem_map]; exact ⟨p, hp', rfl⟩)]
    simp only [alight, this]
  | binOp op t x y t' => simp only [alight, hρ x (by simp [Op.operands]), hρ y (by simp [Op.operands]), hp (by simp)]
  | unOp op t x => simp only [alight, hp (by simp)]
  | convert s d x =>
    have hx := hρ x (by simp [Op.operands])
    simp only [alight, ← hx, hp (by simp)]
    split
    · rename_i id i n hx'
      rw [hh id (by simp [hardOf, hx', refAV, refAC])]
    · rfl
  | makeInterface t x => simp only [alight, hp (by simp)]
  | call c =>
    obtain ⟨callee, args, ts⟩ := c
    cases callee with
    | value f => rfl
    | invoke r m => rfl
    | builtin b =>
      cases b with
      | len =>
        have : ∀ x, args.toList = [x] → ρ x = ρ2 x := fun x e => hρ x (by
          have hx : x ∈ args := by rw [← Array.mem_toList_iff, e]; simp
          simp [Op.operands, Call.operands, hx])
        simp only [alight]
        split
        · rename_i x t e _; rw [this x e, hp (by simp)]
        · rfl
      | max => simp only [alight, hp (by simp)]
      | min => simp only [alight, hp (by simp)]
      | _ => rfl
  | _ => rfl

theorem aheavy_congr {G : Ctx2} {o : Oper} {ρ ρ2 : Operand → AV} {h : AHeap} (hρ : ∀ x ∈ o.op.operands, ρ x = ρ2 x) : aheavy G o ρ h = aheavy G o ρ2 h := by
  obtain ⟨dst, op, type, pos, after, guard⟩ := o
  cases op with
  | box t x => simp only [aheavy, hρ x (by simp [Op.operands])]
  | buildSlice t len ps =>
    have : (ps.toList.map fun p => (p.1, ρ p.2)) = (ps.toList.map fun p => (p.1, ρ2 p.2)) := List.map_congr_left fun p hp' => by
      rw [hρ p.2 (by simp only [Op.operands, List.mem_toArray, List.mem_map]; exact ⟨p, hp', rfl⟩)]
    simp only [aheavy, this]
  | makeSlice t l c => simp only [aheavy, hρ l (by simp [Op.operands]), hρ c (by simp [Op.operands])]
  | store t p x => simp only [aheavy, hρ p (by simp [Op.operands]), hρ x (by simp [Op.operands])]
  | call c =>
    obtain ⟨callee, args, ts⟩ := c
    cases callee with
    | value f =>
      have : args.toList.map ρ = args.toList.map ρ2 := List.map_congr_left fun x hx => hρ x (by
        have hx' : x ∈ args := Array.mem_toList_iff.1 hx
        simp [Op.operands, Call.operands, hx'])
      simp only [aheavy, hρ f (by simp [Op.operands, Call.operands]), this]
    | invoke r m => rfl
    | builtin b =>
      cases b with
      | append =>
        simp only [aheavy]
        split
        · rename_i s x t t2 e _
          have hs : s ∈ args := by rw [← Array.mem_toList_iff, e]; simp
          have hx : x ∈ args := by rw [← Array.mem_toList_iff, e]; simp
          rw [hρ s (by simp [Op.operands, Call.operands, hs]), hρ x (by simp [Op.operands, Call.operands, hx])]
        · rfl
      | _ => rfl
  | _ => rfl

/-- What an operation does not name it does not turn. -/
theorem aheavy_keeps {G : Ctx2} {o : Oper} {ρ : Operand → AV} {h h' : AHeap} {v : AV} (he : (aheavy G o ρ h).eval = some (v, h')) : h.length ≤ h'.length ∧ ∀ id, id < h.length → id ∉ writesOf o ρ h → h'[id]? = h[id]? := by
  have snoc : ∀ {x : Option ABlk}, h.length ≤ (h ++ [x]).length ∧ ∀ id, id < h.length → (h ++ [x])[id]? = h[id]? := fun {x} => ⟨by simp, fun id hid => List.getElem?_append_left hid⟩
  unfold aheavy at he
  split at he
  · split at he
    · simp only [Tr.eval, Option.some.injEq, Prod.mk.injEq] at he
      obtain ⟨_, rfl⟩ := he
      exact ⟨snoc.1, fun id hid _ => snoc.2 id hid⟩
    · cases he
  · split at he
    · split at he
      · simp only [Tr.eval, Option.some.injEq, Prod.mk.injEq] at he
        obtain ⟨_, rfl⟩ := he
        exact ⟨snoc.1, fun id hid _ => snoc.2 id hid⟩
      · cases he
    · cases he
  · split at he
    · split at he
      · split at he
        · split at he
          · simp only [Tr.eval, Option.some.injEq, Prod.mk.injEq] at he
            obtain ⟨_, rfl⟩ := he
            exact ⟨snoc.1, fun id hid _ => snoc.2 id hid⟩
          · cases he
        · cases he
      · cases he
    · cases he
  · split at he
    · split at he
      · split at he
        · obtain ⟨_, he⟩ := Tr.eval_need.1 he
          obtain ⟨_, _, hv⟩ := need2 he
          simp only [Tr.eval, Option.some.injEq, Prod.mk.injEq] at hv
          obtain ⟨_, rfl⟩ := hv
          exact ⟨snoc.1, fun id hid _ => snoc.2 id hid⟩
        · cases he
      · cases he
    · cases he
  · rename_i t p x ho
    rw [Tr.eval_bind] at he
    cases hst : (astore G.T h t (ρ p) (ρ x)).eval with
    | none => simp [hst] at he
    | some h'' =>
      rw [hst] at he
      simp only [Option.bind_some, Tr.eval, Option.some.injEq, Prod.mk.injEq] at he
      obtain ⟨_, rfl⟩ := he
      have hset : ∃ id b, id ∈ refAV (ρ p) ∧ h'' = setAt h id b := by
        unfold astore at hst
        split at hst
        · rename_i id i j ti hp _
          have hm : id ∈ refAV (ρ p) := by simp [hp, refAV, refAC]
          split at hst
          · split at hst
            · split at hst
              · simp only [Tr.eval, Option.some.injEq] at hst; exact ⟨id, _, hm, hst.symm⟩
              · cases hst
            · split at hst
              · split at hst
                · simp only [Tr.eval, Option.some.injEq] at hst; exact ⟨id, _, hm, hst.symm⟩
                · cases hst
              · cases hst
            · split at hst
              · split at hst
                · obtain ⟨_, hst⟩ := Tr.eval_need.1 hst
                  simp only [Tr.eval, Option.some.injEq] at hst; exact ⟨id, _, hm, hst.symm⟩
                · cases hst
              · cases hst
            · split at hst
              · split at hst
                · obtain ⟨_, hst⟩ := Tr.eval_need.1 hst
                  simp only [Tr.eval, Option.some.injEq] at hst; exact ⟨id, _, hm, hst.symm⟩
                · cases hst
              · cases hst
          · cases hst
        · cases hst
      obtain ⟨id, b, hm, rfl⟩ := hset
      refine ⟨by simp [setAt], fun i hi hn => ?_⟩
      have hne : i ≠ id := fun e => hn (by rw [e]; simpa [writesOf, ho] using hm)
      exact List.getElem?_set_ne (fun e => hne e.symm)
  · rename_i args ts ho
    split at he
    · rename_i s x t t2 ha _
      unfold aappend at he
      split at he
      · split at he
        · split at he
          · rename_i hk c nn i m cs hdst _
            split at he
            · split at he
              · obtain ⟨_, he⟩ := Tr.eval_need.1 he
                obtain ⟨_, _, hv⟩ := need2 he
                simp only [Tr.eval, Option.some.injEq, Prod.mk.injEq] at hv
                obtain ⟨_, rfl⟩ := hv
                have hd : hk = h ∨ ∃ id, id ∈ refAV (ρ s) ∧ hk = h.set id none := by
                  unfold dstOf at hdst
                  split at hdst
                  · simp only [Option.some.injEq, Prod.mk.injEq] at hdst; exact .inl hdst.1.symm
                  · rename_i id n hs
                    split at hdst
                    · split at hdst
                      · simp only [Option.some.injEq, Prod.mk.injEq] at hdst
                        exact .inr ⟨id, by simp [hs, refAV, refAC], hdst.1.symm⟩
                      · cases hdst
                    · cases hdst
                  · cases hdst
                rcases hd with rfl | ⟨id, hm, rfl⟩
                · exact ⟨snoc.1, fun id hid _ => snoc.2 id hid⟩
                · refine ⟨by simp, fun i hi hn => ?_⟩
                  have hne : i ≠ id := fun e => hn (by rw [e]; simp [writesOf, ho, ha, hm])
                  rw [List.getElem?_append_left (by simpa using hi)]
                  exact List.getElem?_set_ne (fun e => hne e.symm)
              · cases he
            · cases he
          · cases he
        · cases he
      · cases he
    · cases he
  · rename_i f args ts ho
    split at he
    · split at he
      · rename_i F _
        rw [acall_def] at he
        simp only [Tr.eval_bind] at he
        obtain ⟨l, hRe, hRd, hRb⟩ := closeOf_ok h 10000 (refAVs (args.toList.map ρ)) []
        generalize hR : closeOf h 10000 (refAVs (args.toList.map ρ)) [] = R at he
        cases h1 : (F (renAVs (idxIn R) (args.toList.map ρ)) (subHeap h R)).eval with
        | none => rw [h1] at he; simp at he
        | some r =>
          rw [h1] at he
          simp only [Option.bind_some, Tr.eval, Option.some.injEq, Prod.mk.injEq] at he
          obtain ⟨_, rfl⟩ := he
          refine ⟨by simp [mergeIn], fun i hi hn => ?_⟩
          have hni : i ∉ R := by rw [← hR]; simpa [writesOf, ho] using hn
          unfold mergeIn
          rw [List.getElem?_append_left (by simpa using hi), List.getElem?_map, List.getElem?_range hi]
          simp only [Option.map_some]
          rw [if_neg (by simpa using hni)]
          rw [List.getElem?_eq_getElem hi]
          rfl
      · cases he
    · cases he
  · cases he
end
section
open Go Go.RowKit

/-- The place of a block that is not there yet: nothing leads to it. -/
def mark : Pl := ⟨none, 1, 0⟩
def ExtM (m m' : List Pl) : Prop := m.length ≤ m'.length ∧ ∀ (id : Nat) p, m[id]? = some p → p = mark ∨ m'[id]? = some p

theorem CR.extM {m m' : List Pl} (h : ExtM m m') {c : AC} {y : Value} (hr : CR m c y) : CR m' c y := by
  cases c with
  | any => trivial
  | v x => exact hr
  | ptr id i j =>
    obtain ⟨p, A, hp, hA, rest⟩ := hr
    rcases h.2 _ _ hp with rfl | h1
    · cases hA
    · exact ⟨p, A, h1, hA, rest⟩
  | sl id i n =>
    obtain ⟨p, A', c', hp, hy, ⟨hn, hnil⟩, hz, hpos⟩ := hr
    rcases h.2 _ _ hp with rfl | h1
    · have hn0 : n = 0 := by
        rcases Nat.eq_zero_or_pos n with h0 | h0
        · exact h0
        · obtain ⟨A, hA, _⟩ := hpos h0
          cases hA
      subst hn0
      have hi : i ≠ 0 := by
        intro e
        obtain ⟨h1, h2⟩ := hz e
        have h3 := hnil h1
        rw [h2] at h3
        cases h3
      have hlt : id < m'.length := Nat.lt_of_lt_of_le (List.getElem?_eq_some_iff.1 hp).1 h.1
      exact ⟨m'[id], A', c', List.getElem?_eq_getElem hlt, hy, ⟨hn, hnil⟩, fun e => absurd e hi, fun h => absurd h (Nat.lt_irrefl _)⟩
    · exact ⟨p, A', c', h1, hy, ⟨hn, hnil⟩, hz, hpos⟩
mutual
theorem VR.imp {m m' : List Pl} (h : ∀ c y, CR m c y → CR m' c y) : ∀ {v : AV} {y : Value}, VR m v y → VR m' v y
  | .c x, y, hr => by simp only [VR] at hr ⊢; exact h _ _ hr
  | .agg l, y, hr => by simp only [VR] at hr ⊢; obtain ⟨cs, e, hF⟩ := hr; exact ⟨cs, e, hF.imp fun a b => h a b⟩
  | .arr n f, y, hr => by simp only [VR] at hr ⊢; exact hr
  | .tup l, y, hr => by simp only [VR] at hr ⊢; obtain ⟨vs, e, hF⟩ := hr; exact ⟨vs, e, VRs.imp h hF⟩
theorem VRs.imp {m m' : List Pl} (h : ∀ c y, CR m c y → CR m' c y) : ∀ {l : List AV} {k : List Value}, VRs m l k → VRs m' l k
  | [], [], _ => by simp [VRs]
  | [], _ :: _, hr => by simp [VRs] at hr
  | _ :: _, [], hr => by simp [VRs] at hr
  | x :: l, y :: k, hr => by simp only [VRs] at hr ⊢; exact ⟨VR.imp h hr.1, VRs.imp h hr.2⟩
end
theorem BR.imp {B : Nat} {m m' : List Pl} {b : ABlk} {p : Pl} {w : World} (hb : BR B m b p w) (he : ∀ (i j : Nat) c x, i < b.c.n → (b.c.el i)[j]? = some c → CR m c x → CR m' c x) : BR B m' b p w :=
  { sz := hb.sz, len := hb.len, cap := hb.cap,
    cell := fun i j c hi hc => by
      obtain ⟨A, x, hA, hs, hx, hr, h1⟩ := hb.cell i j c hi hc
      exact ⟨A, x, hA, hs, hx, he i j c x hi hc hr, h1⟩
    own := hb.own, came := hb.came }

structure Nul (N : Nat → Prop) (h k : AHeap) : Prop where
  len : k.length = h.length
  off : ∀ id, N id → k[id]? = some none
  on : ∀ id, ¬ N id → k[id]? = h[id]?

section
variable {N : Nat → Prop} {h k h' : AHeap}
theorem Nul.at_ (H : Nul N h k) {id : Nat} (hn : ¬ N id) : k.at id = h.at id := by
  unfold AHeap.at
  rw [H.on id hn]
theorem Nul.lt (H : Nul N h k) {id : Nat} (hn : N id) : id < h.length := by
  rw [← H.len]
  exact (List.getElem?_eq_some_iff.1 (H.off id hn)).1
theorem Nul.set (H : Nul N h k) {id : Nat} (hn : ¬ N id) (b : Option ABlk) : Nul N (h.set id b) (k.set id b) := by
  refine ⟨by simp [H.len], fun i hi => ?_, fun i hi => ?_⟩
  · have hne : id ≠ i := fun e => hn (e ▸ hi)
    rw [List.getElem?_set_ne hne]
    exact H.off i hi
  · by_cases e : id = i
    · subst e
      simp [List.getElem?_set, H.len, H.on id hn]
    · rw [List.getElem?_set_ne e, List.getElem?_set_ne e]
      exact H.on i hi
theorem Nul.app (H : Nul N h k) (l : AHeap) : Nul N (h ++ l) (k ++ l) := by
  refine ⟨by simp [H.len], fun i hi => ?_, fun i hi => ?_⟩
  · have hlt : i < k.length := by rw [H.len]; exact H.lt hi
    rw [List.getElem?_append_left hlt]
    exact H.off i hi
  · rw [List.getElem?_append, List.getElem?_append, H.len, H.on i hi]

theorem astore_nul {T : List TI} {t : TypeId} {p x : AV} (H : Nul N h k) (hr : ∀ id ∈ refAV p, ¬ N id) (he : (astore T h t p x).eval = some h') : ∃ k', (astore T k t p x).eval = some k' ∧ Nul N h' k' := by
  unfold astore at he
  split at he
  · rename_i id i j ti hti
    have hn : ¬ N id := hr id (by simp [refAV, refAC])
    have hat := H.at_ hn
    unfold astore
    simp only [hti]
    rw [hat]
    split at he
    · rename_i bt c hat2
      split at he
      · split at he
        · rename_i hc
          simp only [Tr.eval, Option.some.injEq] at he
          subst he
          rw [if_pos hc]
          exact ⟨_, rfl, H.set hn _⟩
        · cases he
      · split at he
        · rename_i cs hcs
          split at he
          · rename_i hc
            simp only [Tr.eval, Option.some.injEq] at he
            subst he
            rw [if_pos hc]
            exact ⟨_, rfl, H.set hn _⟩
          · cases he
        · cases he
      · rename_i sz n f hnot
        split at he
        · rename_i cs hcs
          split at he
          · rename_i hc
            obtain ⟨h1, he⟩ := Tr.eval_need.1 he
            simp only [Tr.eval, Option.some.injEq] at he
            subst he
            rw [if_pos hc]
            exact ⟨_, Tr.eval_need.2 ⟨h1, rfl⟩, H.set hn _⟩
          · cases he
        · cases he
      · split at he
        · rename_i cs hcs
          split at he
          · rename_i hc
            obtain ⟨h1, he⟩ := Tr.eval_need.1 he
            simp only [Tr.eval, Option.some.injEq] at he
            subst he
            rw [if_pos hc]
            exact ⟨_, Tr.eval_need.2 ⟨h1, rfl⟩, H.set hn _⟩
          · cases he
        · cases he
    · cases he
  · cases he

theorem srcOf_nul {ti : TI} {x : AV} (H : Nul N h k) (hr : ∀ id ∈ refAV x, ¬ N id) : srcOf k ti x = srcOf h ti x := by
  unfold srcOf
  split
  · rename_i id i n
    rw [H.at_ (hr id (by simp [refAV, refAC]))]
  · rfl
  · rfl
  · rfl
theorem dstOf_nul {ti : TI} {x : AV} {c : Cont} {nn : Nat} (H : Nul N h k) (hr : ∀ id ∈ refAV x, ¬ N id) (he : dstOf h ti x = some (h', c, nn)) : ∃ k', dstOf k ti x = some (k', c, nn) ∧ Nul N h' k' := by
  unfold dstOf at he
  split at he
  · simp only [Option.some.injEq, Prod.mk.injEq] at he
    obtain ⟨rfl, rfl, rfl⟩ := he
    exact ⟨k, rfl, H⟩
  · rename_i id n
    have hn : ¬ N id := hr id (by simp [refAV, refAC])
    unfold dstOf
    simp only
    rw [H.at_ hn]
    split at he
    · split at he
      · rename_i hc
        simp only [Option.some.injEq, Prod.mk.injEq] at he
        obtain ⟨rfl, rfl, rfl⟩ := he
        rw [if_pos hc]
        exact ⟨_, rfl, H.set hn _⟩
      · cases he
    · cases he
  · cases he
theorem aappend_nul {T : List TI} {t t2 : TypeId} {s x : AV} {v : AV} (H : Nul N h k) (hs : ∀ id ∈ refAV s, ¬ N id) (hx : ∀ id ∈ refAV x, ¬ N id) (he : (aappend T h t t2 s x).eval = some (v, h')) :
    ∃ k', (aappend T k t t2 s x).eval = some (v, k') ∧ Nul N h' k' := by
  unfold aappend at he ⊢
  split at he
  · split at he
    · split at he
      · rename_i hk c nn i mm cs hdst hsrc
        obtain ⟨k1, hd, hN⟩ := dstOf_nul H hs hdst
        have hsr := hsrc
        rw [← srcOf_nul H hx] at hsr
        simp only [hd, hsr]
        split at he
        · rename_i hsz
          rw [if_pos hsz]
          split at he
          · rename_i c' hj
            obtain ⟨h1, he⟩ := Tr.eval_need.1 he
            obtain ⟨h2, h3, hv⟩ := need2 he
            simp only [Tr.eval, Option.some.injEq, Prod.mk.injEq] at hv
            obtain ⟨rfl, rfl⟩ := hv
            refine ⟨k1 ++ [some ⟨_, true, c'⟩], ?_, hN.app _⟩
            rw [H.len]
            exact Tr.eval_need.2 ⟨h1, Tr.eval_need.2 ⟨h2, Tr.eval_need.2 ⟨h3, rfl⟩⟩⟩
          · cases he
        · cases he
      · cases he
    · cases he
  · cases he
theorem closeOf_nul (H : Nul N h k) : ∀ (f : Nat) (todo acc : List Nat), (∀ id ∈ closeOf h f todo acc, ¬ N id) → closeOf k f todo acc = closeOf h f todo acc
  | 0, _, _, _ => rfl
  | _ + 1, [], _, _ => rfl
  | f + 1, id :: todo, acc, hn => by
    simp only [closeOf] at hn ⊢
    rw [H.len]
    split at hn
    · rename_i hc
      rw [if_pos hc, if_pos hc]
      exact closeOf_nul H f todo acc hn
    · rename_i hc
      rw [if_neg hc, if_neg hc]
      have hid : ¬ N id := by
        obtain ⟨l, e, _, _⟩ := closeOf_ok h f (todo ++ refB (h[id]?).join) (acc ++ [id])
        refine hn id ?_
        rw [e]
        simp
      rw [H.on id hid]
      exact closeOf_nul H f _ _ hn
theorem mergeIn_nul {R : List Nat} {hs : AHeap} (H : Nul N h k) (hR : ∀ id ∈ R, ¬ N id) : Nul N (mergeIn h R hs) (mergeIn k R hs) := by
  unfold mergeIn
  rw [H.len]
  refine Nul.app ⟨by simp, fun i hi => ?_, fun i hi => ?_⟩ _
  · have hlt := H.lt hi
    rw [List.getElem?_map, List.getElem?_range hlt, Option.map_some]
    have hc : R.contains i = false := by
      cases hc : R.contains i with
      | false => rfl
      | true => exact absurd hi (hR i (by simpa using hc))
    rw [if_neg (by rw [hc]; simp), H.off i hi]
    rfl
  · rw [List.getElem?_map, List.getElem?_map]
    rcases Nat.lt_or_ge i h.length with hlt | hge
    · rw [List.getElem?_range hlt]
      simp only [Option.map_some]
      rw [H.on i hi]
    · rw [List.getElem?_eq_none (by simpa using hge)]
      rfl
theorem acall_nul {F : Spec} {args : List AV} {v : AV} (H : Nul N h k) (hr : ∀ id ∈ closeOf h 10000 (refAVs args) [], ¬ N id) (he : (acall F args h).eval = some (v, h')) : ∃ k', (acall F args k).eval = some (v, k') ∧ Nul N h' k' := by
  have hc := closeOf_nul H 10000 (refAVs args) [] hr
  rw [acall_def] at he ⊢
  simp only [hc]
  generalize closeOf h 10000 (refAVs args) [] = R at he hr
  have hsub : subHeap k R = subHeap h R := List.map_congr_left fun id hid => by rw [H.on id (hr id hid)]
  rw [hsub]
  simp only [Tr.eval_bind] at he ⊢
  cases hs0 : (F (renAVs (idxIn R) args) (subHeap h R)).eval with
  | none => rw [hs0] at he; simp at he
  | some rh =>
    rw [hs0] at he
    simp only [Option.bind_some, Tr.eval, Option.some.injEq, Prod.mk.injEq] at he ⊢
    obtain ⟨rfl, rfl⟩ := he
    exact ⟨_, ⟨by rw [H.len], rfl⟩, mergeIn_nul H hr⟩
theorem refAVs_mem {x : AV} : ∀ {l : List AV}, x ∈ l → ∀ id ∈ refAV x, id ∈ refAVs l
  | [], h, _, _ => by cases h
  | y :: l, h, id, hid => by
    simp only [refAVs, List.mem_append]
    rcases List.mem_cons.1 h with rfl | h
    · exact .inl hid
    · exact .inr (refAVs_mem h id hid)
/-- Whatever is loud and looks at no block that is not there comes to the same without them. -/
theorem aheavy_nul {G : Ctx2} {o : Oper} {ρ : Operand → AV} {v : AV} (H : Nul N h k) (hq : isQuiet o.op = false) (hr : ∀ id ∈ reachOf o ρ h, ¬ N id) (he : (aheavy G o ρ h).eval = some (v, h')) : ∃ k', (aheavy G o ρ k).eval = some (v, k') ∧ Nul N h' k' := by
  unfold aheavy at he ⊢
  split at he
  · rename_i t ho; simp [ho, isQuiet] at hq
  · rename_i t x ho; simp [ho, isQuiet] at hq
  · rename_i t l ps ho; simp [ho, isQuiet] at hq
  · rename_i t l c ho; simp [ho, isQuiet] at hq
  · rename_i t p x ho
    rw [Tr.eval_bind] at he ⊢
    cases hst : (astore G.T h t (ρ p) (ρ x)).eval with
    | none => simp [hst] at he
    | some h'' =>
      rw [hst] at he
      simp only [Option.bind_some, Tr.eval, Option.some.injEq, Prod.mk.injEq] at he
      obtain ⟨rfl, rfl⟩ := he
      obtain ⟨k', h1, h2⟩ := astore_nul H (fun id hid => hr id (by simpa [reachOf, ho] using hid)) hst
      rw [h1]
      exact ⟨k', rfl, h2⟩
  · rename_i args ts ho
    split at he
    · rename_i s x t t2 ha hts
      refine aappend_nul H (fun id hid => hr id ?_) (fun id hid => hr id ?_) he
      · simp only [reachOf, ho]; exact refAVs_mem (x := ρ s) (by rw [ha]; simp) id hid
      · simp only [reachOf, ho]; exact refAVs_mem (x := ρ x) (by rw [ha]; simp) id hid
    · cases he
  · rename_i f args ts ho
    split at he
    · rename_i kk hf
      split at he
      · rename_i F hF
        exact acall_nul H (fun id hid => hr id (by simpa [reachOf, ho] using hid)) he
      · cases he
    · cases he
  · cases he
end
end
section
open Go Go.RowKit

theorem CR.refs {m : List Pl} {c : AC} {y : Value} (h : CR m c y) : ∀ id ∈ refAC c, id < m.length := by
  intro id hid
  cases c with
  | any => simp [refAC] at hid
  | v x => simp [refAC] at hid
  | ptr i a b =>
    simp only [refAC, List.mem_singleton] at hid
    subst hid
    obtain ⟨p, _, hp, _⟩ := h
    exact (List.getElem?_eq_some_iff.1 hp).1
  | sl i a b =>
    simp only [refAC, List.mem_singleton] at hid
    subst hid
    obtain ⟨p, _, _, hp, _⟩ := h
    exact (List.getElem?_eq_some_iff.1 hp).1
mutual
theorem VR.refs {m : List Pl} : ∀ {v : AV} {y : Value}, VR m v y → ∀ id ∈ refAV v, id < m.length
  | .c x, y, h, id, hid => CR.refs (by simpa only [VR] using h) id (by simpa [refAV] using hid)
  | .agg l, y, h, id, hid => by
    simp only [VR] at h
    obtain ⟨cs, _, hF⟩ := h
    simp only [refAV, List.mem_flatMap] at hid
    obtain ⟨c, hc, hid⟩ := hid
    obtain ⟨q, hq⟩ := List.getElem?_of_mem hc
    obtain ⟨z, _, hr⟩ := hF.get q c hq
    exact hr.refs id hid
  | .arr n f, y, h, id, hid => by simp [refAV] at hid
  | .tup l, y, h, id, hid => by
    simp only [VR] at h
    obtain ⟨vs, _, hF⟩ := h
    exact VRs.refs hF id (by simpa [refAV] using hid)
theorem VRs.refs {m : List Pl} : ∀ {l : List AV} {k : List Value}, VRs m l k → ∀ id ∈ refAVs l, id < m.length
  | [], _, _, id, hid => by simp [refAVs] at hid
  | x :: l, [], h, _, _ => by simp [VRs] at h
  | x :: l, y :: k, h, id, hid => by
    simp only [VRs] at h
    simp only [refAVs, List.mem_append] at hid
    rcases hid with hid | hid
    · exact VR.refs h.1 id hid
    · exact VRs.refs h.2 id hid
end

/-- What leads to a new block. -/
inductive Mk where
  | ptr
  | sl (n : Nat)
def Mk.av (id : Nat) : Mk → AV
  | .ptr => .c (.ptr id 0 0)
  | .sl n => .c (.sl id 0 n)

theorem cellsOf_refs {x : AV} {l : List AC} (h : cellsOf x = some l) : ∀ c ∈ l, ∀ id ∈ refAC c, id ∈ refAV x := by
  unfold cellsOf at h
  split at h
  · split at h
    · simp only [Option.some.injEq] at h
      subst h
      intro c hc id hid
      simp only [List.mem_singleton] at hc
      subst hc
      exact hid
    · cases h
  · split at h
    · simp only [Option.some.injEq] at h
      subst h
      intro c hc id hid
      exact List.mem_flatMap.2 ⟨c, hc, hid⟩
    · cases h
  · cases h
theorem partsSl_refs {ρ : Operand → AV} : ∀ {ps : List (Nat × Operand)} {s i : Nat} {l : List (List AC)}, partsSl (ps.map fun p => (p.1, ρ p.2)) s i = some l → ∀ x ∈ l, ∀ c ∈ x, ∀ id ∈ refAC c, ∃ p ∈ ps, id ∈ refAV (ρ p.2)
  | [], s, i, l, h => by simp [partsSl] at h; subst h; simp
  | p :: ps, s, i, l, h => by
    simp only [List.map_cons, partsSl] at h
    split at h
    · rename_i lx r hcx hpr
      split at h
      · simp only [Option.some.injEq] at h
        subst h
        intro x hx c hc id hid
        rcases List.mem_cons.1 hx with rfl | hx
        · exact ⟨p, by simp, cellsOf_refs hcx c hc id hid⟩
        · obtain ⟨q, hq, h1⟩ := partsSl_refs hpr x hx c hc id hid
          exact ⟨q, by simp [hq], h1⟩
      · cases h
    · cases h

theorem quiet_form {G : Ctx2} {o : Oper} {ρ : Operand → AV} {h h' : AHeap} {v : AV} (hq : isQuiet o.op = true) (he : (aheavy G o ρ h).eval = some (v, h')) :
    ∃ (b : ABlk) (mk : Mk), h' = h ++ [some b] ∧ v = mk.av h.length ∧ (∀ k : AHeap, (aheavy G o ρ k).eval = some (mk.av k.length, k ++ [some b])) ∧
      ∀ (i j : Nat) c, i < b.c.n → (b.c.el i)[j]? = some c → ∀ id ∈ refAC c, ∃ x ∈ o.op.operands, id ∈ refAV (ρ x) := by
  have flat : ∀ (l : List Value) (j : Nat) c, (ofCells l)[j]? = some c → ∀ id ∈ refAC c, False := by
    intro l j c hc id hid
    simp only [ofCells, List.getElem?_map, Option.map_eq_some_iff] at hc
    obtain ⟨x, _, rfl⟩ := hc
    simp [refAC] at hid
  unfold aheavy at he
  split at he
  · rename_i t ho
    split at he
    · rename_i ti hti
      simp only [Tr.eval, Option.some.injEq, Prod.mk.injEq] at he
      obtain ⟨rfl, rfl⟩ := he
      refine ⟨_, .ptr, rfl, rfl, fun k => by simp only [aheavy, ho, hti]; rfl, ?_⟩
      intro i j c hi hc id hid
      exfalso
      simp only [zeroCont] at hc
      split at hc
      · exact flat _ j c hc id hid
      · exact flat _ j c hc id hid
    · cases he
  · rename_i t x ho
    split at he
    · rename_i ti hti
      split at he
      · rename_i c0 hc0
        simp only [Tr.eval, Option.some.injEq, Prod.mk.injEq] at he
        obtain ⟨rfl, rfl⟩ := he
        refine ⟨_, .ptr, rfl, rfl, fun k => by simp only [aheavy, ho, hti, hc0]; rfl, ?_⟩
        intro i j c hi hc id hid
        unfold newBlk at hc0
        split at hc0
        · split at hc0
          · simp only [Option.some.injEq] at hc0
            subst hc0
            exact (flat _ j c hc id hid).elim
          · cases hc0
        · cases hc0
        · cases hl : cellsOf (ρ x) with
          | none => simp [hl] at hc0
          | some l =>
            rw [hl] at hc0
            simp only [Option.bind_some] at hc0
            split at hc0
            · simp only [Option.some.injEq] at hc0
              subst hc0
              exact ⟨x, by simp [ho, Op.operands], cellsOf_refs hl c (List.mem_of_getElem? hc) id hid⟩
            · cases hc0
      · cases he
    · cases he
  · rename_i t len ps ho
    split at he
    · rename_i e _ _ _ _ _ _ ht
      split at he
      · rename_i ti hti
        split at he
        · rename_i l hl
          split at he
          · rename_i hc
            simp only [Tr.eval, Option.some.injEq, Prod.mk.injEq] at he
            obtain ⟨rfl, rfl⟩ := he
            refine ⟨_, .sl len, rfl, rfl, fun k => by simp only [aheavy, ho, ht, hti, hl]; rw [if_pos hc]; rfl, ?_⟩
            intro i j c hi hc id hid
            have hi' : i < l.length := hi
            have hce : l[i][j]? = some c := by simpa [Cont.el, List.getD_eq_getElem?_getD, hi'] using hc
            obtain ⟨p, hp, h1⟩ := partsSl_refs hl l[i] (List.getElem_mem hi') c (List.mem_of_getElem? hce) id hid
            exact ⟨p.2, by simp only [ho, Op.operands, List.mem_toArray, List.mem_map]; exact ⟨p, hp, rfl⟩, h1⟩
          · cases he
        · cases he
      · cases he
    · cases he
  · rename_i t l c ho
    split at he
    · rename_i e _ _ _ _ _ _ k1 n k2 n' ht hl hc
      split at he
      · rename_i ti hti
        split at he
        · rename_i hf
          obtain ⟨h1, he⟩ := Tr.eval_need.1 he
          obtain ⟨h2, h3, hv⟩ := need2 he
          simp only [Tr.eval, Option.some.injEq, Prod.mk.injEq] at hv
          obtain ⟨rfl, rfl⟩ := hv
          refine ⟨_, .sl n.toNat, rfl, rfl, fun k => ?_, ?_⟩
          · simp only [aheavy, ho, ht, hl, hc, hti]
            rw [if_pos hf]
            exact Tr.eval_need.2 ⟨h1, Tr.eval_need.2 ⟨h2, Tr.eval_need.2 ⟨h3, rfl⟩⟩⟩
          · intro i j c hi hc id hid
            exact (flat _ j c hc id hid).elim
        · cases he
      · cases he
    · cases he
  · rename_i t p x ho; simp [ho, isQuiet] at hq
  · rename_i args ts ho; simp [ho, isQuiet] at hq
  · rename_i f args ts ho; simp [ho, isQuiet] at hq
  · cases he

section
variable {G : Ctx2} {o : Oper} {m : List Pl} {h h' k : AHeap} {w : World} {B : Nat} {a : Act} {v : AV} {ρ : Operand → AV}

theorem quiet_put (hG : XOk G) (hρ : OpsOk m ρ a.eval) (H : HR B m k w) (hB : B ≤ w.heap.size) {b : ABlk} {mk : Mk} (hk : (aheavy G o ρ k).eval = some (mk.av k.length, k ++ [some b]))
    (hrefs : ∀ (i j : Nat) c, i < b.c.n → (b.c.el i)[j]? = some c → ∀ id ∈ refAC c, ∃ x ∈ o.op.operands, id ∈ refAV (ρ x)) {id : Nat} (hid : k[id]? = some none) (hm : m[id]? = some mark)
    (K : Act → World → Prop) (Q : Exit → Act → World → Prop) (hK : ∀ p x w', HR B (m.set id p) (k.set id (some b)) w' → ExtM m (m.set id p) → Fr (Own m k) w w' → (∀ q, Own (m.set id p) (k.set id (some b)) q → Own m k q ∨ w.heap.size ≤ q) →
      VR (m.set id p) (mk.av id) x → K (a.put o.dst x) w') : o.wp G.P a w K Q := by
  refine heavy_ok hG hρ H hB hk K Q fun m' x w' hst hv => ?_
  have hlen : m'.length = m.length + 1 := by rw [hst.hr.len, H.len]; simp
  have hidm : id < m.length := (List.getElem?_eq_some_iff.1 hm).1
  have hidk : id < k.length := by rw [← H.len]; exact hidm
  have hpl : m.length < m'.length := by omega
  generalize hp : m'[m.length] = p
  have hpk : m'[k.length]? = some p := by rw [← H.len, List.getElem?_eq_getElem hpl, hp]
  have hold : ∀ i, i < m.length → m'[i]? = m[i]? := fun i hi => by
    rw [List.getElem?_eq_getElem hi]
    exact hst.ext i _ (List.getElem?_eq_getElem hi)
  have hne : ∀ i, i ≠ id → (m.set id p)[i]? = m[i]? := fun i hi => List.getElem?_set_ne (fun e => hi e.symm)
  have heq : (m.set id p)[id]? = some p := List.getElem?_set_self hidm
  have hkne : ∀ i, i ≠ id → (k.set id (some b))[i]? = k[i]? := fun i hi => List.getElem?_set_ne (fun e => hi e.symm)
  have hkeq : (k.set id (some b))[id]? = some (some b) := List.getElem?_set_self hidk
  have hext : ExtM m (m.set id p) := by
    refine ⟨by simp, fun i q hq => ?_⟩
    by_cases e : i = id
    · subst e
      rw [hm] at hq
      cases hq
      exact .inl rfl
    · exact .inr (by rw [hne i e]; exact hq)
  have back : ∀ c y, (∀ i ∈ refAC c, i < m.length) → CR m' c y → CR (m.set id p) c y := by
    intro c y hr hc
    refine CR.extM hext ?_
    cases c with
    | any => trivial
    | v x => exact hc
    | ptr i _ _ =>
      obtain ⟨q, A, hq, rest⟩ := hc
      rw [hold i (hr i (by simp [refAC]))] at hq
      exact ⟨q, A, hq, rest⟩
    | sl i _ _ =>
      obtain ⟨q, A, c', hq, rest⟩ := hc
      rw [hold i (hr i (by simp [refAC]))] at hq
      exact ⟨q, A, c', hq, rest⟩
  -- where a block stood
  have at' : ∀ {i : Nat} {b1 : ABlk} {q : Pl}, (k.set id (some b))[i]? = some (some b1) → (m.set id p)[i]? = some q →
      ∃ i', (k ++ [some b])[i']? = some (some b1) ∧ m'[i']? = some q ∧ ((i = id ∧ i' = k.length) ∨ (i ≠ id ∧ i' = i ∧ i < k.length)) := by
    intro i b1 q hb hq
    by_cases e : i = id
    · subst e
      rw [hkeq] at hb
      rw [heq] at hq
      cases hb
      cases hq
      exact ⟨k.length, by simp, hpk, .inl ⟨rfl, rfl⟩⟩
    · rw [hkne i e] at hb
      rw [hne i e] at hq
      have hlt : i < k.length := (List.getElem?_eq_some_iff.1 hb).1
      exact ⟨i, by rw [List.getElem?_append_left hlt]; exact hb, by rw [hold i (by rw [H.len]; exact hlt)]; exact hq, .inr ⟨e, rfl, hlt⟩⟩
  refine hK p x w' { len := by simp [H.len], blk := ?_, apart := ?_ } hext hst.fr ?_ ?_
  · intro i b1 q hb hq
    obtain ⟨i', hb', hq', hor⟩ := at' hb hq
    have hbr := hst.hr.blk i' b1 q hb' hq'
    refine hbr.imp fun a1 j c y hi hc hcr => back c y ?_ hcr
    rcases hor with ⟨rfl, rfl⟩ | ⟨hi1, rfl, hlt⟩
    · have : b1 = b := by rw [hkeq] at hb; cases hb; rfl
      subst this
      intro r hr
      obtain ⟨x1, _, hx1⟩ := hrefs a1 j c hi hc r hr
      exact VR.refs (hρ x1) r hx1
    · rw [hkne i' hi1] at hb
      rw [hne i' hi1] at hq
      obtain ⟨_, _, _, _, _, hcr0, _⟩ := (H.blk i' b1 q hb hq).cell a1 j c hi hc
      exact hcr0.refs
  · intro i j b1 b2 q1 q2 A1 A2 hij hb1 hb2 ho1 ho2 hq1 hq2 hA1 hA2
    obtain ⟨i', hb1', hq1', hor1⟩ := at' hb1 hq1
    obtain ⟨j', hb2', hq2', hor2⟩ := at' hb2 hq2
    refine hst.hr.apart i' j' b1 b2 q1 q2 A1 A2 ?_ hb1' hb2' ho1 ho2 hq1' hq2' hA1 hA2
    rcases hor1 with ⟨rfl, rfl⟩ | ⟨_, rfl, h1⟩ <;> rcases hor2 with ⟨rfl, rfl⟩ | ⟨_, rfl, h2⟩
    · exact absurd rfl hij
    · omega
    · omega
    · exact hij
  · intro q hq
    obtain ⟨i, b1, q1, A, hb1, ho1, hq1, hA, rfl⟩ := hq
    obtain ⟨i', hb1', hq1', _⟩ := at' hb1 hq1
    exact hst.own _ ⟨i', b1, q1, A, hb1', ho1, hq1', hA, rfl⟩
  · cases mk with
    | ptr =>
      have hv' : CR m' (.ptr k.length 0 0) x := hv
      obtain ⟨q, A, hq, rest⟩ := hv'
      rw [hpk] at hq
      cases hq
      exact ⟨p, A, heq, rest⟩
    | sl n =>
      have hv' : CR m' (.sl k.length 0 n) x := hv
      obtain ⟨q, A, c', hq, rest⟩ := hv'
      rw [hpk] at hq
      cases hq
      exact ⟨p, A, c', heq, rest⟩
end
end
end Go.Proofs.Ytcpahifgdppkbaa.QAI
