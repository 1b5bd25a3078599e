/- The operations that make memory or write it: new variables, literals, stores. -/
import Derived.Test.YtcpahifgdppkbaaA6
import Derived.Laws.MakeOwn
set_option linter.unusedVariables false
set_option linter.unusedSimpArgs false
namespace Go.Proofs.Ytcpahifgdppkbaa.QAI
open Go Go.RowKit

/-- What a step makes of the memory. -/
structure Step (B : Nat) (m : List Pl) (h : AHeap) (w : World) (m' : List Pl) (h' : AHeap) (w' : World) : Prop where
  ext : Ext m m'
  hr : HR B m' h' w'
  fr : Fr (Own m h) w w'
  own : ∀ k, Own m' h' k → Own m h k ∨ w.heap.size ≤ k

theorem Step.refl {B : Nat} {m : List Pl} {h : AHeap} {w : World} (H : HR B m h w) : Step B m h w m h w := ⟨Ext.refl _, H, Fr.refl _ _, fun _ h => .inl h⟩
theorem Step.trans {B : Nat} {m m' m'' : List Pl} {h h' h'' : AHeap} {w w' w'' : World} (s : Step B m h w m' h' w') (t : Step B m' h' w' m'' h'' w'') : Step B m h w m'' h'' w'' :=
  ⟨s.ext.trans t.ext, t.hr, s.fr.trans t.fr fun i hi => s.own i hi, fun k hk => (t.own k hk).elim (s.own k) fun hle => .inr (Nat.le_trans s.fr.size hle)⟩

section
variable {G : Ctx2} {o : Oper} {ρ : Operand → AV} {ρ' : Operand → Value} {h h' : AHeap} {w : World} {B : Nat} {m : List Pl} {v : AV}

def HOk (P : Program) (B : Nat) (m : List Pl) (h : AHeap) (w : World) (ρ' : Operand → Value) (o : Oper) (v : AV) (h' : AHeap) : Prop :=
  ∃ x w' m', ((execOp ρ' o).run P w = .ok (.value x) w' ∨ ((execOp ρ' o).run P w = .ok .skip w' ∧ x = undef)) ∧ Step B m h w m' h' w' ∧ VR m' v x

theorem run_newVar {P : Program} {t : TypeId} {x : Value} : (newVar t x).run P w = .ok ⟨w.heap.size, 0, none⟩ (w.alloc (.cells x.cells t)) := by
  rfl
theorem run_newRow {P : Program} {t : TypeId} {cs : Array Value} : (newRow t cs).run P w = .ok ⟨w.heap.size, 0, none⟩ (w.alloc (.cells cs t)) := by
  rfl

theorem newPtr (H : HR B m h w) (hB : B ≤ w.heap.size) {t : TypeId} {c : Cont} {cs : Array Value} (hlen : ∀ i, i < c.n → (c.el i).length = c.sz) (hsz : cs.size = c.n * c.sz)
    (hcell : ∀ (i j : Nat) a, i < c.n → (c.el i)[j]? = some a → ∃ x, cs[i * c.sz + j]? = some x ∧ CR m a x ∧ oneV x = true) :
    ∃ p, p.sz = c.sz ∧ p.A = some ⟨w.heap.size, 0, none⟩ ∧ p.cap = c.n ∧ (m ++ [p])[h.length]? = some p ∧ Step B m h w (m ++ [p]) (h ++ [some ⟨t, true, c⟩]) (w.alloc (.cells cs t)) := by
  refine ⟨⟨some ⟨w.heap.size, 0, none⟩, c.n, c.sz⟩, rfl, rfl, rfl, by rw [← H.len]; simp, Ext.app _ _, H.new hB (Nat.le_refl _) hlen hsz hcell, Fr.alloc _ _ _, fun k hk => Own.new H.len hk⟩

theorem h_alloc (hG : GOk G.toCtx) (H : HR B m h w) (hB : B ≤ w.heap.size) {t : TypeId} (ho : o.op = .alloc t) {ti : TI} (ht : lookT G.T t = some ti) :
    HOk G.P B m h w ρ' o (.c (.ptr h.length 0 0)) (h ++ [some ⟨t, true, zeroCont ti⟩]) := by
  obtain ⟨inf, z, hi, hs, _, hz, hzc⟩ := hG.c.t.i _ _ ht
  have hzl := hG.c.t.zlen _ _ ht
  have hz1 := hG.c.t.zone _ _ ht
  have hrun : (execOp ρ' o).run G.P w = .ok (.value (.pointer (some ⟨w.heap.size, 0, none⟩))) (w.alloc (.cells z.cells t)) := by
    simp only [execOp, ho, Instr.alloc]
    simp [Sem.run_bind, run_zero' hi hz, run_newVar]
  have hcs : z.cells.size = ti.zero.length := by rw [← hzc]; simp
  have hget : ∀ k x, ti.zero[k]? = some x → z.cells[k]? = some x ∧ oneV x = true := fun k x hx => ⟨by rw [← hzc] at hx; simpa using hx, hz1 x (List.mem_of_getElem? hx)⟩
  have hfin : ∀ c : Cont, c = zeroCont ti → (∀ i, i < c.n → (c.el i).length = c.sz) → z.cells.size = c.n * c.sz →
      (∀ (i j : Nat) a, i < c.n → (c.el i)[j]? = some a → ∃ x, z.cells[i * c.sz + j]? = some x ∧ CR m a x ∧ oneV x = true) →
      HOk G.P B m h w ρ' o (.c (.ptr h.length 0 0)) (h ++ [some ⟨t, true, zeroCont ti⟩]) := by
    intro c hc h1 h2 h3
    obtain ⟨p, hps, hpA, _, hpi, hst⟩ := newPtr H hB (t := t) h1 h2 h3
    rw [hc] at hst
    exact ⟨_, _, _, .inl hrun, hst, ⟨p, _, hpi, hpA, rfl, by simp⟩⟩
  cases hsh : ti.shape with
  | none =>
    refine hfin (.one (ofCells ti.zero)) (by simp [zeroCont, hsh]) (fun i _ => rfl) (by simp [Cont.n, Cont.sz, ofCells, hcs]) ?_
    intro i j a hi' ha
    have hi0 : i = 0 := by simp [Cont.n] at hi'; exact hi'
    subst hi0
    simp only [Cont.el, ofCells, List.getElem?_map, Option.map_eq_some_iff] at ha
    obtain ⟨x, hx, rfl⟩ := ha
    obtain ⟨h1, h2⟩ := hget j x hx
    exact ⟨x, by simpa using h1, rfl, h2⟩
  | some ns =>
    obtain ⟨n, s⟩ := ns
    obtain ⟨hs1, hag, hsz, hrep, hpos⟩ := hG.c.t.shape _ _ _ _ ht hsh
    subst hs1
    have hz0 : ti.zero.take 1 = [ti.zero.headD undef] := by
      rw [hrep]
      cases n with
      | zero => omega
      | succ n => simp [List.replicate_succ]
    have hzn : ti.zero.length = n := by rw [hzl, hsz]
    refine hfin (.row 1 n fun _ => ti.zero.take 1) (by simp [zeroCont, hsh]) (fun i _ => by simp [Cont.el, Cont.sz, ofCells, hz0]) (by simp [Cont.n, Cont.sz, hcs, hzn]) ?_
    intro i j a hi' ha
    simp only [Cont.el, hz0, ofCells, List.map_cons, List.map_nil] at ha
    have hin : i < n := hi'
    cases j with
    | zero =>
      simp at ha
      subst ha
      have hx : ti.zero[i]? = some (ti.zero.headD undef) := by
        have : ti.zero[i]? = (List.replicate n (ti.zero.headD undef))[i]? := by rw [← hrep]
        rw [this]; simp [hin]
      obtain ⟨h1, h2⟩ := hget i _ hx
      exact ⟨_, by simpa [Cont.sz] using h1, rfl, by simpa using h2⟩
    | succ j => simp at ha

theorem h_box (hG : GOk G.toCtx) (hρ : OpsOk m ρ ρ') (H : HR B m h w) (hB : B ≤ w.heap.size) {t : TypeId} {x : Operand} (ho : o.op = .box t x) {ti : TI} {c : Cont} (hc : newBlk ti (ρ x) = some c) :
    HOk G.P B m h w ρ' o (.c (.ptr h.length 0 0)) (h ++ [some ⟨t, true, c⟩]) := by
  have hrun : (execOp ρ' o).run G.P w = .ok (.value (.pointer (some ⟨w.heap.size, 0, none⟩))) (w.alloc (.cells (ρ' x).cells t)) := by
    simp only [execOp, ho, Instr.box]
    simp [Sem.run_bind, run_newVar]
  have hfin : (∀ i, i < c.n → (c.el i).length = c.sz) → (ρ' x).cells.size = c.n * c.sz →
      (∀ (i j : Nat) a, i < c.n → (c.el i)[j]? = some a → ∃ y, (ρ' x).cells[i * c.sz + j]? = some y ∧ CR m a y ∧ oneV y = true) →
      HOk G.P B m h w ρ' o (.c (.ptr h.length 0 0)) (h ++ [some ⟨t, true, c⟩]) := by
    intro h1 h2 h3
    obtain ⟨p, hps, hpA, _, hpi, hst⟩ := newPtr H hB (t := t) h1 h2 h3
    exact ⟨_, _, _, .inl hrun, hst, ⟨p, _, hpi, hpA, rfl, by simp⟩⟩
  have hx := hρ x
  unfold newBlk at hc
  split at hc
  · rename_i n mm f hsh hρx
    split at hc
    · rename_i hmn
      simp only [Option.some.injEq] at hc
      subst hc
      subst hmn
      rw [hρx] at hx
      simp only [VR] at hx
      obtain ⟨hxe, h1⟩ := hx
      refine hfin (fun i _ => by simp [Cont.el, Cont.sz, ofCells]) (by simp [hxe, Value.cells, Cont.n, Cont.sz]) ?_
      intro i j a hi ha
      have hin : i < mm := hi
      simp only [Cont.el, ofCells, List.map_cons, List.map_nil] at ha
      cases j with
      | zero =>
        simp at ha
        subst ha
        exact ⟨f i, by simp [hxe, Value.cells, Cont.sz, hin], rfl, h1 i hin⟩
      | succ j => simp at ha
    · cases hc
  · cases hc
  · cases hl : cellsOf (ρ x) with
    | none => simp [hl] at hc
    | some l =>
      rw [hl] at hc
      simp only [Option.bind_some] at hc
      split at hc
      · simp only [Option.some.injEq] at hc
        subst hc
        obtain ⟨hF, h1⟩ := cellsOf_ok hl hx
        refine hfin (fun i _ => rfl) (by have := hF.length; simp at this; simp [Cont.n, Cont.sz, this]) ?_
        intro i j a hi ha
        have hi0 : i = 0 := by simp [Cont.n] at hi; exact hi
        subst hi0
        obtain ⟨y, hy, hr⟩ := hF.get j a ha
        exact ⟨y, by simpa using hy, hr, h1 y (List.mem_of_getElem? hy)⟩
      · cases hc

theorem flatten_get {α : Type} {s : Nat} : ∀ {l : List (List α)}, (∀ x ∈ l, x.length = s) → ∀ (i j : Nat) (y : List α) a, l[i]? = some y → y[j]? = some a → l.flatten[i * s + j]? = some a
  | [], _, i, j, y, a, h, _ => by simp at h
  | x :: l, hl, i, j, y, a, h, hj => by
    have hx := hl x (by simp)
    cases i with
    | zero =>
      simp only [List.getElem?_cons_zero, Option.some.injEq] at h
      subst h
      have : j < x.length := (List.getElem?_eq_some_iff.1 hj).1
      simp only [List.flatten_cons, Nat.zero_mul, Nat.zero_add]
      rw [List.getElem?_append_left this]
      exact hj
    | succ i =>
      have ih := flatten_get (l := l) (fun z hz => hl z (by simp [hz])) i j y a (by simpa using h) hj
      simp only [List.flatten_cons]
      rw [List.getElem?_append_right (by rw [hx, Nat.add_mul]; omega), hx, Nat.add_mul]
      rw [show i * s + 1 * s + j - s = i * s + j by omega]
      exact ih

theorem fill_seq (hρ : OpsOk m ρ ρ') {s : Nat} : ∀ (ps : List (Nat × Operand)) (i : Nat) (l : List (List AC)) (zc : Array Value), partsSl (ps.map fun p => (p.1, ρ p.2)) s i = some l → i * s + ps.length * s ≤ zc.size →
    ∃ cells k, Instr.fill (fun i => some (i * s, s)) zc (ps.map fun p => (p.1, ρ' p.2)) = some cells ∧ cells.toList = zc.toList.take (i * s) ++ k.flatten ++ zc.toList.drop (i * s + ps.length * s) ∧ F2 (F2 (CR m)) l k ∧ (∀ x ∈ k, x.length = s) ∧
      (∀ x ∈ k, ∀ y ∈ x, oneV y = true)
  | [], i, l, zc, hp, _ => by
    simp only [List.map_nil, partsSl, Option.some.injEq] at hp
    subst hp
    exact ⟨zc, [], rfl, by simp, .nil, by simp, by simp⟩
  | (k0, x) :: ps, i, l, zc, hp, hle => by
    simp only [List.map_cons, partsSl] at hp
    split at hp
    · rename_i lx r hcx hpr
      split at hp
      · rename_i hc
        obtain ⟨rfl, hlen⟩ := hc
        simp only [Option.some.injEq] at hp
        subst hp
        obtain ⟨hF, h1⟩ := cellsOf_ok hcx (hρ x)
        have hsz : (ρ' x).cells.size = s := by have := hF.length; simp at this; omega
        simp only [List.length_cons, Nat.add_mul, Nat.one_mul] at hle
        have hle' : k0 * s + (ρ' x).cells.size ≤ zc.size := by omega
        have hput := fill_put (off := k0 * s) (v := ρ' x) (cs := zc) hle'
        have hzs : ((ρ' x).cells.zipIdx.foldl (fun cs (x : Value × Nat) => cs.setIfInBounds (k0 * s + x.2) x.1) zc).size = zc.size := by
          have := congrArg List.length hput
          simp at this
          simp
          omega
        obtain ⟨cells, k, hc1, hc2, hc3, hc4, hc5⟩ := fill_seq hρ ps (k0 + 1) r _ hpr (by rw [hzs, Nat.add_mul]; omega)
        refine ⟨cells, (ρ' x).cells.toList :: k, ?_, ?_, .cons hF hc3, ?_, ?_⟩
        · simp only [List.map_cons, Instr.fill]
          rw [if_neg (by simp; omega)]
          exact hc1
        · rw [hc2, hput, hsz]
          have hl : (zc.toList.take (k0 * s)).length = k0 * s := by simp; omega
          have hl2 : (ρ' x).cells.toList.length = s := by simpa using hsz
          have e1 : (k0 + 1) * s = k0 * s + s := by rw [Nat.add_mul]; omega
          rw [e1]
          have t1 : (List.take (k0 * s) zc.toList ++ (ρ' x).cells.toList ++ List.drop (k0 * s + s) zc.toList).take (k0 * s + s) = List.take (k0 * s) zc.toList ++ (ρ' x).cells.toList := by
            rw [List.take_append_of_le_length (by rw [List.length_append, hl, hl2]; exact Nat.le_refl _), List.take_of_length_le (by rw [List.length_append, hl, hl2]; exact Nat.le_refl _)]
          have t2 : (List.take (k0 * s) zc.toList ++ (ρ' x).cells.toList ++ List.drop (k0 * s + s) zc.toList).drop (k0 * s + s + ps.length * s) = zc.toList.drop (k0 * s + s + ps.length * s) := by
            rw [List.drop_append, List.drop_eq_nil_of_le (by rw [List.length_append, hl, hl2]; omega), List.length_append, hl, hl2, List.drop_drop]
            simp only [List.nil_append]
            congr 1
            omega
          rw [t1, t2]
          simp only [List.flatten_cons, List.append_assoc, List.length_cons, Nat.add_mul, Nat.one_mul]
          rw [show k0 * s + (ps.length * s + s) = k0 * s + s + ps.length * s by omega]
        · intro y hy
          cases hy with
          | head => simpa using hsz
          | tail _ hy => exact hc4 y hy
        · intro y hy
          cases hy with
          | head => exact h1
          | tail _ hy => exact hc5 y hy
      · cases hp
    · cases hp

theorem partsSl_len : ∀ (ps : List (Nat × AV)) (s i : Nat) (l : List (List AC)), partsSl ps s i = some l → l.length = ps.length
  | [], s, i, l, h => by simp [partsSl] at h; subst h; rfl
  | (k, x) :: ps, s, i, l, h => by
    simp only [partsSl] at h
    split at h
    · rename_i lx r hcx hpr
      split at h
      · simp only [Option.some.injEq] at h
        subst h
        simp [partsSl_len ps s (i + 1) r hpr]
      · cases h
    · cases h

theorem h_buildSlice (hG : GOk G.toCtx) (hρ : OpsOk m ρ ρ') (H : HR B m h w) (hB : B ≤ w.heap.size) {t e : TypeId} {len : Nat} {ps : Array (Nat × Operand)} (ho : o.op = .buildSlice t len ps) {ti te : TI} (ht : lookT G.T t = some ti) (hu : ti.u = .slice e)
    (hte : lookT G.T e = some te) {l : List (List AC)} (hp : partsSl (ps.toList.map fun p => (p.1, ρ p.2)) te.size 0 = some l) (hl : l.length = len) (hbig : len * te.size ≤ 16777216) :
    HOk G.P B m h w ρ' o (.c (.sl h.length 0 len)) (h ++ [some ⟨e, true, .lst te.size l (ofCells te.zero)⟩]) := by
  have hut := hG.c.t.u t ti ht
  rw [hu] at hut
  obtain ⟨inf, z, hi, hs, _, hz, hzc⟩ := hG.c.t.i _ _ hte
  have hpl := partsSl_len _ _ _ _ hp
  simp only [List.length_map] at hpl
  have hps : ps.toList.length = len := by rw [← hpl, hl]
  obtain ⟨cells, k, hc1, hc2, hc3, hc4, hc5⟩ := fill_seq hρ ps.toList 0 l ((Array.range (len * te.size)).map (z.cells[· % z.cells.size]!)) hp (by rw [hps]; simp)
  have hck : cells.toList = k.flatten := by
    rw [hc2, hps]
    simp only [Nat.zero_mul, List.take_zero, List.nil_append, Nat.zero_add]
    rw [List.drop_eq_nil_of_le (by simp)]
    simp
  have hkl : k.length = len := by rw [← hc3.length, hl]
  have hcsz : cells.size = len * te.size := by
    have h1 := congrArg List.length hck
    simp only [Array.length_toList, List.length_flatten] at h1
    rw [h1]
    have : ∀ (k : List (List Value)), (∀ x ∈ k, x.length = te.size) → (k.map List.length).sum = k.length * te.size := by
      intro k
      induction k with
      | nil => intro _; simp
      | cons x k ih => intro hk; simp [ih (fun y hy => hk y (by simp [hy])), hk x (by simp), Nat.add_mul]; omega
    rw [this k hc4, hkl]
  have hrun : (execOp ρ' o).run G.P w = .ok (.value (.slice (some ⟨w.heap.size, 0, none⟩) len len)) (w.alloc (.cells cells e)) := by
    simp only [execOp, ho]
    have hfill : Instr.fill (fun i => some (i * te.size, te.size)) ((Array.range (len * te.size)).map (z.cells[· % z.cells.size]!)) (ps.map fun p => (p.1, ρ' p.2)).toList = some cells := by
      rw [← hc1]; congr 1; simp
    simp only [Sem.run_bind, Instr.buildSlice, run_underlying' hut, Result.andThen_ok, run_sizeOf' hi, hs]
    rw [if_neg (by show ¬ len * te.size > 2 ^ 24; omega)]
    by_cases h0 : len * te.size = 0
    · have : (Array.range (len * te.size)).map (fun x => (#[] : Array Value)[x % (#[] : Array Value).size]!) = (Array.range (len * te.size)).map (z.cells[· % z.cells.size]!) := by rw [h0]; simp
      simp only [if_pos h0, Sem.run_pure, Result.andThen_ok, Sem.run_bind]
      rw [this, hfill]
      simp [Sem.run_bind, run_newRow]
    · simp only [h0, if_false, Sem.run_bind, run_zero' hi hz, Result.andThen_ok, Sem.run_pure]
      rw [hfill]
      simp [Sem.run_bind, run_newRow]
  have hel : ∀ i, i < len → ∃ x y, l[i]? = some x ∧ k[i]? = some y ∧ F2 (CR m) x y := fun i hi => by
    obtain ⟨y, hy, hr⟩ := hc3.get i (l[i]'(by omega)) (by simp)
    exact ⟨_, y, by simp, hy, hr⟩
  have hgd : ∀ i x, l[i]? = some x → (Cont.lst te.size l (ofCells te.zero)).el i = x := fun i x hx => by
    simp [Cont.el, List.getD_eq_getElem?_getD, hx]
  obtain ⟨p, hps', hpA, hcap, hpi, hst⟩ := newPtr H hB (t := e) (c := .lst te.size l (ofCells te.zero)) (cs := cells) (fun i hi => by
      have hi' : i < len := by simpa [Cont.n, hl] using hi
      obtain ⟨x, y, hx, hy, hF⟩ := hel i hi'
      rw [hgd i x hx, hF.length, hc4 y (List.mem_of_getElem? hy)]
      rfl) (by simp [Cont.n, Cont.sz, hl, hcsz]) (fun i j a hi ha => by
      have hi' : i < len := by simpa [Cont.n, hl] using hi
      obtain ⟨x, y, hx, hy, hF⟩ := hel i hi'
      rw [hgd i x hx] at ha
      obtain ⟨q, hq, hr⟩ := hF.get j a ha
      have := flatten_get hc4 i j y q hy hq
      rw [← hck] at this
      exact ⟨q, by simpa [Cont.sz] using this, hr, hc5 y (List.mem_of_getElem? hy) q (List.mem_of_getElem? hq)⟩)
  refine ⟨_, _, _, .inl hrun, hst, ⟨p, _, _, hpi, rfl, ⟨Nat.le_refl _, fun e => nomatch e⟩, fun _ => ⟨hpA.symm, by rw [hcap]; simp [Cont.n, hl]⟩, fun _ => ⟨_, hpA, rfl, by simp⟩⟩⟩

theorem h_makeSlice (hG : GOk G.toCtx) (hρ : OpsOk m ρ ρ') (H : HR B m h w) (hB : B ≤ w.heap.size) {t e : TypeId} {l c : Operand} (ho : o.op = .makeSlice t l c) {ti te : TI} (ht : lookT G.T t = some ti) (hu : ti.u = .slice e)
    (hte : lookT G.T e = some te) {k1 k2 : IntKind} {n : Int} (hl : ρ l = .c (.v (.int k1 n))) (hc : ρ c = .c (.v (.int k2 n))) (h0 : 0 ≤ n) (hbig : n.toNat * te.bytes ≤ 16777216) :
    HOk G.P B m h w ρ' o (.c (.sl h.length 0 n.toNat)) (h ++ [some ⟨e, true, .row te.size n.toNat fun _ => te.zero⟩]) := by
  have hut := hG.c.t.u t ti ht
  rw [hu] at hut
  obtain ⟨inf, z, hi, hs, hby, hz, hzc⟩ := hG.c.t.i _ _ hte
  have hb0 := hG.c.bytes _ _ hte
  have hsz0 := (hG.c.one _ _ hte).1
  have hzl := hG.c.t.zlen _ _ hte
  have hz1 := hG.c.t.zone _ _ hte
  have hlv : ρ' l = .int k1 n := by have := hρ l; rw [hl] at this; exact this
  have hcv : ρ' c = .int k2 n := by have := hρ c; rw [hc] at this; exact this
  have hbn : (inf.bytes : Int) * n ≤ 16777216 := by
    rw [hby]
    have h1 : ((n.toNat * te.bytes : Nat) : Int) = te.bytes * n := by
      rw [Int.natCast_mul, Int.toNat_of_nonneg h0, Int.mul_comm]
    omega
  have hn63 : n ≤ 16777216 := by
    have h1 : (1 : Int) * n ≤ (inf.bytes : Int) * n := Int.mul_le_mul_of_nonneg_right (by rw [hby]; omega) h0
    omega
  have hmk := run_make (P := G.P) w t e inf z hut hi hz k1 k2 n n h0 (Int.le_refl _) (by omega) (by omega)
  have hrun : (execOp ρ' o).run G.P w = .ok (.value (.slice (some ⟨w.heap.size, 0, none⟩) n.toNat n.toNat)) (w.alloc (.cells (madeCells z.cells (n.toNat * inf.size)) e)) := by
    simp only [execOp, ho, hlv, hcv, Sem.run_bind, hmk, Result.andThen_ok]
    rfl
  have hcs : z.cells.size = te.size := by rw [← hzl, ← hzc]; simp
  have hlen : (te.zero).length = te.size := hzl
  obtain ⟨p, hps, hpA, hcap, hpi, hst⟩ := newPtr H hB (t := e) (c := .row te.size n.toNat fun _ => te.zero) (cs := madeCells z.cells (n.toNat * inf.size)) (fun i _ => by simp [Cont.el, Cont.sz, ofCells, hlen]) (by simp [Cont.n, Cont.sz, size_madeCells, hs]) (fun i j a hi ha => by
    have hi' : i < n.toNat := hi
    simp only [Cont.el, ofCells, List.getElem?_map, Option.map_eq_some_iff] at ha
    obtain ⟨x, hx, rfl⟩ := ha
    have hj : j < te.size := by rw [← hlen]; exact (List.getElem?_eq_some_iff.1 hx).1
    have hlt : i * te.size + j < n.toNat * te.size := by
      have : (i + 1) * te.size ≤ n.toNat * te.size := Nat.mul_le_mul_right _ hi'
      rw [Nat.add_mul] at this
      omega
    refine ⟨x, ?_, rfl, hz1 x (List.mem_of_getElem? hx)⟩
    have hmod : (i * te.size + j) % te.size = j := by rw [Nat.mul_comm, Nat.mul_add_mod]; exact Nat.mod_eq_of_lt hj
    have hzx : z.cells[j]? = some x := by rw [← hzc] at hx; simpa using hx
    have hzj : z.cells[j]! = x := by simp [Array.getElem!_eq_getD, Array.getD_eq_getD_getElem?, hzx]
    show (madeCells z.cells (n.toNat * inf.size))[i * te.size + j]? = some x
    simp only [madeCells, hs, Array.getElem?_map, Array.getElem?_range, hlt, if_true, Option.map_some, hcs, hmod, hzj])
  exact ⟨_, _, _, .inl hrun, hst, ⟨p, _, _, hpi, rfl, ⟨Nat.le_refl _, fun e => nomatch e⟩, fun _ => ⟨hpA.symm, by rw [hcap]; simp [Cont.n]⟩, fun _ => ⟨_, hpA, rfl, by simp⟩⟩⟩
end
end Go.Proofs.Ytcpahifgdppkbaa.QAI
