/- What the abstract machine's values say of the model's, and: its operations that turn nothing come to what the model's come to. -/
import Derived.Test.YtcpahifgdppkbaaA0
import Derived.Below
import Derived.Laws.StructEq
import Derived.DeepKeys3
set_option linter.unusedVariables false
set_option linter.unusedSimpArgs false
namespace Go.Proofs.Ytcpahifgdppkbaa.QAI
open Go Go.RowKit

/-- Where a block lies: its first cell's address (of an empty row perhaps none), how many elements it has room for, cells an element. -/
structure Pl where
  A : Option Addr
  cap : Nat
  sz : Nat

def CR (m : List Pl) : AC → Value → Prop
  | .any, _ => True
  | .v x, y => y = x
  | .ptr id i j, y => ∃ p A, m[id]? = some p ∧ p.A = some A ∧ A.spot = none ∧ y = .pointer (some ⟨A.block, A.off + (i * p.sz + j), none⟩)
  | .sl id i n, y => ∃ p A' c', m[id]? = some p ∧ y = .slice A' n c' ∧ (n ≤ c' ∧ (A' = none → c' = 0)) ∧ (i = 0 → A' = p.A ∧ c' = p.cap) ∧
      (0 < n → ∃ A, p.A = some A ∧ A.spot = none ∧ A' = some ⟨A.block, A.off + i * p.sz, none⟩)

inductive F2 {α β : Type} (R : α → β → Prop) : List α → List β → Prop where
  | nil : F2 R [] []
  | cons {a b l k} : R a b → F2 R l k → F2 R (a :: l) (b :: k)

theorem F2.length {α β : Type} {R : α → β → Prop} {l : List α} {k : List β} (h : F2 R l k) : l.length = k.length := by
  induction h with
  | nil => rfl
  | cons _ _ ih => simp [ih]
theorem F2.get {α β : Type} {R : α → β → Prop} {l : List α} {k : List β} (h : F2 R l k) : ∀ (i : Nat) a, l[i]? = some a → ∃ b, k[i]? = some b ∧ R a b := by
  induction h with
  | nil => intro i a h; simp at h
  | cons hr _ ih =>
    intro i a h
    cases i with
    | zero => simp at h; subst h; exact ⟨_, by simp, hr⟩
    | succ i => simpa using ih i a (by simpa using h)
theorem F2.of_get {α β : Type} {R : α → β → Prop} : ∀ {l : List α} {k : List β}, l.length = k.length → (∀ (i : Nat) a b, l[i]? = some a → k[i]? = some b → R a b) → F2 R l k
  | [], [], _, _ => .nil
  | a :: l, b :: k, hl, h => .cons (h 0 a b (by simp) (by simp)) (F2.of_get (by simpa using hl) fun i x y hx hy => h (i + 1) x y (by simpa using hx) (by simpa using hy))
theorem F2.imp {α β : Type} {R S : α → β → Prop} {l : List α} {k : List β} (h : F2 R l k) (hi : ∀ a b, R a b → S a b) : F2 S l k := by
  induction h with
  | nil => exact .nil
  | cons hr _ ih => exact .cons (hi _ _ hr) ih
theorem F2.take {α β : Type} {R : α → β → Prop} {l : List α} {k : List β} (h : F2 R l k) : ∀ n, F2 R (l.take n) (k.take n) := by
  induction h with
  | nil => intro n; simpa using F2.nil
  | cons hr _ ih => intro n; cases n with
    | zero => exact .nil
    | succ n => exact .cons hr (ih n)
theorem F2.drop {α β : Type} {R : α → β → Prop} {l : List α} {k : List β} (h : F2 R l k) : ∀ n, F2 R (l.drop n) (k.drop n) := by
  induction h with
  | nil => intro n; simpa using F2.nil
  | cons hr ht ih => intro n; cases n with
    | zero => exact .cons hr ht
    | succ n => exact ih n
theorem F2.append {α β : Type} {R : α → β → Prop} {l l' : List α} {k k' : List β} (h : F2 R l k) (h' : F2 R l' k') : F2 R (l ++ l') (k ++ k') := by
  induction h with
  | nil => exact h'
  | cons hr _ ih => exact .cons hr ih
theorem F2.map {α β γ δ : Type} {R : α → β → Prop} {S : γ → δ → Prop} {l : List α} {k : List β} (f : α → γ) (g : β → δ) (h : F2 R l k) (hi : ∀ a b, R a b → S (f a) (g b)) : F2 S (l.map f) (k.map g) := by
  induction h with
  | nil => exact .nil
  | cons hr _ ih => exact .cons (hi _ _ hr) ih

mutual
def VR (m : List Pl) : AV → Value → Prop
  | .c x, y => CR m x y
  | .agg l, y => ∃ cs : Array Value, y = .agg cs ∧ F2 (CR m) l cs.toList
  | .arr n f, y => y = .agg ⟨(List.range n).map f⟩ ∧ ∀ k, k < n → oneV (f k) = true
  | .tup l, y => ∃ vs : Array Value, y = .tuple vs ∧ VRs m l vs.toList
def VRs (m : List Pl) : List AV → List Value → Prop
  | [], [] => True
  | x :: l, y :: k => VR m x y ∧ VRs m l k
  | _, _ => False
end

theorem VRs.get {m : List Pl} : ∀ {l : List AV} {k : List Value}, VRs m l k → ∀ (i : Nat) a, l[i]? = some a → ∃ b, k[i]? = some b ∧ VR m a b
  | [], _, _, i, a, h => by simp at h
  | x :: l, [], h, _, _, _ => by simp [VRs] at h
  | x :: l, y :: k, h, i, a, hi => by
    simp only [VRs] at h
    cases i with
    | zero => simp at hi; subst hi; exact ⟨y, by simp, h.1⟩
    | succ i => simpa using VRs.get h.2 i a (by simpa using hi)
theorem VRs.length {m : List Pl} : ∀ {l : List AV} {k : List Value}, VRs m l k → l.length = k.length
  | [], [], _ => rfl
  | [], _ :: _, h => by simp [VRs] at h
  | _ :: _, [], h => by simp [VRs] at h
  | _ :: _, _ :: _, h => by simp only [VRs] at h; simp [VRs.length h.2]

structure BR (B : Nat) (m : List Pl) (b : ABlk) (p : Pl) (w : World) : Prop where
  sz : p.sz = b.c.sz
  len : ∀ i, i < b.c.n → (b.c.el i).length = p.sz
  cap : b.c.n ≤ p.cap
  cell : ∀ (i j : Nat) c, i < b.c.n → (b.c.el i)[j]? = some c → ∃ A x, p.A = some A ∧ A.spot = none ∧ w.cell? ⟨A.block, A.off + (i * p.sz + j), none⟩ = some x ∧ CR m c x ∧ oneV x = true
  own : b.own = true → (p.A = none → p.cap = 0) ∧ ∀ A, p.A = some A → A.off = 0 ∧ A.spot = none ∧ B ≤ A.block ∧ ∃ cs, w.heap[A.block]? = some (.cells cs b.t (0, 0)) ∧ cs.size = p.cap * p.sz
  came : b.own = false → ∀ A, p.A = some A → 0 < b.c.n → A.block < B

structure HR (B : Nat) (m : List Pl) (h : AHeap) (w : World) : Prop where
  len : m.length = h.length
  blk : ∀ (id : Nat) b p, h[id]? = some (some b) → m[id]? = some p → BR B m b p w
  apart : ∀ (id id' : Nat) b b' p p' A A', id ≠ id' → h[id]? = some (some b) → h[id']? = some (some b') → b.own = true → b'.own = true → m[id]? = some p → m[id']? = some p' →
    p.A = some A → p'.A = some A' → A.block ≠ A'.block

theorem HR.at_ {B : Nat} {m : List Pl} {h : AHeap} {w : World} (H : HR B m h w) {id : Nat} {b : ABlk} (hb : h.at id = some b) : ∃ p, m[id]? = some p ∧ BR B m b p w := by
  have hid : h[id]? = some (some b) := by
    unfold AHeap.at at hb
    cases e : h[id]? with
    | none => simp [e] at hb
    | some o => rw [e] at hb; simp at hb; rw [hb]
  have hlt : id < m.length := by rw [H.len]; exact (List.getElem?_eq_some_iff.1 hid).1
  exact ⟨m[id], by simp [hlt], H.blk id b _ hid (by simp [hlt])⟩

def isAggD : TypeDesc → Bool
  | .struct _ => true
  | .array _ _ => true
  | _ => false

/-- The table tells the truth. -/
structure TOk (P : Program) (T : List TI) : Prop where
  u : ∀ t ti, lookT T t = some ti → P.underlying t = some ti.u
  i : ∀ t ti, lookT T t = some ti → ∃ i z, P.info? t = some i ∧ i.size = ti.size ∧ i.bytes = ti.bytes ∧ i.zero = some z ∧ z.cells.toList = ti.zero
  agg : ∀ t ti, lookT T t = some ti → ti.agg = isAggD ti.u
  zlen : ∀ t ti, lookT T t = some ti → ti.zero.length = ti.size
  zone : ∀ t ti, lookT T t = some ti → ∀ x ∈ ti.zero, oneV x = true
  shape : ∀ t ti n s, lookT T t = some ti → ti.shape = some (n, s) → s = 1 ∧ ti.agg = true ∧ ti.size = n ∧ ti.zero = List.replicate n (ti.zero.headD undef) ∧ 0 < n

section
variable {P : Program} {w : World}
theorem run_underlying' {t : TypeId} {u : TypeDesc} (h : P.underlying t = some u) : (underlying t).run P w = .ok u w := by
  simp [underlying, program, Sem.run, Sem.run_bind, h]
theorem run_typeInfo' {t : TypeId} {i : TypeInfo} (h : P.info? t = some i) : (typeInfo t).run P w = .ok i w := by
  simp [typeInfo, program, Sem.run, Sem.run_bind, h]
theorem run_sizeOf' {t : TypeId} {i : TypeInfo} (h : P.info? t = some i) : (sizeOf t).run P w = .ok i.size w := by
  simp [sizeOf, Sem.run_bind, run_typeInfo' h]
theorem run_isAgg' {t : TypeId} {u : TypeDesc} (h : P.underlying t = some u) : (isAgg t).run P w = .ok (isAggD u) w := by
  simp only [isAgg, Sem.run_bind, run_underlying' h, Result.andThen_ok]
  cases u <;> simp [isAggD]
theorem run_zero' {t : TypeId} {i : TypeInfo} {z : Value} (h : P.info? t = some i) (hz : i.zero = some z) : (zeroValue t).run P w = .ok z w := by
  simp [zeroValue, Sem.run_bind, run_typeInfo' h, hz]
theorem run_load' {a : Addr} {x : Value} (h : w.cell? a = some x) : (load a).run P w = .ok x w := by
  simp [load, Sem.run, h]
theorem run_loadCellsFrom' {a : Addr} : ∀ (n i : Nat) (xs : List Value) (acc : Array Value), xs.length = n → (∀ (k : Nat) x, xs[k]? = some x → w.cell? (a.add (i + k)) = some x) →
    (loadCellsFrom a i n acc).run P w = .ok (acc ++ xs.toArray) w
  | 0, i, xs, acc, hl, _ => by
    have : xs = [] := List.length_eq_zero_iff.1 hl
    subst this
    simp [loadCellsFrom]
  | n + 1, i, xs, acc, hl, h => by
    match xs, hl with
    | x :: xs, hl =>
      have h0 := h 0 x (by simp)
      rw [Nat.add_zero] at h0
      simp only [loadCellsFrom, Sem.run_bind, run_load' h0, Result.andThen_ok]
      rw [run_loadCellsFrom' n (i + 1) xs (acc.push x) (by simpa using hl) (fun k y hy => by
        have := h (k + 1) y (by simpa using hy)
        rwa [show i + (k + 1) = i + 1 + k by omega] at this)]
      simp
end

theorem add_none {a : Addr} (h : a.spot = none) (k : Nat) : a.add k = ⟨a.block, a.off + k, none⟩ := by
  unfold Addr.add
  split
  · subst_vars; cases a; simp_all
  · rfl

section
variable {P : Program} {T : List TI} {w : World} {B : Nat} {m : List Pl} {h : AHeap}

theorem run_loadVar' (hT : TOk P T) {t : TypeId} {ti : TI} (ht : lookT T t = some ti) {a : Addr} {xs : List Value} (hl : xs.length = ti.size)
    (hc : ∀ (k : Nat) x, xs[k]? = some x → w.cell? (a.add k) = some x) (h1 : ti.agg = false → ti.size = 1) :
    (loadVar t a).run P w = .ok (if ti.agg then .agg xs.toArray else xs.headD undef) w := by
  obtain ⟨i, z, hi, hs, _, _, _⟩ := hT.i t ti ht
  have hu := hT.u t ti ht
  have ha := hT.agg t ti ht
  have hia : (isAgg t).run P w = .ok ti.agg w := by rw [ha]; exact run_isAgg' hu
  simp only [loadVar, Sem.run_bind, hia, Result.andThen_ok]
  cases e : ti.agg with
  | true =>
    simp only [if_true, Sem.run_bind, run_sizeOf' hi, Result.andThen_ok, loadCells]
    rw [run_loadCellsFrom' i.size 0 xs #[] (by rw [hl, hs]) (fun k x hk => by rw [Nat.zero_add]; exact hc k x hk)]
    simp
  | false =>
    have h1' := h1 e
    match xs, hl, h1' with
    | [x], _, _ =>
      have := hc 0 x (by simp)
      have h0 : a.add 0 = a := by simp [Addr.add]
      rw [h0] at this
      simp [run_load' this]
    | [], hl, h1 => simp at hl; omega
    | _ :: _ :: _, hl, h1 => simp at hl; omega

end
end Go.Proofs.Ytcpahifgdppkbaa.QAI
