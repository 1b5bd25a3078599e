/- append. -/
import Derived.Test.YtcpahifgdppkbaaA8
set_option linter.unusedVariables false
set_option linter.unusedSimpArgs false
namespace Go.Proofs.Ytcpahifgdppkbaa.QAI
open Go Go.RowKit

theorem growBy_le (need : Nat) : ∀ (r c : Nat), c ≤ 2 * need → 256 ≤ need → Builtin.growBy need r c ≤ 2 * need
  | 0, c, h, _ => h
  | r + 1, c, h, h2 => by
    simp only [Builtin.growBy]
    split
    · exact h
    · exact growBy_le need r _ (by omega) h2
theorem nextcap_le {need cap : Nat} (h : cap < need) : Builtin.nextslicecap need cap ≤ 2 * need := by
  unfold Builtin.nextslicecap
  split
  · omega
  · split
    · omega
    · exact growBy_le need 4 cap (by omega) (by omega)

theorem valss_some : ∀ {l : List (List AC)} {k : List (List Value)}, valss l = some k → l = k.map ofCells
  | [], k, h => by simp [valss] at h; subst h; rfl
  | a :: l, k, h => by
    simp only [valss] at h
    split at h
    · rename_i x r hx hr
      simp only [Option.some.injEq] at h
      subst h
      rw [valsOf_some hx, valss_some hr]
      rfl
    · cases h

theorem updL_get {α : Type} : ∀ (l : List α) (f : Nat → α) (n k : Nat), updL f n l k = if k < n then f k else if k < n + l.length then l.getD (k - n) (f k) else f k
  | [], f, n, k => by
    simp only [updL, List.length_nil]
    split
    · rfl
    · rw [if_neg (by omega)]
  | x :: l, f, n, k => by
    simp only [updL]
    rw [updL_get l (upd f n x) (n + 1) k]
    simp only [List.length_cons]
    by_cases h1 : k < n
    · rw [if_pos (by omega), if_pos h1]; simp [upd]; omega
    · rw [if_neg h1]
      by_cases h2 : k = n
      · subst h2
        rw [if_pos (by omega), if_pos (by omega)]
        simp [upd]
      · rw [if_neg (by omega)]
        by_cases h3 : k < n + (l.length + 1)
        · rw [if_pos (by omega), if_pos h3, show k - n = (k - (n + 1)) + 1 by omega]
          simp [upd, h2]
        · rw [if_neg (by omega), if_neg h3]
          simp [upd, h2]

theorem rowOf_ok (ti : TI) (c : Cont) : (rowOf ti c).n = c.n ∧ (rowOf ti c).sz = c.sz ∧ ∀ q, q < c.n → (rowOf ti c).el q = c.el q := by
  unfold rowOf
  split
  · rename_i sz l z
    split
    · split
      · rename_i vs hvs
        refine ⟨rfl, rfl, fun q hq => ?_⟩
        have hl := valss_some hvs
        have hq' : q < l.length := hq
        have hlen : l.length = vs.length := by rw [hl]; simp
        simp only [Cont.el, List.getD_eq_getElem?_getD]
        rw [hl]
        simp only [List.getElem?_map]
        rw [List.getElem?_eq_getElem (by omega)]
        rfl
      · exact ⟨rfl, rfl, fun _ _ => rfl⟩
    · exact ⟨rfl, rfl, fun _ _ => rfl⟩
  · exact ⟨rfl, rfl, fun _ _ => rfl⟩

theorem joinC_ok {ti : TI} {c cs c' : Cont} {i m : Nat} (h : joinC ti c (i, m, cs) = some c') (hle : i + m ≤ cs.n) : c'.n = c.n + m ∧ c'.sz = ti.size ∧ ∀ q, q < c.n + m → c'.el q = if q < c.n then c.el q else cs.el (i + (q - c.n)) := by
  cases c with
  | one l => cases cs <;> simp [joinC] at h
  | row sz n f =>
    cases cs with
    | one l => simp [joinC] at h
    | lst sz' l z =>
      simp only [joinC] at h
      cases hv : valss ((l.drop i).take m) with
      | none => simp [hv] at h
      | some vs =>
        rw [hv] at h
        simp only [Option.map_some, Option.some.injEq] at h
        subst h
        have hl := valss_some hv
        have hle' : i + m ≤ l.length := hle
        have hvl : vs.length = m := by
          have := congrArg List.length hl
          simp at this
          omega
        refine ⟨rfl, rfl, fun q hq => ?_⟩
        have hq' : q < n + m := hq
        by_cases h1 : q < n
        · have h1' : q < (Cont.row sz n f).n := h1
          rw [if_pos h1']
          simp only [Cont.el]
          rw [updL_get, if_pos h1]
        · have h1' : ¬ q < (Cont.row sz n f).n := h1
          rw [if_neg h1']
          change _ = (Cont.lst sz' l z).el (i + (q - n))
          simp only [Cont.el]
          rw [updL_get, if_neg h1, if_pos (by omega)]
          have hg : ((l.drop i).take m)[q - n]? = (vs.map ofCells)[q - n]? := by rw [hl]
          rw [List.getElem?_take, if_pos (by omega), List.getElem?_drop, List.getElem?_map] at hg
          rw [List.getD_eq_getElem?_getD, List.getD_eq_getElem?_getD, hg, List.getElem?_eq_getElem (by omega)]
          rfl
    | row sz' n' g =>
      simp only [joinC, Option.some.injEq] at h
      subst h
      refine ⟨rfl, rfl, fun q hq => ?_⟩
      have hq' : q < n + m := hq
      by_cases h1 : q < n
      · have h1' : q < (Cont.row sz n f).n := h1
        rw [if_pos h1']
        simp only [Cont.el, cat]
        rw [if_pos h1]
      · have h1' : ¬ q < (Cont.row sz n f).n := h1
        rw [if_neg h1']
        change _ = (Cont.row sz' n' g).el (i + (q - n))
        simp only [Cont.el, cat]
        rw [if_neg h1, if_pos hq']
  | lst sz l z =>
    cases cs with
    | one l => simp [joinC] at h
    | row sz' n' g => simp [joinC] at h
    | lst sz' l' z' =>
      simp only [joinC, Option.some.injEq] at h
      subst h
      have hle' : i + m ≤ l'.length := hle
      have hln : ((l'.drop i).take m).length = m := by simp; omega
      refine ⟨by simp [Cont.n]; omega, rfl, fun q hq => ?_⟩
      have hq' : q < l.length + m := hq
      by_cases h1 : q < l.length
      · have h1' : q < (Cont.lst sz l z).n := h1
        rw [if_pos h1']
        simp only [Cont.el, List.getD_eq_getElem?_getD]
        rw [List.getElem?_append_left h1]
      · have h1' : ¬ q < (Cont.lst sz l z).n := h1
        rw [if_neg h1']
        change _ = (Cont.lst sz' l' z').el (i + (q - l.length))
        simp only [Cont.el, List.getD_eq_getElem?_getD]
        rw [List.getElem?_append_right (by omega), List.getElem?_take, if_pos (by omega), List.getElem?_drop, List.getElem?_eq_getElem (by omega)]
        rfl

section
variable {G : Ctx2} {o : Oper} {ρ : Operand → AV} {ρ' : Operand → Value} {h h' : AHeap} {w w' : World} {B : Nat} {m : List Pl} {v : AV}

/-- The cells that a slice or a text shows. -/
def Cells (m : List Pl) (c : Cont) (i k : Nat) (cells : List Value) : Prop :=
  cells.length = k * c.sz ∧ (∀ (q j : Nat) a, q < k → (c.el (i + q))[j]? = some a → ∃ y, cells[q * c.sz + j]? = some y ∧ CR m a y ∧ oneV y = true)
    ∧ ∀ q, q < k → (c.el (i + q)).length = c.sz

theorem BR.cellsFrom {b : ABlk} {p : Pl} (hb : BR B m b p w) {i k : Nat} (hle : i + k ≤ b.c.n) (hs : 0 < b.c.sz) (hk : 0 < k) :
    ∃ A cells, p.A = some A ∧ A.spot = none ∧ Cells m b.c i k cells ∧ ∀ (t : Nat) y, cells[t]? = some y → w.cell? ⟨A.block, A.off + (i * p.sz + t), none⟩ = some y := by
  have hsz := hb.sz
  obtain ⟨A, _, hA, hsp, _, _, _⟩ := hb.cells (i := i) (by omega) (by omega)
  have hcell : ∀ t, t < k * b.c.sz → ∃ y, w.cell? ⟨A.block, A.off + (i * p.sz + t), none⟩ = some y ∧ oneV y = true ∧ ∀ a, (b.c.el (i + t / b.c.sz))[t % b.c.sz]? = some a → CR m a y := by
    intro t ht
    have hq : t / b.c.sz < k := Nat.div_lt_of_lt_mul (by rw [Nat.mul_comm]; exact ht)
    have hj : t % b.c.sz < b.c.sz := Nat.mod_lt _ hs
    have hl := hb.len (i + t / b.c.sz) (by omega)
    have hjl : t % b.c.sz < (b.c.el (i + t / b.c.sz)).length := by rw [hl, hsz]; exact hj
    obtain ⟨A', y, hA', _, hy, hr, h1⟩ := hb.cell (i + t / b.c.sz) (t % b.c.sz) _ (by omega) (List.getElem?_eq_getElem hjl)
    have : A' = A := by rw [hA] at hA'; cases hA'; rfl
    subst this
    refine ⟨y, ?_, h1, fun a ha => ?_⟩
    · rw [← hy]
      congr 2
      rw [Nat.add_mul, hsz]
      have := Nat.div_add_mod t b.c.sz
      rw [Nat.mul_comm] at this
      omega
    · rw [List.getElem?_eq_getElem hjl] at ha
      cases ha
      exact hr
  refine ⟨A, (List.range (k * b.c.sz)).map fun t => (w.cell? ⟨A.block, A.off + (i * p.sz + t), none⟩).getD undef, hA, hsp, ⟨by simp, ?_, fun q hq => by rw [hb.len (i + q) (by omega), hsz]⟩, ?_⟩
  · intro q j a hq ha
    have hl := hb.len (i + q) (by omega)
    have hj : j < b.c.sz := by rw [← hsz, ← hl]; exact (List.getElem?_eq_some_iff.1 ha).1
    have ht : q * b.c.sz + j < k * b.c.sz := by
      have : (q + 1) * b.c.sz ≤ k * b.c.sz := Nat.mul_le_mul_right _ hq
      rw [Nat.add_mul, Nat.one_mul] at this
      omega
    obtain ⟨y, hy, h1, hr⟩ := hcell _ ht
    have hd : (q * b.c.sz + j) / b.c.sz = q := by
      rw [Nat.mul_comm, Nat.mul_add_div hs, Nat.div_eq_of_lt hj]; rfl
    have hmo : (q * b.c.sz + j) % b.c.sz = j := by
      rw [Nat.mul_comm, Nat.mul_add_mod]; exact Nat.mod_eq_of_lt hj
    rw [hd, hmo] at hr
    refine ⟨y, ?_, hr a ha, h1⟩
    rw [List.getElem?_map, List.getElem?_range ht]
    simp [hy]
  · intro t y hy
    rw [List.getElem?_map] at hy
    rcases Nat.lt_or_ge t (k * b.c.sz) with ht | ht
    · rw [List.getElem?_range ht] at hy
      obtain ⟨z, hz, _⟩ := hcell t ht
      simp only [Option.map_some, Option.some.injEq] at hy
      rw [hz] at hy
      simp only [Option.getD_some] at hy
      rw [hz, hy]
    · rw [List.getElem?_eq_none (by simpa using ht)] at hy; cases hy

theorem run_loadCells' {P : Program} {a : Addr} {n : Nat} {xs : List Value} (hl : xs.length = n) (hc : ∀ (k : Nat) x, xs[k]? = some x → w.cell? (a.add k) = some x) : (loadCells a n).run P w = .ok xs.toArray w := by
  unfold loadCells
  rw [run_loadCellsFrom' n 0 xs #[] hl fun k x hk => by rw [Nat.zero_add]; exact hc k x hk]
  simp

/-- What is appended. -/
theorem src_ok (P : Program) (H : HR B m h w) {ti : TI} (hs : 0 < ti.size) {a : AV} {x : Value} (ha : VR m a x) {i k : Nat} {c : Cont} (he : srcOf h ti a = some (i, k, c)) (hsz : c.sz = ti.size) (hle : i + k ≤ c.n) :
    ∃ cells : List Value, Cells m c i k cells ∧ (Builtin.lenOf x).run P w = .ok k w ∧ (Builtin.firstCells ti.size k x).run P w = .ok cells.toArray w := by
  unfold srcOf at he
  split at he
  · rename_i id i' n
    cases hb : h.at id with
    | none => simp [hb] at he
    | some b =>
      rw [hb] at he
      simp only [Option.map_some, Option.some.injEq, Prod.mk.injEq] at he
      obtain ⟨rfl, rfl, rfl⟩ := he
      obtain ⟨p, hp, hbr⟩ := H.at_ hb
      obtain ⟨p', A', c', hp', rfl, _, hz, hpos⟩ := ha
      have : p' = p := by rw [hp] at hp'; cases hp'; rfl
      subst this
      rcases Nat.eq_zero_or_pos n with h0 | h0
      · subst h0
        refine ⟨[], ⟨by simp, fun q j a hq => absurd hq (Nat.not_lt_zero _), fun q hq => absurd hq (Nat.not_lt_zero _)⟩, by simp [Builtin.lenOf], ?_⟩
        cases A' with
        | none => simp [Builtin.firstCells]
        | some A => simp [Builtin.firstCells, run_loadCells' (xs := []) (n := 0) rfl (fun k x hk => by simp at hk)]
      · obtain ⟨A, cells, hA, hsp, hC, hcell⟩ := hbr.cellsFrom hle (by omega) h0
        obtain ⟨A2, hA2, _, rfl⟩ := hpos h0
        have : A2 = A := by rw [hA] at hA2; cases hA2; rfl
        subst this
        refine ⟨cells, hC, by simp [Builtin.lenOf], ?_⟩
        simp only [Builtin.firstCells]
        refine run_loadCells' (by rw [hC.1, hsz]) fun t y hy => ?_
        rw [add_none rfl]
        have := hcell t y hy
        simpa [Nat.add_assoc] using this
  · simp only [Option.some.injEq, Prod.mk.injEq] at he
    obtain ⟨rfl, rfl, rfl⟩ := he
    have hx : x = .slice none 0 0 := ha
    subst hx
    exact ⟨[], ⟨by simp, fun q j a hq => absurd hq (Nat.not_lt_zero _), fun q hq => absurd hq (Nat.not_lt_zero _)⟩, by simp [Builtin.lenOf], by simp [Builtin.firstCells]⟩
  · rename_i s
    simp only [Option.some.injEq, Prod.mk.injEq] at he
    obtain ⟨rfl, rfl, rfl⟩ := he
    have hx : x = .string s := ha
    subst hx
    have hsz1 : ti.size = 1 := hsz.symm
    have hd : s.extract 0 s.size = s := by simp
    have hlen : s.data.toList.length = s.size := by simp
    refine ⟨s.data.toList.map fun b => Value.int .u8 b.toNat, ⟨?_, ?_, fun q _ => rfl⟩, by simp [Builtin.lenOf], ?_⟩
    · rw [List.length_map, hlen]
      exact (Nat.mul_one _).symm
    · intro q j a hq ha
      simp only [Cont.el, ofCells, List.map_cons, List.map_nil] at ha
      cases j with
      | zero =>
        simp at ha
        subst ha
        have hq' : q < s.data.toList.length := by rw [hlen]; exact hq
        refine ⟨.int .u8 (bt s q), ?_, rfl, rfl⟩
        simp only [Cont.sz, Nat.mul_one, Nat.add_zero, List.getElem?_map]
        rw [List.getElem?_eq_getElem hq']
        have hb : bt s q = (s.data.toList[q].toNat : Int) := by
          unfold bt
          rw [Int.toNat_natCast, List.getD_eq_getElem?_getD, List.getElem?_eq_getElem hq']
          rfl
        rw [hb]
        rfl
      | succ j => simp at ha
    · simp only [Builtin.firstCells, hd, Sem.run_pure]
      congr 1
      apply Array.ext'
      simp
  · cases he

/-- What is appended to. -/
theorem dst_ok (H : HR B m h w) {ti : TI} {a : AV} {x : Value} (ha : VR m a x) {c : Cont} {nn : Nat} (he : dstOf h ti a = some (h', c, nn)) (hnn : c.n = nn) :
    c.sz = ti.size ∧ ((x = .slice none 0 0 ∧ h' = h ∧ c.n = 0) ∨
      ∃ id b p, h[id]? = some (some b) ∧ b.own = true ∧ m[id]? = some p ∧ BR B m b p w ∧ x = .slice p.A c.n p.cap ∧ h' = h.set id none ∧ b.c.sz = ti.size ∧ b.c.n = c.n ∧ b.t = ti.t ∧ ∀ q, q < c.n → c.el q = b.c.el q) := by
  unfold dstOf at he
  split at he
  · simp only [Option.some.injEq, Prod.mk.injEq] at he
    obtain ⟨rfl, rfl, rfl⟩ := he
    have hx : x = .slice none 0 0 := ha
    refine ⟨by split <;> rfl, .inl ⟨hx, rfl, by split <;> rfl⟩⟩
  · rename_i id n
    split at he
    · rename_i bt c0 hb
      split at he
      · rename_i hc
        obtain ⟨hsz, hbt⟩ := hc
        simp only [Option.some.injEq, Prod.mk.injEq] at he
        obtain ⟨rfl, rfl, rfl⟩ := he
        obtain ⟨p, hp, hbr⟩ := H.at_ hb
        obtain ⟨p', A', c', hp', rfl, _, hz, _⟩ := ha
        have : p' = p := by rw [hp] at hp'; cases hp'; rfl
        subst this
        obtain ⟨rfl, rfl⟩ := hz rfl
        obtain ⟨h1, h2, h3⟩ := rowOf_ok ti c0
        have hn : c0.n = n := by rw [← h1]; exact hnn
        refine ⟨by rw [h2, hsz], .inr ⟨id, _, p', at_some hb, rfl, hp, hbr, by rw [h1, hn], rfl, hsz, h1.symm, hbt, fun q hq => h3 q (by rw [← h1]; exact hq)⟩⟩
      · cases he
    · cases he
  · cases he
end
end Go.Proofs.Ytcpahifgdppkbaa.QAI
