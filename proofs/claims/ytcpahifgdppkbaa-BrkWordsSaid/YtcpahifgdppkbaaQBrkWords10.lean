/- BrkWhole: the plain law. -/
import Derived.Test.YtcpahifgdppkbaaQBrkWords9
section
set_option linter.unusedVariables false
set_option linter.unusedSimpArgs false
namespace Go.Proofs.Ytcpahifgdppkbaa.QAI
open Go Go.RowKit
theorem wh_at {n : Nat} {L : Nat → Gl} {A : Int} {j : Nat} (hj : j < lnC n L A) {t : Nat} (hl : IsLine n L A (lnAt n L A j) t) : spAt (lns n L A) j = ⟨lnAt n L A j, t, sw L (lnAt n L A j) (t - lnAt n L A j)⟩ ∧ lnAt n L A (j + 1) = t + 1 := by
  refine ⟨?_, by rw [lnAt, hl.eq]; rfl⟩
  have e : spAt (lns n L A) j = spOf n L A (lnAt n L A j) := by
    unfold spAt lns lnsN
    rw [List.getD_eq_getElem?_getD, List.getElem?_map, List.getElem?_range hj]
    rfl
  rw [e, spOf, hl.eq]
theorem sw_congr {L L' : Nat → Gl} {o o' : Nat} : ∀ c, (∀ j, j < c → (L (o + j)).w = (L' (o' + j)).w) → sw L o c = sw L' o' c
  | 0, _ => rfl
  | c + 1, h => by rw [sw, sw, sw_congr c fun j hj => h j (by omega), h c (by omega)]
theorem lgS_mx {p : Gl → Bool} {L : Nat → Gl} (hL : WOk L) {o : Nat} (ho : o = 0 ∨ (0 < o ∧ p (L (o - 1)) = true)) : ∀ c, (∀ j, j < c → p (L (o + j)) = false) → (lgS p L (o + c)).1 = max (lgS p L o).1 (sw L o c)
  | 0, _ => by
    have := lgS_b (p := p) hL o
    simp only [Nat.add_zero, sw]
    omega
  | c + 1, h => by
    have ih := lgS_mx hL ho c fun j hj => h j (by omega)
    have h2 := lgS_sw hL ho c fun j hj => h j (by omega)
    have hw := hL (o + c)
    rw [← Nat.add_assoc, lgS, h c (by omega)]
    simp only [cond_false, mxI_eq, h2, ih, sw]
    omega
/-- A row that nothing parts is one line. -/
theorem one_line {n : Nat} {L : Nat → Gl} {A : Int} (hn : 0 < n) (h : ∀ i, i < n → pSB (L i) = false) : lnC n L A = 1 ∧ spAt (lns n L A) 0 = ⟨0, n, sw L 0 n⟩ := by
  obtain ⟨a1, a2, a3⟩ := lnC_spec n L A
  have h0 : lnAt n L A 0 = 0 := rfl
  obtain ⟨t, ht⟩ := isLine (n := n) (L := L) (A := A) (o := lnAt n L A 0) (by omega)
  have hc : 0 < lnC n L A := by
    rcases Nat.eq_zero_or_pos (lnC n L A) with h1 | h1
    · rw [h1] at a3; omega
    · exact h1
  have htn : t = n := by
    have hp := ht.part
    have := ht.ln
    rcases Nat.lt_or_ge t n with h1 | h1
    · rw [part_pSB h1, h t h1] at hp; cases hp
    · omega
  obtain ⟨b1, b2⟩ := wh_at hc ht
  have hc2 : lnC n L A = 1 := by
    rcases Nat.lt_or_ge 1 (lnC n L A) with h1 | h1
    · have := a2 1 h1
      rw [Nat.zero_add] at b2
      omega
    · omega
  refine ⟨hc2, ?_⟩
  rw [b1, h0, htn]
  rfl
/-- Two rows with a break between them are two lines. -/
theorem two_lines {m r : Nat} {L : Nat → Gl} {A : Int} (hr : 0 < r) (h1 : ∀ i, i < m → pSB (L i) = false) (h2 : brk (L m) = true) (h3 : ∀ i, i < r → pSB (L (m + 1 + i)) = false) :
    lnC (m + 1 + r) L A = 2 ∧ spAt (lns (m + 1 + r) L A) 0 = ⟨0, m, sw L 0 m⟩ ∧ spAt (lns (m + 1 + r) L A) 1 = ⟨((m + 1 : Nat) : Int), ((m + 1 + r : Nat) : Int), sw L (m + 1) r⟩ := by
  generalize hn : m + 1 + r = n
  obtain ⟨a1, a2, a3⟩ := lnC_spec n L A
  have h0 : lnAt n L A 0 = 0 := rfl
  obtain ⟨t, ht⟩ := isLine (n := n) (L := L) (A := A) (o := lnAt n L A 0) (by omega)
  have hc : 0 < lnC n L A := by
    rcases Nat.eq_zero_or_pos (lnC n L A) with h1 | h1
    · rw [h1] at a3; omega
    · exact h1
  have htm : t = m := by
    rcases Nat.lt_trichotomy t m with h | h | h
    · have hp := ht.part
      rw [part_pSB (by omega), h1 t h] at hp; cases hp
    · exact h
    · have hp := ht.go m (by omega) h
      rw [stop_brk (by omega), h2] at hp; cases hp
  obtain ⟨b1, b2⟩ := wh_at hc ht
  rw [Nat.zero_add, htm] at b2
  have hc1 : 1 < lnC n L A := by
    rcases Nat.lt_or_ge 1 (lnC n L A) with h | h
    · exact h
    · have : lnC n L A = 1 := by omega
      rw [this, b2] at a3; omega
  obtain ⟨u, hu⟩ := isLine (n := n) (L := L) (A := A) (o := lnAt n L A 1) (by omega)
  have hun : u = n := by
    have hp := hu.part
    have hle := hu.le
    have := hu.ln
    rcases Nat.lt_or_ge u n with h | h
    · have e := h3 (u - (m + 1)) (by omega)
      rw [show m + 1 + (u - (m + 1)) = u by omega] at e
      rw [part_pSB h, e] at hp; cases hp
    · omega
  obtain ⟨c1, c2⟩ := wh_at hc1 hu
  have hc2 : lnC n L A = 2 := by
    rcases Nat.lt_or_ge 2 (lnC n L A) with h | h
    · have := a2 2 h
      rw [show 1 + 1 = 2 from rfl] at c2
      omega
    · omega
  refine ⟨hc2, ?_, ?_⟩
  · rw [b1, h0, htm]; rfl
  · rw [c1, b2, hun, show n - (m + 1) = r by omega]
theorem two_most {m r : Nat} {L : Nat → Gl} (hL : WOk L) (h1 : ∀ i, i < m → pSB (L i) = false) (h2 : brk (L m) = true) (h3 : ∀ i, i < r → pSB (L (m + 1 + i)) = false) :
    (lgS brk L (m + 1 + r)).1 = max (sw L 0 m) (sw L (m + 1) r) := by
  have hb : ∀ g, pSB g = false → brk g = false := fun g hg => by
    cases h : brk g
    · rfl
    · rw [brk_pSB g h] at hg; cases hg
  rw [lgS_mx hL (.inr ⟨by omega, by simpa using h2⟩) r fun j hj => hb _ (h3 j hj)]
  have e : (lgS brk L (m + 1)).1 = (lgS brk L m).1 := by rw [lgS, h2]; rfl
  have e2 := lgS_mx (p := brk) hL (o := 0) (.inl rfl) m fun j hj => by rw [Nat.zero_add]; exact hb _ (h1 j hj)
  have hs := sw_b hL 0 m
  rw [Nat.zero_add] at e2
  rw [e, e2]
  have : (lgS brk L 0).1 = 0 := rfl
  omega
end Go.Proofs.Ytcpahifgdppkbaa.QAI
end
section
/- BrkWords: the plain law. -/
set_option linter.unusedVariables false
set_option linter.unusedSimpArgs false
namespace Go.Proofs.Ytcpahifgdppkbaa.QAI
open Go Go.RowKit
/-- n words of one width, a blank between each two. -/
def wdL (n : Nat) (w s : Int) : Nat → Gl := fun j => if j < 2 * n - 1 then (if j % 2 = 0 then ⟨1, 0, 0, w⟩ else ⟨2, 0, 0, s⟩) else zGl
section
variable {n : Nat} {w s A : Int}
theorem wdL_e {i : Nat} (h : i < n) : wdL n w s (2 * i) = ⟨1, 0, 0, w⟩ := by
  unfold wdL
  rw [if_pos (by omega), if_pos (by omega)]
theorem wdL_o {i : Nat} (h : i + 1 < n) : wdL n w s (2 * i + 1) = ⟨2, 0, 0, s⟩ := by
  unfold wdL
  rw [if_pos (by omega), if_neg (by omega)]
theorem wdL_ok (hw : 0 ≤ w ∧ w ≤ 1048576) (hs : 0 ≤ s ∧ s ≤ 1048576) : WOk (wdL n w s) := by
  intro j
  unfold wdL
  split
  · split
    · exact hw
    · exact hs
  · simp [zGl]
theorem succ_mul' (k : Nat) (x : Int) : ((k + 1 : Nat) : Int) * x = (k : Int) * x + x := by
  rw [Int.natCast_succ, Int.add_mul, Int.one_mul]
theorem sw_wd {a : Nat} : ∀ k, a + k + 1 ≤ n → sw (wdL n w s) (2 * a) (2 * k + 1) = ((k + 1 : Nat) : Int) * w + (k : Int) * s
  | 0, h => by
    have e := wdL_e (w := w) (s := s) (i := a) (n := n) (by omega)
    rw [Nat.mul_zero, sw, sw, Nat.add_zero, e]
    simp
  | k + 1, h => by
    have ih := sw_wd (a := a) k (by omega)
    have e1 := wdL_o (w := w) (s := s) (i := a + k) (n := n) (by omega)
    have e2 := wdL_e (w := w) (s := s) (i := a + k + 1) (n := n) (by omega)
    rw [show 2 * (k + 1) + 1 = 2 * k + 1 + 1 + 1 by omega, sw, sw, ih, show 2 * a + (2 * k + 1) = 2 * (a + k) + 1 by omega, e1, show 2 * a + (2 * k + 1 + 1) = 2 * (a + k + 1) by omega, e2, succ_mul' (k + 1) w, succ_mul' k s]
    show _ + s + w = _
    omega
theorem wd_stop {p : Nat} (hp : p < 2 * n - 1) : stopA (2 * n - 1) (wdL n w s) p = false := by
  rw [stop_brk hp]
  unfold wdL
  rw [if_pos hp]
  split <;> rfl
theorem wd_part {p : Nat} (hp : p < 2 * n - 1) : partA (2 * n - 1) (wdL n w s) p = decide (p % 2 = 1) := by
  rw [part_pSB hp]
  unfold wdL
  rw [if_pos hp]
  by_cases h : p % 2 = 0
  · rw [if_pos h, decide_eq_false (by omega)]; rfl
  · rw [if_neg h, decide_eq_true (by omega)]; rfl
theorem wd_part_n : partA (2 * n - 1) (wdL n w s) (2 * n - 1) = true := by simp [partA, stopA]
/-- So many words have room. -/
theorem wd_fits (hw : 1 ≤ w) (hs : 0 ≤ s) (k : Nat) : ((k + 1 : Nat) : Int) * w + (k : Int) * s ≤ A ↔ ((k + 1 : Nat) : Int) ≤ (A + s) / (w + s) := by
  rw [Int.le_ediv_iff_mul_le (by omega), Int.mul_add, succ_mul' k s]
  omega
theorem wd_line {per a : Nat} (hw : 1 ≤ w) (hs : 0 ≤ s) (hper : (per : Int) = max ((A + s) / (w + s)) 1) (ha : a < n) {t : Nat} (h : IsLine (2 * n - 1) (wdL n w s) A (2 * a) t) : t + 1 = 2 * (a + min per (n - a)) := by
  have hle := h.le
  have hln := h.ln
  have hodd : t % 2 = 1 := by
    rcases Nat.lt_or_ge t (2 * n - 1) with h1 | h1
    · have := h.part
      rw [wd_part h1] at this
      exact of_decide_eq_true this
    · omega
  obtain ⟨k, hk⟩ : ∃ k, t = 2 * a + (2 * k + 1) := ⟨(t - 2 * a) / 2, by omega⟩
  have h1 : k + 1 ≤ per := by
    rcases h.why with hf | hf
    · rcases Nat.eq_zero_or_pos k with h0 | h0
      · omega
      · have := hf (2 * a + 1) (by omega) (by omega)
        rw [wd_part (by omega)] at this
        have := of_decide_eq_false this
        omega
    · rw [hk, show 2 * a + (2 * k + 1) - 2 * a = 2 * k + 1 by omega, sw_wd k (by omega), wd_fits hw hs] at hf
      omega
  have h2 : k + 1 ≤ n - a := by omega
  have h3 : ∀ m, m + 1 ≤ per → m + 1 ≤ n - a → m ≤ k := by
    intro m hm1 hm2
    rcases Nat.eq_zero_or_pos m with h0 | h0
    · omega
    · have hfit : ((m + 1 : Nat) : Int) ≤ (A + s) / (w + s) := by omega
      have := h.most (2 * a + (2 * m + 1)) (by omega) (by omega) (fun q hq1 hq2 => wd_stop (by omega)) (by
        rcases Nat.lt_or_ge (2 * a + (2 * m + 1)) (2 * n - 1) with h4 | h4
        · rw [wd_part h4]; exact decide_eq_true (by omega)
        · rw [show 2 * a + (2 * m + 1) = 2 * n - 1 by omega]; exact wd_part_n) (by
        rw [show 2 * a + (2 * m + 1) - 2 * a = 2 * m + 1 by omega, sw_wd m (by omega), wd_fits hw hs]
        exact hfit)
      omega
  have h4 := h3 (min per (n - a) - 1) (by omega) (by omega)
  omega
theorem wd_at {per : Nat} (hw : 1 ≤ w) (hs : 0 ≤ s) (hper : (per : Int) = max ((A + s) / (w + s)) 1) : ∀ i, (∀ j, j < i → per * j < n) → lnAt (2 * n - 1) (wdL n w s) A i = 2 * min (per * i) n
  | 0, _ => by rw [Nat.mul_zero, Nat.zero_min]; rfl
  | i + 1, h => by
    have ih := wd_at hw hs hper i fun j hj => h j (by omega)
    have hi := h i (by omega)
    rw [Nat.min_eq_left (by omega)] at ih
    obtain ⟨t, ht⟩ := isLine (n := 2 * n - 1) (L := wdL n w s) (A := A) (o := lnAt (2 * n - 1) (wdL n w s) A i) (by omega)
    have e : lnAt (2 * n - 1) (wdL n w s) A (i + 1) = t + 1 := by rw [lnAt, ht.eq]; rfl
    rw [ih] at ht
    rw [e, wd_line hw hs hper hi ht, Nat.mul_succ]
    omega
theorem wd_lns {per : Nat} (hn : 1 ≤ n) (hw : 1 ≤ w) (hs : 0 ≤ s) (hper : (per : Int) = max ((A + s) / (w + s)) 1) :
    (∀ j, j < lnC (2 * n - 1) (wdL n w s) A → per * j < n) ∧ n ≤ per * lnC (2 * n - 1) (wdL n w s) A ∧ lnC (2 * n - 1) (wdL n w s) A = (n + per - 1) / per ∧
    ∀ j, j < lnC (2 * n - 1) (wdL n w s) A → spAt (lns (2 * n - 1) (wdL n w s) A) j = ⟨((2 * (per * j) : Nat) : Int), ((2 * (per * j + min per (n - per * j)) - 1 : Nat) : Int), (min per (n - per * j) : Nat) * w + ((min per (n - per * j) - 1 : Nat) : Int) * s⟩ := by
  obtain ⟨a1, a2, a3⟩ := lnC_spec (2 * n - 1) (wdL n w s) A
  generalize hc : lnC (2 * n - 1) (wdL n w s) A = c at *
  have hp : 1 ≤ per := by omega
  have b1 : ∀ i, i ≤ c → (∀ j, j < i → per * j < n) := by
    intro i
    induction i with
    | zero => intro _ j hj; omega
    | succ i ih =>
      intro hi j hj
      rcases Nat.lt_or_ge j i with h | h
      · exact ih (by omega) j h
      · have : j = i := by omega
        subst this
        have h1 := a2 j (by omega)
        rw [wd_at hw hs hper j (ih (by omega))] at h1
        omega
  have b2 := b1 c (Nat.le_refl _)
  have b3 : n ≤ per * c := by
    rw [wd_at hw hs hper c b2] at a3
    omega
  have hc0 : 0 < c := by
    rcases Nat.eq_zero_or_pos c with h | h
    · rw [h] at b3; omega
    · exact h
  refine ⟨b2, b3, ?_, fun j hj => ?_⟩
  · have b4 := b2 (c - 1) (by omega)
    have e : per * c = per * (c - 1) + per := by
      rw [← Nat.mul_succ, show (c - 1).succ = c by omega]
    symm
    rw [Nat.div_eq_iff (by omega)]
    rw [Nat.mul_comm c per]
    omega
  · have h1 := b2 j hj
    have e := wd_at hw hs hper j fun i hi => b2 i (by omega)
    rw [Nat.min_eq_left (by omega)] at e
    obtain ⟨t, ht⟩ := isLine (n := 2 * n - 1) (L := wdL n w s) (A := A) (o := lnAt (2 * n - 1) (wdL n w s) A j) (by omega)
    obtain ⟨c1, c2⟩ := wh_at (by rw [hc]; exact hj) ht
    rw [e] at ht c1
    have ht2 := wd_line hw hs hper h1 ht
    rw [c1]
    have e2 : t = 2 * (per * j + min per (n - per * j)) - 1 := by omega
    have e3 : t - 2 * (per * j) = 2 * (min per (n - per * j) - 1) + 1 := by omega
    have e4 := sw_wd (w := w) (s := s) (n := n) (a := per * j) (min per (n - per * j) - 1) (by omega)
    rw [e3, e4, e2, show min per (n - per * j) - 1 + 1 = min per (n - per * j) by omega]
theorem wd_most (hn : 1 ≤ n) (hw : 0 ≤ w ∧ w ≤ 1048576) (hs : 0 ≤ s ∧ s ≤ 1048576) : (lgS brk (wdL n w s) (2 * n - 1)).1 = (n : Int) * w + ((n - 1 : Nat) : Int) * s := by
  have h := lgS_mx (p := brk) (wdL_ok (n := n) hw hs) (o := 0) (.inl rfl) (2 * n - 1) fun j hj => by
    rw [Nat.zero_add, ← stop_brk hj]; exact wd_stop hj
  have h2 := sw_wd (w := w) (s := s) (n := n) (a := 0) (n - 1) (by omega)
  have h3 := sw_b (wdL_ok (n := n) hw hs) 0 (2 * n - 1)
  rw [Nat.mul_zero, show 2 * (n - 1) + 1 = 2 * n - 1 by omega, show n - 1 + 1 = n by omega] at h2
  rw [Nat.zero_add] at h
  have : (lgS brk (wdL n w s) 0).1 = 0 := rfl
  omega
theorem wd_least' (hw : 1 ≤ w) : ∀ m, m < n → lgS pSB (wdL n w s) (2 * m + 1) = (w, w)
  | 0, h => by
    have e := wdL_e (w := w) (s := s) (i := 0) (n := n) (by omega)
    rw [Nat.mul_zero] at e ⊢
    rw [lgS, e]
    show (mxI (0 + w) 0, 0 + w) = (w, w)
    rw [mxI_eq, Int.zero_add, Int.max_eq_left (by omega)]
  | m + 1, h => by
    have ih := wd_least' hw m (by omega)
    have e1 := wdL_o (w := w) (s := s) (i := m) (n := n) (by omega)
    have e2 := wdL_e (w := w) (s := s) (i := m + 1) (n := n) (by omega)
    have i1 : lgS pSB (wdL n w s) (2 * (m + 1)) = (w, 0) := by
      rw [show 2 * (m + 1) = 2 * m + 1 + 1 by omega, lgS, e1, ih]; rfl
    rw [lgS, e2, i1]
    show (mxI (0 + w) w, 0 + w) = (w, w)
    rw [mxI_eq, Int.zero_add, Int.max_eq_left (by omega)]
theorem wd_least (hn : 1 ≤ n) (hw : 1 ≤ w) : (lgS pSB (wdL n w s) (2 * n - 1)).1 = w := by
  have h := wd_least' (n := n) (s := s) hw (n - 1) (by omega)
  rw [show 2 * (n - 1) + 1 = 2 * n - 1 by omega] at h
  rw [h]
end
end Go.Proofs.Ytcpahifgdppkbaa.QAI
end
section
/- BrkWords: what the first loop comes to. -/
set_option linter.unusedVariables false
set_option linter.unusedSimpArgs false
namespace Go.Proofs.Ytcpahifgdppkbaa.QAI
open Go Go.RowKit
set_option maxRecDepth 100000
def wrS (n w s A : Int) : Nat → St
  | 0 => wr0 n w s A
  | j + 1 => wr1 n w s A (2 * j + 1) (wdL (j + 1) w s) ((j + 1 : Nat) : Int)
theorem wr_row0 (w s : Int) : (fun q => if q = 0 then [Value.int .i64 1, .int .i64 0, .int .i64 0, .int .i64 w] else [Value.int .i64 0, .int .i64 0, .int .i64 0, .int .i64 0]) = fun q => encG (wdL 1 w s q) := by
  funext q
  by_cases h : q = 0
  · subst h; rfl
  · rw [if_neg h]
    unfold wdL
    rw [if_neg (by omega)]
    rfl
theorem wr_row (j : Nat) (w s : Int) : (fun q => if q = 2 * j + 1 + 1 then [Value.int .i64 1, .int .i64 0, .int .i64 0, .int .i64 w] else updL (fun q => encG (wdL (j + 1) w s q)) (2 * j + 1) [[Value.int .i64 2, .int .i64 0, .int .i64 0, .int .i64 s]] q) = fun q => encG (wdL (j + 1 + 1) w s q) := by
  funext q
  simp only [updL, upd]
  by_cases h : q = 2 * j + 1 + 1
  · rw [if_pos h]
    unfold wdL
    rw [if_pos (by omega), if_pos (by omega)]
    rfl
  · rw [if_neg h]
    by_cases h1 : q = 2 * j + 1
    · rw [if_pos h1]
      unfold wdL
      rw [if_pos (by omega), if_neg (by omega)]
      rfl
    · rw [if_neg h1]
      unfold wdL
      by_cases h2 : q < 2 * (j + 1) - 1
      · rw [if_pos h2, if_pos (show q < 2 * (j + 1 + 1) - 1 by omega)]
      · rw [if_neg h2, if_neg (show ¬ q < 2 * (j + 1 + 1) - 1 by omega)]
theorem wr_loop {n : Nat} {w s A : Int} (hn : 1 ≤ n) (hn2 : n ≤ 64) : CodeSem wrG 0 (.loop (bodyOf Try.f26 0)) (wr0 n w s A) (.exit 0, wr1 n w s A (2 * n - 1) (wdL n w s) n) := by
  obtain ⟨m, rfl⟩ : ∃ m, n = m + 1 := ⟨n - 1, by omega⟩
  refine loop_of (wrS ((m + 1 : Nat) : Int) w s A) (m + 1) (by simp) ?_ fun j hj => ?_
  · exact rT_sem wrG_ok noLoopsS (rT_go wr_e ⟨by simp, trivial⟩)
  · cases j with
    | zero =>
      refine rT_sem wrG_ok noLoopsS ((rT_go wr_0 ?_).trans ?_)
      · repeat' (first | exact AllT.nil | refine AllT.cons ?_ ?_)
        all_goals first | (with_reducible rfl) | exact decide_eq_true (by omega)
      exact congrArg (fun f => some (Ex.normal, (⟨slots 131 [(0, I64 ((m + 1 : Nat) : Int)), (1, I64 w), (2, I64 s), (3, I64 A), (9, .c (.sl 0 0 1)), (10, I64 1)], [some ⟨87, true, .row 4 1 f⟩]⟩ : St))) (wr_row0 w s)
    | succ j =>
      have h3 := succ64 (j := j + 1) (by omega)
      have hmc : maxCells = 140737488355328 := rfl
      refine rT_sem wrG_ok noLoopsS ((rT_go wr_go ?_).trans ?_)
      · repeat' (first | exact AllT.nil | refine AllT.cons ?_ ?_)
        all_goals first | (with_reducible rfl) | exact decide_eq_true (by omega)
      · rw [h3]
        exact congrArg (fun f => some (Ex.normal, (⟨slots 131 [(0, I64 ((m + 1 : Nat) : Int)), (1, I64 w), (2, I64 s), (3, I64 A), (9, .c (.sl 0 0 (2 * j + 1 + 1 + 1))), (10, I64 ((j + 1 + 1 : Nat) : Int))], [some ⟨87, true, .row 4 (2 * j + 1 + 1 + 1) f⟩]⟩ : St))) (wr_row j w s)
end Go.Proofs.Ytcpahifgdppkbaa.QAI
end
section
/- BrkWords: what the second loop comes to. -/
set_option linter.unusedVariables false
set_option linter.unusedSimpArgs false
namespace Go.Proofs.Ytcpahifgdppkbaa.QAI
open Go Go.RowKit
set_option maxRecDepth 100000
theorem mul_b {x y X Y : Int} (h0 : 0 ≤ x) (h1 : x ≤ X) (g0 : 0 ≤ y) (g1 : y ≤ Y) : 0 ≤ x * y ∧ x * y ≤ X * Y :=
  ⟨Int.mul_nonneg h0 g0, Int.mul_le_mul h1 g1 g0 (by omega)⟩
theorem wr2_loop {n per c : Nat} {w s : Int} {k : Nat} {L : Nat → Gl} {S : Nat → Sp} (hn : n ≤ 64) (hp : 1 ≤ per) (hp2 : per ≤ 5000) (hw : 1 ≤ w) (hw2 : w ≤ 256) (hs : 0 ≤ s) (hs2 : s ≤ 63)
    (hc : ∀ j, j < c → per * j < n) (hcn : n ≤ per * c)
    (hS : ∀ j, j < c → S j = ⟨((2 * (per * j) : Nat) : Int), ((2 * (per * j + min per (n - per * j)) - 1 : Nat) : Int), (min per (n - per * j) : Nat) * w + ((min per (n - per * j) - 1 : Nat) : Int) * s⟩) (hc64 : c ≤ 200) :
    CodeSem wrG 0 (.loop (bodyOf Try.f26 1)) (wr2 n w s per n 0 k L c S) (.exit 2, wr2 n w s per 0 c k L c S) := by
  have hh := loop_of (G := wrG) (n0 := 0) (b := bodyOf Try.f26 1) (fun j => wr2 n w s per ((n - min (per * j) n : Nat) : Int) (j : Int) k L c S) c (e := .exit 2) (Se := wr2 n w s per ((n - min (per * c) n : Nat) : Int) (c : Int) k L c S) (by simp) ?_ fun j hj => ?_
  · rw [Nat.mul_zero, Nat.zero_min, Nat.sub_zero, Nat.min_eq_right hcn, Nat.sub_self] at hh
    exact hh
  · exact rT_sem wrG_ok noLoopsS (rT_go wr2_e ⟨by simp, trivial⟩)
  · have h3 := succ64 (j := j) (by omega)
    have h1 := hc j hj
    have h2 := hS j hj
    generalize hq : per * j = q at *
    have hq2 : per * (j + 1) = q + per := by rw [Nat.mul_succ, hq]
    have e1 : min q n = q := by omega
    have e2 : mnI ((n - q : Nat) : Int) per = ((min per (n - q) : Nat) : Int) := by rw [mnI_eq]; omega
    generalize hm : min per (n - q) = m at *
    have hm1 : 1 ≤ m := by omega
    have hm2 : m ≤ 64 := by omega
    have e3 : w64 (((n - q : Nat) : Int) - (m : Int)) = ((n - min (q + per) n : Nat) : Int) := by
      rw [w64_id (by omega) (by omega)]; omega
    have b1 := mul_b (x := (m : Int)) (y := w) (X := 64) (Y := 256) (by omega) (by omega) (by omega) hw2
    have b2 := mul_b (x := ((m - 1 : Nat) : Int)) (y := s) (X := 64) (Y := 63) (by omega) (by omega) hs hs2
    have e4 : w64 ((m : Int) - 1) = ((m - 1 : Nat) : Int) := by rw [w64_id (by omega) (by omega)]; omega
    have e5 : w64 (w64 ((m : Int) * w) + w64 (((m - 1 : Nat) : Int) * s)) = (m : Int) * w + ((m - 1 : Nat) : Int) * s := by
      rw [w64_id (x := (m : Int) * w) (by omega) (by omega), w64_id (x := ((m - 1 : Nat) : Int) * s) (by omega) (by omega), w64_id (by omega) (by omega)]
    have e6 : w64 (((2 * (q + m) - 1 : Nat) : Int) - ((2 * q : Nat) : Int)) = w64 (w64 (2 * (m : Int)) - 1) := by
      rw [w64_id (x := 2 * (m : Int)) (by omega) (by omega)]
      congr 1
      omega
    refine rT_sem wrG_ok noLoopsS ((rT_go wr2_go ?_).trans ?_)
    · simp only [Int.toNat_natCast, Nat.zero_add, h2, e1, e2, e4, e5, e6]
      repeat' (first | exact AllT.nil | refine AllT.cons ?_ ?_)
      all_goals first | (with_reducible rfl) | exact decide_eq_true (by omega) | (simp; done)
    · rw [h3, hq2]
      simp only [e1, e2, e3]
      rfl
end Go.Proofs.Ytcpahifgdppkbaa.QAI
end
section
/- BrkWords: the whole. -/
set_option linter.unusedVariables false
set_option linter.unusedSimpArgs false
namespace Go.Proofs.Ytcpahifgdppkbaa.QAI
open Go Go.RowKit
set_option maxRecDepth 100000
theorem brkWords_true (n w s A : Int) : ∃ keep tm d ℓ, LoopsSem (GT KBT keep 0 tm) ([] : AHeap).length ℓ ∧ (lfun (GT KBT keep 0 tm) ℓ d Try.f26 [I64 n, I64 w, I64 s, I64 A] []).eval = some (Bo true, []) := by
  have n1 : wN n = n % 64 + 1 := by
    have e : and64 n 63 = n % 64 := and_mask 6 (by decide) n 63 rfl
    rw [wN, e, w64_id (by omega) (by omega)]
  have w1 : wW w = w % 256 + 1 := by
    have e : and64 w 255 = w % 256 := and_mask 8 (by decide) w 255 rfl
    rw [wW, e, w64_id (by omega) (by omega)]
  have s1 : wB s = s % 64 := and_mask 6 (by decide) s 63 rfl
  have a1 : wA A = A % 4096 := and_mask 12 (by decide) A 4095 rfl
  obtain ⟨N, hN⟩ : ∃ N : Nat, wN n = N := ⟨(wN n).toNat, by omega⟩
  have hW1 : 1 ≤ wW w := by omega
  have hW2 : wW w ≤ 256 := by omega
  have hB1 : 0 ≤ wB s := by omega
  have hB2 : wB s ≤ 63 := by omega
  have hA1 : 0 ≤ wA A := by omega
  have hA2 : wA A ≤ 4095 := by omega
  have hN1 : 1 ≤ N := by omega
  have hN2 : N ≤ 64 := by omega
  have hq1 : 0 ≤ (wA A + wB s) / (wW w + wB s) := Int.ediv_nonneg (by omega) (by omega)
  have hq2 : (wA A + wB s) / (wW w + wB s) ≤ wA A + wB s := Int.ediv_le_self _ (by omega)
  have p1 : wPer w s A = max ((wA A + wB s) / (wW w + wB s)) 1 := by
    rw [wPer, w64_id (x := wA A + wB s) (by omega) (by omega), w64_id (x := wW w + wB s) (by omega) (by omega), Int.tdiv_eq_ediv_of_nonneg (by omega), w64_id (by omega) (by omega), mxI_eq]
    omega
  obtain ⟨P, hP⟩ : ∃ P : Nat, wPer w s A = P := ⟨(wPer w s A).toNat, by omega⟩
  have hP1 : (P : Int) = max ((wA A + wB s) / (wW w + wB s)) 1 := by rw [← hP, p1]
  have hP2 : 1 ≤ P := by omega
  have hP3 : P ≤ 5000 := by omega
  have hL : WOk (wdL N (wW w) (wB s)) := wdL_ok (by omega) (by omega)
  obtain ⟨l1, l2, l3, l4⟩ := wd_lns (n := N) (w := wW w) (s := wB s) (A := wA A) (per := P) hN1 hW1 hB1 hP1
  have l5 := (lnC_spec (2 * N - 1) (wdL N (wW w) (wB s)) (wA A)).1
  have hl1 := wr_loop (n := N) (w := wW w) (s := wB s) (A := wA A) hN1 hN2
  have hl2 := wr2_loop (n := N) (per := P) (c := wC A (2 * N - 1) (wdL N (wW w) (wB s))) (w := wW w) (s := wB s) (k := 2 * N - 1) (L := wdL N (wW w) (wB s)) (S := wX A (2 * N - 1) (wdL N (wW w) (wB s))) hN2 hP2 hP3 hW1 hW2 hB1 hB2 l1 l2 l4 (by unfold wC; exact Nat.le_trans l5 (by omega))
  rw [← hN] at hl1 hl2
  rw [← hP] at hl2
  have hyes : 2 * N - 1 ≤ 2 * N - 1 ∧ 2 * N - 1 < 2 ^ 30 ∧ ((fun j => encG (wdL N (wW w) (wB s) j)) = fun j => encG (decG (encG (wdL N (wW w) (wB s) j)))) ∧ WOk fun j => decG (encG (wdL N (wW w) (wB s) j)) := ⟨Nat.le_refl _, by omega, rfl, hL⟩
  have c1 : (((lnC (2 * N - 1) (fun j => decG (encG (wdL N (wW w) (wB s) j))) (wA A) : Nat) : Int)) = w64 ((w64 (w64 (wN n + wPer w s A) - 1)).tdiv (wPer w s A)) := by
    have e : lnC (2 * N - 1) (fun j => decG (encG (wdL N (wW w) (wB s) j))) (wA A) = (N + P - 1) / P := l3
    rw [e, hN, hP, w64_id (x := (N : Int) + P) (by omega) (by omega), w64_id (x := (N : Int) + P - 1) (by omega) (by omega), Int.tdiv_eq_ediv_of_nonneg (by omega)]
    have e2 : ((N : Int) + P - 1) / P = (((N + P - 1) / P : Nat) : Int) := by
      rw [Int.natCast_ediv]; congr 1; omega
    have e3 : (N + P - 1) / P ≤ N + P - 1 := Nat.div_le_self _ _
    rw [e2, w64_id (by omega) (by omega)]
  have c2 : (lgS pSB (fun j => decG (encG (wdL N (wW w) (wB s) j))) (2 * N - 1)).1 = wW w := wd_least hN1 hW1
  have b1 := mul_b (x := (N : Int)) (y := wW w) (X := 64) (Y := 256) (by omega) (by omega) (by omega) hW2
  have b2 := mul_b (x := ((N - 1 : Nat) : Int)) (y := wB s) (X := 64) (Y := 63) (by omega) (by omega) hB1 hB2
  have c3 : (lgS brk (fun j => decG (encG (wdL N (wW w) (wB s) j))) (2 * N - 1)).1 = w64 (w64 (wN n * wW w) + w64 (w64 (wN n - 1) * wB s)) := by
    have e : (lgS brk (fun j => decG (encG (wdL N (wW w) (wB s) j))) (2 * N - 1)).1 = (N : Int) * wW w + ((N - 1 : Nat) : Int) * wB s := wd_most hN1 (by omega) (by omega)
    have e4 : w64 ((N : Int) - 1) = ((N - 1 : Nat) : Int) := by rw [w64_id (by omega) (by omega)]; omega
    rw [e, hN, e4, w64_id (x := (N : Int) * wW w) (by omega) (by omega), w64_id (x := ((N - 1 : Nat) : Int) * wB s) (by omega) (by omega), w64_id (by omega) (by omega)]
  have d1 : w64 (wW w + wB s) ≠ 0 := by rw [w64_id (by omega) (by omega)]; omega
  have d2 : wPer w s A ≠ 0 := by omega
  refine ⟨_, [], 60, _, byReg_sem (r := 4) (tell_ok hl1) (tell_ok hl2), (Tr.go_eval (wr_w (n := n) (w := w) (s := s) (A := A) (k := 2 * N - 1) (L := wdL N (wW w) (wB s)) (i := wN n) (left := 0) (i2 := (wC A (2 * N - 1) (wdL N (wW w) (wB s)) : Int))) ?_).trans ?_⟩
  · repeat' (first | exact AllT.nil | refine AllT.cons ?_ ?_)
    all_goals first
      | (with_reducible rfl)
      | exact decide_eq_true d1
      | exact decide_eq_true d2
      | exact yes_of hyes
      | exact yes_of ⟨rfl, rfl⟩
      | (rw [c2]; simp; done)
      | (rw [c3]; simp; done)
      | (show (!(_ != _)) = true; rw [c1]; simp [wPer]; done)
      | (simp; done)
  · rfl
def brkWordsS : List Shp := [.one (.int .i64), .one (.int .i64), .one (.int .i64), .one (.int .i64)]
theorem brkWords_core : ∀ is, InsOk brkWordsS is → ∃ keep tm d ℓ, LoopsSem (GT KBT keep 0 tm) (blksIn brkWordsS is).length ℓ ∧ (lfun (GT KBT keep 0 tm) ℓ d Try.f26 (avsIn 0 brkWordsS is) (blksIn brkWordsS is)).eval = some (Bo true, blksIn brkWordsS is) := by
  intro is0 h0
  obtain ⟨v1, is1, rfl, h1⟩ := ins_i64 h0
  obtain ⟨v2, is2, rfl, h2⟩ := ins_i64 h1
  obtain ⟨v3, is3, rfl, h3⟩ := ins_i64 h2
  obtain ⟨v4, is4, rfl, h4⟩ := ins_i64 h3
  obtain rfl := ins_nil h4
  exact brkWords_true v1 v2 v3 v4
end Go.Proofs.Ytcpahifgdppkbaa.QAI
end
