/- RowPieces: plain. -/
import Derived.Test.YtcpahifgdppkbaaQRowStands11
section
set_option linter.unusedVariables false
set_option linter.unusedSimpArgs false
namespace Go.Proofs.Ytcpahifgdppkbaa.QAI
open Go Go.RowKit
theorem gl_ord {M : Int → Int} {R : Nat → Rn} {k i j : Nat} (hij : i < j) (hj : j < (glyphs M R k).length) : ltG (at_ (glyphs M R k) i) (at_ (glyphs M R k) j) := by
  have := List.Pairwise.sublist glyphs_sub (strR_lt (M := M) (R := R) (k := k))
  rw [at_get hj, at_get (show i < _ by omega)]
  exact List.pairwise_iff_getElem.1 this i j (by omega) hj hij
theorem ruN_n (K : Nat) (g : Nat → Int) {r : Nat} (h : r < m12 K) : (ruN K g r).n = r := by
  unfold ruN runsL
  rw [if_pos h]
  rfl
/-- Glyphs in order, of runs that tell their numbers. -/
structure Ord (n : Nat) (L : Nat → Gl) (R : Nat → Rn) : Prop where
  lt : ∀ i j, i < j → j < n → ltG (L i) (L j)
  nd : ∀ z, z < n → (R (L z).r.toNat).n = (L z).r
theorem gl_Ord {M : Int → Int} {R : Nat → Rn} {k : Nat} (h : ∀ r, r < k → (R r).n = r) : Ord (glyphs M R k).length (at_ (glyphs M R k)) R := by
  refine ⟨fun i j hij hj => gl_ord hij hj, fun z hz => ?_⟩
  obtain ⟨r, q, hr, hq, e⟩ := glyphs_mem (at_mem hz)
  rw [e]
  show (R ((r : Nat) : Int).toNat).n = (r : Int)
  rw [Int.toNat_natCast]
  exact h r hr
def inTt (t : Nat × Nat × Nat) (z : Nat) : Bool := decide (t.2.1 ≤ z) && decide (z < t.2.2)
section
variable {n : Nat} {L : Nat → Gl} {A : Int} {R : Nat → Rn} {s al : Int}
theorem in_iff (ho : Ord n L R) {t : Nat × Nat × Nat} (h1 : t.2.1 < t.2.2) (h2 : t.2.2 ≤ n) (hs : ∀ z, t.2.1 ≤ z → z < t.2.2 → (L z).r = (L t.2.1).r) {z : Nat} (hz : z < n) :
    ((L z).r = (pcT n L A R s al t).n ∧ (pcT n L A R s al t).f ≤ (L z).a ∧ (L z).a < (pcT n L A R s al t).t) ↔ (t.2.1 ≤ z ∧ z < t.2.2) := by
  have e1 : (pcT n L A R s al t).n = (L t.2.1).r := ho.nd _ (by omega)
  have e2 : (pcT n L A R s al t).f = (L t.2.1).a := rfl
  have e3 : (pcT n L A R s al t).t = (L (t.2.2 - 1)).a + 1 := rfl
  have e4 := hs (t.2.2 - 1) (by omega) (by omega)
  rw [e1, e2, e3]
  constructor
  · rintro ⟨h3, h4, h5⟩
    refine ⟨?_, ?_⟩
    · rcases Nat.lt_or_ge z t.2.1 with h | h
      · rcases ho.lt z t.2.1 h (by omega) with h6 | ⟨_, h6⟩ <;> omega
      · exact h
    · rcases Nat.lt_or_ge z t.2.2 with h | h
      · exact h
      · rcases ho.lt (t.2.2 - 1) z (by omega) hz with h6 | ⟨_, h6⟩ <;> omega
  · rintro ⟨h3, h4⟩
    have h5 := hs z h3 h4
    refine ⟨h5, ?_, ?_⟩
    · rcases Nat.lt_or_ge t.2.1 z with h | h
      · rcases ho.lt t.2.1 z h hz with h6 | ⟨_, h6⟩ <;> omega
      · have : z = t.2.1 := by omega
        rw [this]; exact Int.le_refl _
    · rcases Nat.lt_or_ge z (t.2.2 - 1) with h | h
      · rcases ho.lt z (t.2.2 - 1) h (by omega) with h6 | ⟨_, h6⟩ <;> omega
      · have : z = t.2.2 - 1 := by omega
        rw [this]; omega
theorem next_ok (ho : Ord n L R) {t u : Nat × Nat × Nat} (h1 : t.2.1 < t.2.2) (h2 : t.2.2 ≤ u.2.1) (h3 : u.2.1 < n) (hs : ∀ z, t.2.1 ≤ z → z < t.2.2 → (L z).r = (L t.2.1).r) :
    (pcT n L A R s al t).n ≤ (pcT n L A R s al u).n ∧ ((pcT n L A R s al u).n = (pcT n L A R s al t).n → (pcT n L A R s al t).t ≤ (pcT n L A R s al u).f) := by
  have e1 : (pcT n L A R s al t).n = (L t.2.1).r := ho.nd _ (by omega)
  have e2 : (pcT n L A R s al u).n = (L u.2.1).r := ho.nd _ h3
  have e3 : (pcT n L A R s al t).t = (L (t.2.2 - 1)).a + 1 := rfl
  have e4 : (pcT n L A R s al u).f = (L u.2.1).a := rfl
  have e5 := hs (t.2.2 - 1) (by omega) (by omega)
  rw [e1, e2, e3, e4]
  rcases ho.lt (t.2.2 - 1) u.2.1 (by omega) h3 with h6 | ⟨h7, h6⟩
  · exact ⟨by omega, fun h => by omega⟩
  · exact ⟨by omega, fun h => by omega⟩
end
/- Sums over pieces. -/
def inT (l : List (Nat × Nat × Nat)) : Nat → Nat
  | 0 => 0
  | q + 1 => inT l q + ((tAt l q).2.2 - (tAt l q).2.1)
def swT (L : Nat → Gl) (l : List (Nat × Nat × Nat)) : Nat → Int
  | 0 => 0
  | q + 1 => swT L l q + sw L (tAt l q).2.1 ((tAt l q).2.2 - (tAt l q).2.1)
theorem swT_b {L : Nat → Gl} (hL : WOk L) (l : List (Nat × Nat × Nat)) : ∀ q, 0 ≤ swT L l q ∧ swT L l q ≤ 1048576 * inT l q
  | 0 => by simp [swT, inT]
  | q + 1 => by
    have := swT_b hL l q
    have := sw_b hL (tAt l q).2.1 ((tAt l q).2.2 - (tAt l q).2.1)
    simp only [swT, inT]
    omega
theorem inT_le {n : Nat} {L : Nat → Gl} {A : Int} {c : Nat} {l : List (Nat × Nat × Nat)} (ok : TpOk n L A c l) (hc : ∀ j, j < c → lnAt n L A j ≤ n) : ∀ q, q < l.length → inT l q ≤ (tAt l q).2.1 ∧ inT l (q + 1) ≤ (tAt l q).2.2
  | 0, hq => by
    have := ok.gr 0 hq
    simp only [inT]; omega
  | q + 1, hq => by
    have h1 := inT_le ok hc q (by omega)
    have h2 := ok.step hc hq
    have h3 := ok.gr (q + 1) hq
    simp only [inT] at h1 ⊢
    omega
/-- Is a place in one of the first? -/
def covN (l : List (Nat × Nat × Nat)) (z : Nat) : Nat → Bool
  | 0 => false
  | i + 1 => covN l z i || inTt (tAt l i) z
theorem covN_iff (l : List (Nat × Nat × Nat)) (z : Nat) : ∀ i, covN l z i = true ↔ ∃ q, q < i ∧ (tAt l q).2.1 ≤ z ∧ z < (tAt l q).2.2
  | 0 => by simp [covN]
  | i + 1 => by
    rw [covN, Bool.or_eq_true, covN_iff l z i]
    simp only [inTt, Bool.and_eq_true, decide_eq_true_eq]
    constructor
    · rintro (⟨q, h1, h2⟩ | h)
      · exact ⟨q, by omega, h2⟩
      · exact ⟨i, by omega, h⟩
    · rintro ⟨q, h1, h2⟩
      rcases Nat.lt_or_ge q i with h | h
      · exact .inl ⟨q, h, h2⟩
      · have : q = i := by omega
        subst this
        exact .inr h2
def cntN (p : Nat → Bool) : Nat → Nat
  | 0 => 0
  | z + 1 => cntN p z + (bif p z then 1 else 0)
theorem cntN_le (p : Nat → Bool) : ∀ n, cntN p n ≤ n
  | 0 => Nat.le_refl _
  | n + 1 => by have := cntN_le p n; rw [cntN]; cases p n <;> simp <;> omega
theorem cntN_not (p : Nat → Bool) : ∀ n, cntN p n + cntN (fun z => !p z) n = n
  | 0 => rfl
  | n + 1 => by
    have := cntN_not p n
    rw [cntN, cntN]
    cases p n <;> simp <;> omega
theorem cntN_or {p r : Nat → Bool} : ∀ n, (∀ z, z < n → p z = true → r z = false) → cntN (fun z => p z || r z) n = cntN p n + cntN r n
  | 0, _ => rfl
  | n + 1, h => by
    have ih := cntN_or n fun z hz => h z (by omega)
    have hn := h n (by omega)
    rw [cntN, cntN, cntN, ih]
    cases hp : p n
    · cases r n <;> simp <;> omega
    · rw [hn hp]; simp; omega
theorem cntN_range (t : Nat × Nat × Nat) : ∀ n, cntN (inTt t) n = min n t.2.2 - t.2.1
  | 0 => by simp [cntN]
  | n + 1 => by
    rw [cntN, cntN_range t n]
    unfold inTt
    by_cases h1 : t.2.1 ≤ n
    · by_cases h2 : n < t.2.2
      · simp [h1, h2]; omega
      · simp [h1, h2]; omega
    · simp [h1]; omega
theorem cnt_cov {n : Nat} {L : Nat → Gl} {A : Int} {c : Nat} {l : List (Nat × Nat × Nat)} (ok : TpOk n L A c l) (hc : ∀ j, j < c → lnAt n L A j ≤ n) : ∀ i, i ≤ l.length → cntN (fun z => covN l z i) n = inT l i
  | 0, _ => by
    have : ∀ n, cntN (fun z => covN l z 0) n = 0 := fun n => by
      induction n with
      | zero => rfl
      | succ n ih => rw [cntN, ih]; rfl
    exact this n
  | i + 1, hi => by
    have h3 := ok.gr i (by omega)
    obtain ⟨ht, _⟩ := ln_line (hc _ (ok.ln i (by omega)))
    have hln := ht.ln
    have e : (fun z => covN l z (i + 1)) = fun z => covN l z i || inTt (tAt l i) z := rfl
    rw [e, cntN_or n, cnt_cov ok hc i (by omega), cntN_range, inT]
    · congr 1; omega
    · intro z hz hp
      obtain ⟨q, h1, h2, h4⟩ := (covN_iff l z i).1 hp
      have h5 := ok.before hc (q := q) (i - q - 1) (by omega)
      rw [show q + 1 + (i - q - 1) = i by omega] at h5
      simp only [inTt, Bool.and_eq_false_iff, decide_eq_false_iff_not]
      left; omega
theorem uncov {n : Nat} {L : Nat → Gl} {A : Int} {z : Nat} (hz : z < n) (h : covN (tpN n L A (lnC n L A)) z (tpN n L A (lnC n L A)).length = false) : (L z).k = 2 ∨ (L z).k = 4 := by
  have hc := fun j (hj : j < lnC n L A) => ln_le (n := n) (L := L) (A := A) j hj
  have ok := tp_ok (n := n) (L := L) (A := A) _ hc
  have h3 := (lnC_spec n L A).2.2
  obtain ⟨i, h1, h2, h4⟩ := ln_place (z := z) _ hc (by omega)
  obtain ⟨ht, _⟩ := ln_line (hc i h1)
  rcases Nat.lt_or_ge z (lnTo n L A i) with h5 | h5
  · obtain ⟨q, q1, q2, q3, q4⟩ := ok.cov i h1 z h2 h5
    have := (covN_iff (tpN n L A (lnC n L A)) z (tpN n L A (lnC n L A)).length).2 ⟨q, q1, q3, q4⟩
    rw [h] at this; cases this
  · have e : lnTo n L A i = z := by omega
    have hp := ht.part
    rw [e] at hp
    unfold partA at hp
    rw [stop_brk hz] at hp
    simp only [brk, spc, Bool.or_eq_true, beq_iff_eq] at hp
    rcases hp with hp | hp
    · exact .inr hp
    · exact .inl hp
theorem plA_tl' {M : Int → Int} {R : Nat → Rn} {k : Nat} {A st al : Int} : (plA M R k A st al).length = (tpN (glyphs M R k).length (at_ (glyphs M R k)) A (lnC (glyphs M R k).length (at_ (glyphs M R k)) A)).length := plN_tl
end Go.Proofs.Ytcpahifgdppkbaa.QAI
end
section
/- RowStands: plain. -/
set_option linter.unusedVariables false
set_option linter.unusedSimpArgs false
namespace Go.Proofs.Ytcpahifgdppkbaa.QAI
open Go Go.RowKit
theorem rnLs_b (i : Nat) : 0 ≤ rnLs.getD i 0 ∧ rnLs.getD i 0 ≤ 2000 := by
  rcases Nat.lt_or_ge i 6 with h | h
  · have : ∀ j : Fin 6, 0 ≤ rnLs.getD j.1 0 ∧ rnLs.getD j.1 0 ≤ 2000 := by decide
    exact this ⟨i, h⟩
  · have e : rnLs.getD i 0 = 0 := by
      rw [List.getD_eq_getElem?_getD, List.getElem?_eq_none (show rnLs.length ≤ i from h)]
      rfl
    rw [e]; decide
theorem ruN_l (K : Nat) (g : Nat → Int) {r : Nat} (h : r < m12 K) : 0 ≤ (ruN K g r).l ∧ (ruN K g r).l ≤ 2000 := by
  unfold ruN runsL
  rw [if_pos h]
  exact rnLs_b _
section
variable {n : Nat} {L : Nat → Gl} {A : Int} {R : Nat → Rn} {s al : Int}
theorem ud_ge {o : Nat} : ∀ c, upL s ≤ (udN R L s o c).1 ∧ s - upL s ≤ (udN R L s o c).2 ∧ ∀ j, j < c → upL (hR R (L (o + j))) ≤ (udN R L s o c).1 ∧ hR R (L (o + j)) - upL (hR R (L (o + j))) ≤ (udN R L s o c).2
  | 0 => ⟨Int.le_refl _, Int.le_refl _, fun j hj => absurd hj (Nat.not_lt_zero _)⟩
  | c + 1 => by
    obtain ⟨h1, h2, h3⟩ := ud_ge (o := o) c
    simp only [udN, mxI_eq]
    refine ⟨by omega, by omega, fun j hj => ?_⟩
    rcases Nat.lt_or_ge j c with h | h
    · have := h3 j h; omega
    · have : j = c := by omega
      subst this; omega
theorem lnY_step (h0 : 0 ≤ s) (i : Nat) : lnY n L A R s i + s ≤ lnY n L A R s (i + 1) ∧ lnY n L A R s i + (udL n L A R s i).1 ≤ lnY n L A R s (i + 1) := by
  have h := ud_ge (R := R) (L := L) (s := s) (o := lnAt n L A i) (lnTo n L A i - lnAt n L A i)
  have hu := upL_b h0
  simp only [lnY, udL] at *
  omega
theorem lnY_mono (h0 : 0 ≤ s) (i : Nat) : ∀ d : Nat, lnY n L A R s i ≤ lnY n L A R s (i + d)
  | 0 => Int.le_refl _
  | d + 1 => by
    have := lnY_mono h0 i d
    have := (lnY_step (n := n) (L := L) (A := A) (R := R) h0 (i + d)).1
    rw [← Nat.add_assoc]
    omega
theorem lnY_ge (h0 : 0 ≤ s) : ∀ i : Nat, (i : Int) * s ≤ lnY n L A R s i
  | 0 => by simp [lnY]
  | i + 1 => by
    have := lnY_ge h0 i
    have := (lnY_step (n := n) (L := L) (A := A) (R := R) h0 i).1
    rw [Int.natCast_add, Int.add_mul]
    omega
/-- No line is wider than there is room, where there is as much as the least. -/
theorem lnW_le (hL : WOk L) (hA : (lgS pSB L n).1 ≤ A) {i : Nat} (hi : i < lnC n L A) : lnW n L A i ≤ A := by
  have hc := fun j (hj : j < lnC n L A) => ln_le (n := n) (L := L) (A := A) j hj
  obtain ⟨ht, _⟩ := ln_line (hc i hi)
  rcases ht.why with h | h
  · have hst := lnAt_start (n := n) (L := L) (A := A) i (hc i hi) fun j hj => hc j (by omega)
    have hle := ht.le
    have hln := ht.ln
    have h2 := sw_lg (p := pSB) hL (n := n) (o := lnAt n L A i) (c := lnTo n L A i - lnAt n L A i) (by
      rcases hst with h3 | ⟨h3, h4⟩
      · exact .inl h3
      · right
        refine ⟨h3, ?_⟩
        have := (lnC_spec n L A).2.1 i hi
        rw [← part_pSB (n := n) (by omega)]
        exact h4) (fun j hj => by
      have := h (lnAt n L A i + j) (by omega) (by omega)
      rw [part_pSB (by omega)] at this
      exact this) (by omega)
    exact Int.le_trans h2 hA
  · exact h
/-- What is told of glyphs and runs. -/
structure GlF (n : Nat) (L : Nat → Gl) (R : Nat → Rn) (k : Nat) : Prop where
  gl : ∀ z, z < n → ∃ r : Nat, (L z).r = r ∧ r < k ∧ 0 ≤ (L z).a ∧ (L z).a < (R r).s.size
  ln : ∀ r, r < k → (R r).n = r ∧ 0 ≤ (R r).l ∧ (R r).l ≤ 2000
theorem st_one (hL : WOk L) (ho : Ord n L R) {k : Nat} (hg : GlF n L R k) (hA : (lgS pSB L n).1 ≤ A) (h0 : 0 ≤ s) {t : Nat × Nat × Nat} (hi : t.1 < lnC n L A) (h1 : lnAt n L A t.1 ≤ t.2.1) (h2 : t.2.1 < t.2.2) (h3 : t.2.2 ≤ lnTo n L A t.1) (hs : ∀ z, t.2.1 ≤ z → z < t.2.2 → (L z).r = (L t.2.1).r) :
    ∃ r : Nat, r < k ∧ (pcT n L A R s al t).n = r ∧ (pcT n L A R s al t).f < (pcT n L A R s al t).t ∧ 0 ≤ (pcT n L A R s al t).f ∧ (pcT n L A R s al t).t ≤ (R r).s.size ∧ 0 ≤ (pcT n L A R s al t).x ∧ 0 ≤ (pcT n L A R s al t).w ∧ (pcT n L A R s al t).x + (pcT n L A R s al t).w ≤ A ∧
      0 ≤ (pcT n L A R s al t).y ∧ (pcT n L A R s al t).y + (pcT n L A R s al t).h ≤ lnY n L A R s (lnC n L A) ∧ (pcT n L A R s al t).h = (R r).l ∧ (pcT n L A R s al t).y + upL (pcT n L A R s al t).h = lnY n L A R s t.1 + (udL n L A R s t.1).1 ∧ 0 ≤ (pcT n L A R s al t).h ∧ (pcT n L A R s al t).h ≤ 2000 := by
  have hc := fun j (hj : j < lnC n L A) => ln_le (n := n) (L := L) (A := A) j hj
  obtain ⟨ht, _⟩ := ln_line (hc t.1 hi)
  have hln := ht.ln
  obtain ⟨r, r1, r2, r3, r4⟩ := hg.gl t.2.1 (by omega)
  obtain ⟨r', r1', r2', r3', r4'⟩ := hg.gl (t.2.2 - 1) (by omega)
  have hsr := hs (t.2.2 - 1) (by omega) (by omega)
  have hrr : r' = r := by omega
  rw [hrr] at r4'
  obtain ⟨n1, n2, n3⟩ := hg.ln r r2
  have ehd : hR R (L t.2.1) = (R r).l := by
    unfold hR
    rw [r1, Int.toNat_natCast]
    exact hd_id n2 (by omega)
  have hud := ud_ge (R := R) (L := L) (s := s) (o := lnAt n L A t.1) (lnTo n L A t.1 - lnAt n L A t.1)
  have hu1 := hud.2.2 (t.2.1 - lnAt n L A t.1) (by omega)
  rw [show lnAt n L A t.1 + (t.2.1 - lnAt n L A t.1) = t.2.1 by omega, ehd] at hu1
  have hub := upL_b n2
  have hY := lnY_mono (n := n) (L := L) (A := A) (R := R) h0 (t.1 + 1) (lnC n L A - (t.1 + 1))
  rw [show t.1 + 1 + (lnC n L A - (t.1 + 1)) = lnC n L A by omega] at hY
  have hY0 := lnY_ge (n := n) (L := L) (A := A) (R := R) h0 t.1
  have hY00 : 0 ≤ (t.1 : Int) * s := Int.mul_nonneg (by omega) h0
  have hYs : lnY n L A R s (t.1 + 1) = lnY n L A R s t.1 + ((udN R L s (lnAt n L A t.1) (lnTo n L A t.1 - lnAt n L A t.1)).1 + (udN R L s (lnAt n L A t.1) (lnTo n L A t.1 - lnAt n L A t.1)).2) := rfl
  have hW := lnW_le hL hA hi
  have hX := stA_b A (lnW n L A t.1) al
  have s1 := sw_b hL (lnAt n L A t.1) (t.2.1 - lnAt n L A t.1)
  have s2 := sw_b hL t.2.1 (t.2.2 - t.2.1)
  have s3 := sw_add (L := L) (lnAt n L A t.1) (t.2.1 - lnAt n L A t.1) (t.2.2 - t.2.1)
  rw [show t.2.1 - lnAt n L A t.1 + (t.2.2 - t.2.1) = t.2.2 - lnAt n L A t.1 by omega, show lnAt n L A t.1 + (t.2.1 - lnAt n L A t.1) = t.2.1 by omega] at s3
  have s4 := sw_mono hL (lnAt n L A t.1) (show t.2.2 - lnAt n L A t.1 ≤ lnTo n L A t.1 - lnAt n L A t.1 by omega)
  have hWd : lnW n L A t.1 = sw L (lnAt n L A t.1) (lnTo n L A t.1 - lnAt n L A t.1) := rfl
  have hfa : (L t.2.1).a ≤ (L (t.2.2 - 1)).a := by
    rcases Nat.lt_or_ge t.2.1 (t.2.2 - 1) with h | h
    · rcases ho.lt t.2.1 (t.2.2 - 1) h (by omega) with h6 | ⟨_, h6⟩ <;> omega
    · rw [show t.2.2 - 1 = t.2.1 by omega]; exact Int.le_refl _
  refine ⟨r, r2, ?_⟩
  simp only [pcT, pcOf, ehd, r1, Int.toNat_natCast, n1, udL]
  refine ⟨trivial, by omega, r3, by omega, by omega, by omega, by omega, by omega, by omega, trivial, by omega, n2, n3⟩
theorem st_x {t u : Nat × Nat × Nat} (h1 : lnAt n L A t.1 ≤ t.2.1) (h2 : t.2.1 < t.2.2) (hi : u.1 = t.1) (hu : u.2.1 = t.2.2) : (pcT n L A R s al u).x = (pcT n L A R s al t).x + (pcT n L A R s al t).w := by
  have s3 := sw_add (L := L) (lnAt n L A t.1) (t.2.1 - lnAt n L A t.1) (t.2.2 - t.2.1)
  rw [show t.2.1 - lnAt n L A t.1 + (t.2.2 - t.2.1) = t.2.2 - lnAt n L A t.1 by omega, show lnAt n L A t.1 + (t.2.1 - lnAt n L A t.1) = t.2.1 by omega] at s3
  simp only [pcT, pcOf, hi, hu]
  omega
theorem st_base (h0 : 0 ≤ s) {i j : Nat} (hij : i < j) : lnY n L A R s i + (udL n L A R s i).1 ≤ lnY n L A R s j + (udL n L A R s j).1 := by
  have h1 := (lnY_step (n := n) (L := L) (A := A) (R := R) h0 i).2
  have h2 := lnY_mono (n := n) (L := L) (A := A) (R := R) h0 (i + 1) (j - (i + 1))
  rw [show i + 1 + (j - (i + 1)) = j by omega] at h2
  have h3 := ud_ge (R := R) (L := L) (s := s) (o := lnAt n L A j) (lnTo n L A j - lnAt n L A j)
  have hu := upL_b h0
  simp only [udL] at *
  omega
end
/-- How many lines the first pieces are on, at least. -/
def mxL (P : Nat → Pc) : Nat → Int
  | 0 => 0
  | q + 1 => mxI ((P q).l + 1) (mxL P q)
theorem mxL_b {P : Nat → Pc} {c : Int} (hc : 0 ≤ c) : ∀ n, (∀ q, q < n → (P q).l + 1 ≤ c) → 0 ≤ mxL P n ∧ mxL P n ≤ c
  | 0, _ => ⟨Int.le_refl _, hc⟩
  | n + 1, h => by
    have ih := mxL_b hc n fun q hq => h q (by omega)
    have := h n (by omega)
    simp only [mxL, mxI_eq]
    omega
theorem gl_F {M : Int → Int} {R : Nat → Rn} {k : Nat} (h : ∀ r, r < k → (R r).n = r ∧ 0 ≤ (R r).l ∧ (R r).l ≤ 2000) : GlF (glyphs M R k).length (at_ (glyphs M R k)) R k := by
  refine ⟨fun z hz => ?_, h⟩
  obtain ⟨r, q, hr, hq, e⟩ := glyphs_mem (at_mem hz)
  refine ⟨r, ?_⟩
  rw [e]
  simp only [gl]
  exact ⟨trivial, hr, by omega, by omega⟩
end Go.Proofs.Ytcpahifgdppkbaa.QAI
end
section
/- RowStands: what the walk comes to. -/
set_option linter.unusedVariables false
set_option linter.unusedSimpArgs false
namespace Go.Proofs.Ytcpahifgdppkbaa.QAI
open Go Go.RowKit
set_option maxRecDepth 100000
theorem rs_loop {K : Nat} {g : Nat → Int} {m : Nat} {n : Nat} {L : Nat → Gl} {A : Int} {R : Nat → Rn} {al : Int} (hL : WOk L) (ho : Ord n L R) (hg : GlF n L R m) (hn : n < 2 ^ 30) (hA : (lgS pSB L n).1 ≤ A) (hA2 : A ≤ 1125899906842624) (hsz : ∀ r, r < m → (R r).s.size < 2 ^ 30) :
    CodeSem rsG 1 (.loop (bodyOf Try.f35 0)) (rsS K g m R n L (tpN n L A (lnC n L A)).length (pcAt (plN n L A R 1280 al (lnC n L A))) A (lnY n L A R 1280 (lnC n L A)) 0 0)
      (.exit 0, rsS K g m R n L (tpN n L A (lnC n L A)).length (pcAt (plN n L A R 1280 al (lnC n L A))) A (lnY n L A R 1280 (lnC n L A)) (mxL (pcAt (plN n L A R 1280 al (lnC n L A))) (tpN n L A (lnC n L A)).length) (tpN n L A (lnC n L A)).length) := by
  have hc := fun j (hj : j < lnC n L A) => ln_le (n := n) (L := L) (A := A) j hj
  have ok := tp_ok (n := n) (L := L) (A := A) _ hc
  have hP := fun q hq => plN_at (n := n) (L := L) (A := A) (R := R) (s := 1280) (al := al) (i := lnC n L A) (q := q) hq
  have hlen := plN_len (n := n) (L := L) (A := A) (R := R) (s := 1280) (al := al) (lnC n L A) fun q hq => hc q hq
  rw [plN_tl] at hlen
  have hC := (lnC_spec n L A).1
  have hAt : lnAt n L A (lnC n L A) ≤ n + 1 := by
    generalize hcc : lnC n L A = cc
    cases cc with
    | zero => exact Nat.zero_le _
    | succ m => exact (lnAt_le (hc m (by omega))).2
  have hYb := lnY_b (n := n) (L := L) (A := A) (R := R) (s := 1280) (by omega) (by omega) (lnC n L A)
  have hone := fun q hq => st_one (s := 1280) (al := al) hL ho hg hA (by omega) (ok.ln q hq) (ok.gr q hq).1 (ok.gr q hq).2.1 (ok.gr q hq).2.2 (ok.same q hq)
  generalize hPP : pcAt (plN n L A R 1280 al (lnC n L A)) = P at hP ⊢
  generalize hll : tpN n L A (lnC n L A) = l at ok hP hlen hone ⊢
  refine loop_of (fun q => rsS K g m R n L l.length P A (lnY n L A R 1280 (lnC n L A)) (mxL P q) (q : Int)) l.length (by simp) ?_ fun q hq => ?_
  · exact rT_sem rsG_ok noLoopsS (rT_go rs_e ⟨by simp, trivial⟩)
  · have e3 := succ64 (j := q) (by omega)
    obtain ⟨r, hr, a1, a2, a3, a4, a5, a5', a6, a7, a8, a9, a10, a11, a12⟩ := hone q hq
    have hlq : (P q).l = (tAt l q).1 := by rw [hP q hq]; rfl
    have hqc := ok.ln q hq
    rw [← hP q hq] at a1 a2 a3 a4 a5 a5' a6 a7 a8 a9 a10 a11 a12
    have hszr := hsz r hr
    have hgl := hg.ln r hr
    have et : (P q).n.toNat = r := by rw [a1]; exact Int.toNat_natCast r
    have w1 : w64 ((P q).x + (P q).w) = (P q).x + (P q).w := w64_id (by omega) (by omega)
    have w2 : w64 ((P q).y + (P q).h) = (P q).y + (P q).h := w64_id (by omega) (by omega)
    have hu := upL_b a11
    have w3 : w64 ((P q).y + upL (P q).h) = (P q).y + upL (P q).h := w64_id (by omega) (by omega)
    have w4 : w64 ((P q).l + 1) = (P q).l + 1 := w64_id (by omega) (by omega)
    have c9 : (!((P q).h != (R r).l)) = true := by rw [a9]; simp
    have e5 : mxL P (q + 1) = mxI ((P q).l + 1) (mxL P q) := rfl
    by_cases h0 : q = 0
    · refine rT_sem rsG_ok noLoopsS ((rT_go rs_0 ?_).trans ?_)
      · try simp only [Int.toNat_natCast, Nat.zero_add, e3, e5, et, w1, w2, w3, w4]
        repeat' (first | exact AllT.nil | refine AllT.cons ?_ ?_)
        all_goals first | (with_reducible rfl) | (with_reducible assumption) | exact yes_of ⟨by omega, by omega⟩ | exact yes_of ⟨rfl, rfl⟩ | exact decide_eq_true (by omega) | exact beq_iff_eq.2 (by omega) | (simp; done) | (simp; omega)
      · try simp only [Int.toNat_natCast, Nat.zero_add, e3, e5, et, w1, w2, w3, w4]
        rfl
    · have i1 : w64 ((q : Int) - 1) = ((q - 1 : Nat) : Int) := by rw [w64_id (by omega) (by omega)]; omega
      obtain ⟨r', hr', b1, b2, b3, b4, b5, b5', b6, b7, b8, b9, b10, b11, b12⟩ := hone (q - 1) (by omega)
      have hlq' : (P (q - 1)).l = (tAt l (q - 1)).1 := by rw [hP (q - 1) (by omega)]; rfl
      have hn2 := ok.nxt (q - 1) (by omega)
      have hg1 := ok.gr (q - 1) (by omega)
      rw [show q - 1 + 1 = q by omega] at hn2
      have hu' := upL_b b11
      have hxx : (tAt l q).1 = (tAt l (q - 1)).1 → (tAt l q).2.1 = (tAt l (q - 1)).2.2 → (P q).x = (P (q - 1)).x + (P (q - 1)).w := fun e1 e2 => by
        rw [hP q hq, hP (q - 1) (by omega)]
        exact st_x hg1.1 hg1.2.1 e1 e2
      rw [← hP (q - 1) (by omega)] at b1 b2 b3 b4 b5 b5' b6 b7 b8 b9 b10 b11 b12 hu'
      have v1 : w64 ((P (q - 1)).x + (P (q - 1)).w) = (P (q - 1)).x + (P (q - 1)).w := w64_id (by omega) (by omega)
      have v3 : w64 ((P (q - 1)).y + upL (P (q - 1)).h) = (P (q - 1)).y + upL (P (q - 1)).h := w64_id (by omega) (by omega)
      rcases hn2 with ⟨n1, n2, _⟩ | ⟨n1, _⟩
      · have x1 := hxx n1 n2
        have x2 : (P q).l = (P (q - 1)).l := by rw [hlq, hlq', n1]
        have x3 : (P q).y + upL (P q).h = (P (q - 1)).y + upL (P (q - 1)).h := by rw [a10, b10, n1]
        have d1 : ((P q).l == (P (q - 1)).l) = true := by simpa using x2
        have d2 : (!((P q).y + upL (P q).h != (P (q - 1)).y + upL (P (q - 1)).h)) = true := by rw [x3]; simp
        have d3 : (!((P q).x != (P (q - 1)).x + (P (q - 1)).w)) = true := by rw [x1]; simp
        refine rT_sem rsG_ok noLoopsS ((rT_go rs_s ?_).trans ?_)
        · try simp only [Int.toNat_natCast, Nat.zero_add, e3, e5, et, i1, w1, w2, w3, w4, v1, v3]
          repeat' (first | exact AllT.nil | refine AllT.cons ?_ ?_)
          all_goals first | (with_reducible rfl) | (with_reducible assumption) | exact yes_of ⟨by omega, by omega⟩ | exact yes_of ⟨rfl, rfl⟩ | exact decide_eq_true (by omega) | exact beq_iff_eq.2 (by omega) | (simp; done) | (simp; omega)
        · try simp only [Int.toNat_natCast, Nat.zero_add, e3, e5, et, i1, w1, w2, w3, w4, v1, v3]
          rfl
      · have hb := st_base (n := n) (L := L) (A := A) (R := R) (s := 1280) (by omega) n1
        have d1 : (!((P q).l == (P (q - 1)).l)) = true := by
          have : ((P q).l == (P (q - 1)).l) = false := by rw [beq_eq_false_iff_ne]; omega
          rw [this]; rfl
        refine rT_sem rsG_ok noLoopsS ((rT_go rs_d ?_).trans ?_)
        · try simp only [Int.toNat_natCast, Nat.zero_add, e3, e5, et, i1, w1, w2, w3, w4, v1, v3]
          repeat' (first | exact AllT.nil | refine AllT.cons ?_ ?_)
          all_goals first | (with_reducible rfl) | (with_reducible assumption) | exact yes_of ⟨by omega, by omega⟩ | exact yes_of ⟨rfl, rfl⟩ | exact decide_eq_true (by omega) | exact beq_iff_eq.2 (by omega) | (simp; done) | (simp; omega)
        · try simp only [Int.toNat_natCast, Nat.zero_add, e3, e5, et, i1, w1, w2, w3, w4, v1, v3]
          rfl
end Go.Proofs.Ytcpahifgdppkbaa.QAI
end
section
/- RowStands: the whole. -/
set_option linter.unusedVariables false
set_option linter.unusedSimpArgs false
namespace Go.Proofs.Ytcpahifgdppkbaa.QAI
open Go Go.RowKit
set_option maxRecDepth 100000
theorem rowStands_true (a : Nat → Int) (K : Nat) (g : Nat → Int) (A al : Int) : ∃ keep tm d ℓ, LoopsSem (GT KRS keep 0 tm) [rowJ false K g].length ℓ ∧ (lfun (GT KRS keep 0 tm) ℓ d Try.f35 [aA a, .c (.sl 0 0 K), I64 A, I64 al] [rowJ false K g]).eval = some (Bo true, [rowJ false K g]) := by
  obtain ⟨hm, _⟩ := m12_le K
  have hA : and64 A 4095 = A % 4096 := and_mask 12 (by decide) A 4095 rfl
  have hlen := ruN_len K g
  have ho : Ord (glyphs (Mt (tzA a)) (ruN K g) (m12 K)).length (at_ (glyphs (Mt (tzA a)) (ruN K g) (m12 K))) (ruN K g) := gl_Ord fun r hr => ruN_n K g hr
  have hgF : GlF (glyphs (Mt (tzA a)) (ruN K g) (m12 K)).length (at_ (glyphs (Mt (tzA a)) (ruN K g) (m12 K))) (ruN K g) (m12 K) := gl_F fun r hr => ⟨ruN_n K g hr, ruN_l K g hr⟩
  have hgl := glyphs_len (M := Mt (tzA a)) (R := ruN K g) (k := m12 K)
  have hwk := gl_wok (a := tzA a) (R := ruN K g) (k := m12 K)
  have ez : (fun i => ruN K g (0 + i)) = ruN K g := zero_fun _
  have ez2 : (fun i => decN (encN (runsL (fun j => vd (v1 (g (0 + j)))) (m12 K) (0 + i)))) = ruN K g := funext fun i => by rw [Nat.zero_add]; rfl
  have ez3 : (fun i => decN (encN (runsL (fun j => vd (v1 (g (0 + j)))) (m12 K) i))) = ruN K g := rfl
  have ez4 : (fun k => tz (fun k => a k) k) = tzA a := rfl
  have ez5 : (fun j => decG (encG (at_ (glyphs (Mt (tzA a)) (ruN K g) (m12 K)) j))) = at_ (glyphs (Mt (tzA a)) (ruN K g) (m12 K)) := rfl
  have hlb := lgS_b (p := pSB) hwk (glyphs (Mt (tzA a)) (ruN K g) (m12 K)).length
  have eA : w64 (and64 A 4095 + (lgS pSB (at_ (glyphs (Mt (tzA a)) (ruN K g) (m12 K))) (glyphs (Mt (tzA a)) (ruN K g) (m12 K)).length).1) = and64 A 4095 + (lgS pSB (at_ (glyphs (Mt (tzA a)) (ruN K g) (m12 K))) (glyphs (Mt (tzA a)) (ruN K g) (m12 K)).length).1 := w64_id (by omega) (by omega)
  have hsz : ∀ r, r < m12 K → (ruN K g r).s.size < 2 ^ 30 := fun r hr => by
    have := lenR_le (R := ruN K g) (k := m12 K) r hr
    omega
  have eh : hd 1280 = 1280 := hd_id (by omega) (by omega)
  have l1 := rs_loop (K := K) (g := g) (al := and64 al 3) (A := and64 A 4095 + (lgS pSB (at_ (glyphs (Mt (tzA a)) (ruN K g) (m12 K))) (glyphs (Mt (tzA a)) (ruN K g) (m12 K)).length).1) hwk ho hgF (by omega) (by omega) (by omega) hsz
  have h1 := fun n z => rs_w (K := K) (g := g) (a := a) (A := A) (al := al) (n := n) (z := z)
  have h0 := fun n z => rs_w0 (K := K) (g := g) (a := a) (A := A) (al := al) (n := n) (z := z)
  simp only [ez, eA] at h1 h0
  generalize hAA : and64 A 4095 + (lgS pSB (at_ (glyphs (Mt (tzA a)) (ruN K g) (m12 K))) (glyphs (Mt (tzA a)) (ruN K g) (m12 K)).length).1 = A' at l1 h1 h0 eA
  have hcc := (lnC_spec (glyphs (Mt (tzA a)) (ruN K g) (m12 K)).length (at_ (glyphs (Mt (tzA a)) (ruN K g) (m12 K))) A').1
  have ok := tp_ok (n := (glyphs (Mt (tzA a)) (ruN K g) (m12 K)).length) (L := at_ (glyphs (Mt (tzA a)) (ruN K g) (m12 K))) (A := A') _ fun j hj => ln_le j hj
  have hmx := mxL_b (P := pcAt (plN (glyphs (Mt (tzA a)) (ruN K g) (m12 K)).length (at_ (glyphs (Mt (tzA a)) (ruN K g) (m12 K))) A' (ruN K g) 1280 (and64 al 3) (lnC (glyphs (Mt (tzA a)) (ruN K g) (m12 K)).length (at_ (glyphs (Mt (tzA a)) (ruN K g) (m12 K))) A'))) (c := (lnC (glyphs (Mt (tzA a)) (ruN K g) (m12 K)).length (at_ (glyphs (Mt (tzA a)) (ruN K g) (m12 K))) A' : Nat)) (by omega)
    (tpN (glyphs (Mt (tzA a)) (ruN K g) (m12 K)).length (at_ (glyphs (Mt (tzA a)) (ruN K g) (m12 K))) A' (lnC (glyphs (Mt (tzA a)) (ruN K g) (m12 K)).length (at_ (glyphs (Mt (tzA a)) (ruN K g) (m12 K))) A')).length fun q hq => by
      rw [plN_at hq]
      have := ok.ln q hq
      simp only [pcT, pcOf]
      omega
  have hY := lnY_ge (n := (glyphs (Mt (tzA a)) (ruN K g) (m12 K)).length) (L := at_ (glyphs (Mt (tzA a)) (ruN K g) (m12 K))) (A := A') (R := ruN K g) (s := 1280) (by omega) (lnC (glyphs (Mt (tzA a)) (ruN K g) (m12 K)).length (at_ (glyphs (Mt (tzA a)) (ruN K g) (m12 K))) A')
  have hyz : (glyphs (Mt (tzA a)) (ruN K g) (m12 K)).length = 0 → lnY (glyphs (Mt (tzA a)) (ruN K g) (m12 K)).length (at_ (glyphs (Mt (tzA a)) (ruN K g) (m12 K))) A' (ruN K g) 1280 (lnC (glyphs (Mt (tzA a)) (ruN K g) (m12 K)).length (at_ (glyphs (Mt (tzA a)) (ruN K g) (m12 K))) A') = 0 := fun h => by
    have : lnC (glyphs (Mt (tzA a)) (ruN K g) (m12 K)).length (at_ (glyphs (Mt (tzA a)) (ruN K g) (m12 K))) A' = 0 := by omega
    rw [this]; rfl
  have eY : plY (Mt (tzA a)) (ruN K g) (m12 K) A' 1280 = lnY (glyphs (Mt (tzA a)) (ruN K g) (m12 K)).length (at_ (glyphs (Mt (tzA a)) (ruN K g) (m12 K))) A' (ruN K g) 1280 (lnC (glyphs (Mt (tzA a)) (ruN K g) (m12 K)).length (at_ (glyphs (Mt (tzA a)) (ruN K g) (m12 K))) A') := by
    unfold plY; rw [eh]
  have eP : plA (Mt (tzA a)) (ruN K g) (m12 K) A' 1280 (and64 al 3) = plN (glyphs (Mt (tzA a)) (ruN K g) (m12 K)).length (at_ (glyphs (Mt (tzA a)) (ruN K g) (m12 K))) A' (ruN K g) 1280 (and64 al 3) (lnC (glyphs (Mt (tzA a)) (ruN K g) (m12 K)).length (at_ (glyphs (Mt (tzA a)) (ruN K g) (m12 K))) A') := by
    unfold plA; rw [eh]
  rw [← plN_tl (R := ruN K g) (s := 1280) (al := and64 al 3), ← eP, ← eY] at l1
  rw [← plN_tl (R := ruN K g) (s := 1280) (al := and64 al 3), ← eP] at hmx
  rw [← eY] at hY hyz
  generalize mxL (pcAt (plA (Mt (tzA a)) (ruN K g) (m12 K) A' 1280 (and64 al 3))) (plA (Mt (tzA a)) (ruN K g) (m12 K) A' 1280 (and64 al 3)).length = nn at l1 hmx
  have w1 : w64 (nn * 1280) = nn * 1280 := w64_id (by omega) (by omega)
  rcases Nat.eq_zero_or_pos (glyphs (Mt (tzA a)) (ruN K g) (m12 K)).length with hz | hz
  · have hy0 := hyz hz
    refine ⟨_, [], 60, _, tell_ok l1, (Tr.go_eval (h0 nn ((plA (Mt (tzA a)) (ruN K g) (m12 K) A' 1280 (and64 al 3)).length : Nat)) ?_).trans rfl⟩
    try simp only [ez2, ez3, ez4, ez5, hAA, eA, w1]
    repeat' (first | exact AllT.nil | refine AllT.cons ?_ ?_)
    all_goals first
      | (with_reducible rfl)
      | exact yes_of ⟨rfl, rfl⟩
      | exact decide_eq_true (by omega)
      | exact beq_iff_eq.2 hy0
      | (rw [decide_eq_false (show ¬ ((glyphs (Mt (tzA a)) (ruN K g) (m12 K)).length : Int) > 0 by omega)]; rfl)
      | (simp; omega)
      | (refine yes_of ?_
         repeat' (first | exact trivial | (with_reducible rfl) | refine And.intro ?_ ?_)
         all_goals first | omega | exact gl_wok | exact Nat.le_refl _ | (show lenR (ruN K g) (m12 K) < 2 ^ 30; omega) | (show lenR (ruN K g) (m12 K) < 2 ^ 39; omega) | (show (glyphs (Mt (tzA a)) (ruN K g) (m12 K)).length < 2 ^ 30; omega) | rfl)
  · refine ⟨_, [], 60, _, tell_ok l1, (Tr.go_eval (h1 nn ((plA (Mt (tzA a)) (ruN K g) (m12 K) A' 1280 (and64 al 3)).length : Nat)) ?_).trans rfl⟩
    try simp only [ez2, ez3, ez4, ez5, hAA, eA, w1]
    repeat' (first | exact AllT.nil | refine AllT.cons ?_ ?_)
    all_goals first
      | (with_reducible rfl)
      | exact yes_of ⟨rfl, rfl⟩
      | exact decide_eq_true (by omega)
      | (simp; omega)
      | (refine yes_of ?_
         repeat' (first | exact trivial | (with_reducible rfl) | refine And.intro ?_ ?_)
         all_goals first | omega | exact gl_wok | exact Nat.le_refl _ | (show lenR (ruN K g) (m12 K) < 2 ^ 30; omega) | (show lenR (ruN K g) (m12 K) < 2 ^ 39; omega) | (show (glyphs (Mt (tzA a)) (ruN K g) (m12 K)).length < 2 ^ 30; omega) | rfl)
def rowStandsS : List Shp := [.arr 256 (.int .i64), .rows 2 [.int .i64], .one (.int .i64), .one (.int .i64)]
theorem rowStands_core : ∀ is, InsOk rowStandsS is → ∃ keep tm d ℓ, LoopsSem (GT KRS keep 0 tm) (blksIn rowStandsS is).length ℓ ∧ (lfun (GT KRS keep 0 tm) ℓ d Try.f35 (avsIn 0 rowStandsS is) (blksIn rowStandsS is)).eval = some (Bo true, blksIn rowStandsS is) := by
  intro is0 h0
  obtain ⟨v0, is1, rfl, h1⟩ := ins_arr h0
  obtain ⟨k2, v2, is3, rfl, h3, _⟩ := ins_ints h1
  obtain ⟨v3, is4, rfl, h4⟩ := ins_i64 h3
  obtain ⟨v4, is5, rfl, h5⟩ := ins_i64 h4
  obtain rfl := ins_nil h5
  exact rowStands_true v0 k2 v2 v3 v4
end Go.Proofs.Ytcpahifgdppkbaa.QAI
end
