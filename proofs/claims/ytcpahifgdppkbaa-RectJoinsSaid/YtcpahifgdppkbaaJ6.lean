/- RectJoins: the whole law. -/
import Derived.Test.YtcpahifgdppkbaaJ5
set_option linter.unusedVariables false
set_option linter.unusedSimpArgs false
namespace Go.Proofs.Ytcpahifgdppkbaa.QAI
open Go Go.RowKit
set_option maxRecDepth 100000
theorem bX_le {t : Nat → Rc} {m i : Nat} (hi : i < m) : bX (rowE t) 0 m ≤ (t i).x := by
  have := (mnO_ge (x := rX t) (o := 0) (b := bX (rowE t) 0 m) (m - 1)).1 (Int.le_refl _) i (by omega)
  simpa [rX] using this
theorem bY_le {t : Nat → Rc} {m i : Nat} (hi : i < m) : bY (rowE t) 0 m ≤ (t i).y := by
  have := (mnO_ge (x := rY t) (o := 0) (b := bY (rowE t) 0 m) (m - 1)).1 (Int.le_refl _) i (by omega)
  simpa [rY] using this
theorem bX2_ge {t : Nat → Rc} {m i : Nat} (hi : i < m) : w64 ((t i).x + (t i).w) ≤ bX2 (rowE t) 0 m := by
  have := (mxO_le (x := rX2 t) (o := 0) (b := bX2 (rowE t) 0 m) (m - 1)).1 (Int.le_refl _) i (by omega)
  simpa [rX2] using this
theorem bY2_ge {t : Nat → Rc} {m i : Nat} (hi : i < m) : w64 ((t i).y + (t i).h) ≤ bY2 (rowE t) 0 m := by
  have := (mxO_le (x := rY2 t) (o := 0) (b := bY2 (rowE t) 0 m) (m - 1)).1 (Int.le_refl _) i (by omega)
  simpa [rY2] using this
theorem mnO_mem (x : Nat → Int) (o : Nat) : ∀ i, ∃ j, j ≤ i ∧ mnO x o i = x (o + j)
  | 0 => ⟨0, Nat.le_refl _, rfl⟩
  | i + 1 => by
    obtain ⟨j, h1, h2⟩ := mnO_mem x o i
    simp only [mnO]
    by_cases h : x (o + 1 + i) < mnO x o i
    · exact ⟨i + 1, Nat.le_refl _, by rw [show o + (i + 1) = o + 1 + i by omega, mnI_eq]; omega⟩
    · exact ⟨j, by omega, by rw [← h2, mnI_eq]; omega⟩
theorem mxO_mem (x : Nat → Int) (o : Nat) : ∀ i, ∃ j, j ≤ i ∧ mxO x o i = x (o + j)
  | 0 => ⟨0, Nat.le_refl _, rfl⟩
  | i + 1 => by
    obtain ⟨j, h1, h2⟩ := mxO_mem x o i
    simp only [mxO]
    by_cases h : mxO x o i < x (o + 1 + i)
    · exact ⟨i + 1, Nat.le_refl _, by rw [show o + (i + 1) = o + 1 + i by omega, mxI_eq]; omega⟩
    · exact ⟨j, by omega, by rw [← h2, mxI_eq]; omega⟩
theorem bX_mem {t : Nat → Rc} {m : Nat} (h : 0 < m) : ∃ j, j < m ∧ bX (rowE t) 0 m = (t j).x := by
  obtain ⟨j, h1, h2⟩ := mnO_mem (rX t) 0 (m - 1)
  exact ⟨j, by omega, by rw [Nat.zero_add] at h2; exact h2⟩
theorem bY_mem {t : Nat → Rc} {m : Nat} (h : 0 < m) : ∃ j, j < m ∧ bY (rowE t) 0 m = (t j).y := by
  obtain ⟨j, h1, h2⟩ := mnO_mem (rY t) 0 (m - 1)
  exact ⟨j, by omega, by rw [Nat.zero_add] at h2; exact h2⟩
theorem bX2_mem {t : Nat → Rc} {m : Nat} (h : 0 < m) : ∃ j, j < m ∧ bX2 (rowE t) 0 m = w64 ((t j).x + (t j).w) := by
  obtain ⟨j, h1, h2⟩ := mxO_mem (rX2 t) 0 (m - 1)
  exact ⟨j, by omega, by rw [Nat.zero_add] at h2; exact h2⟩
theorem bY2_mem {t : Nat → Rc} {m : Nat} (h : 0 < m) : ∃ j, j < m ∧ bY2 (rowE t) 0 m = w64 ((t j).y + (t j).h) := by
  obtain ⟨j, h1, h2⟩ := mxO_mem (rY2 t) 0 (m - 1)
  exact ⟨j, by omega, by rw [Nat.zero_add] at h2; exact h2⟩
/-- Where what they have together lies. -/
structure BoxOk (A B R D : Int) : Prop where
  a : -(2 ^ 43 : Int) ≤ A ∧ A ≤ 2 ^ 43
  b : -(2 ^ 43 : Int) ≤ B ∧ B ≤ 2 ^ 43
  r : A ≤ R ∧ R ≤ 2 ^ 44
  d : B ≤ D ∧ D ≤ 2 ^ 44
theorem box_ok {t : Nat → Rc} (ht : ∀ j, RcB (t j)) {m : Nat} (h : 0 < m) : BoxOk (bX (rowE t) 0 m) (bY (rowE t) 0 m) (bX2 (rowE t) 0 m) (bY2 (rowE t) 0 m) := by
  obtain ⟨j1, l1, e1⟩ := bX_mem (t := t) h
  obtain ⟨j2, l2, e2⟩ := bY_mem (t := t) h
  obtain ⟨j3, l3, e3⟩ := bX2_mem (t := t) h
  obtain ⟨j4, l4, e4⟩ := bY2_mem (t := t) h
  have b1 := ht j1
  have b2 := ht j2
  have b3 := ht j3
  have b4 := ht j4
  have u3 := bX_le (t := t) l3
  have u4 := bY_le (t := t) l4
  simp only [RcB] at b1 b2 b3 b4
  rw [w64_in (by omega)] at e3 e4
  constructor <;> omega
theorem jq_loop {L k : Nat} {g : Nat → Rc} {m : Nat} {t : Nat → Rc} (h0 : 0 < m) (h20 : m ≤ 20) (hL : 20 < L) (ht : ∀ j, RcB (t j)) :
    (iter (arun (rjnG L) 1 48 (bodyOf Try.f9 1)) (canon (rjnG L).T 1 ((rjnG L).keep 14)) L (jqB k g m t)).eval = some (jqZ k g m t) := by
  have hb := box_ok ht h0
  obtain ⟨j1, l1, e1⟩ := bX_mem (t := t) h0
  obtain ⟨j2, l2, e2⟩ := bY_mem (t := t) h0
  obtain ⟨j3, l3, e3⟩ := bX2_mem (t := t) h0
  obtain ⟨j4, l4, e4⟩ := bY2_mem (t := t) h0
  have hx : ∀ i, i < m → bX (rowE t) 0 m ≤ (t i).x := fun i hi => bX_le hi
  have hy : ∀ i, i < m → bY (rowE t) 0 m ≤ (t i).y := fun i hi => bY_le hi
  have hx2 : ∀ i, i < m → w64 ((t i).x + (t i).w) ≤ bX2 (rowE t) 0 m := fun i hi => bX2_ge hi
  have hy2 : ∀ i, i < m → w64 ((t i).y + (t i).h) ≤ bY2 (rowE t) 0 m := fun i hi => bY2_ge hi
  unfold jqB jqZ
  generalize bX (rowE t) 0 m = A at *
  generalize bY (rowE t) 0 m = B at *
  generalize bX2 (rowE t) 0 m = R at *
  generalize bY2 (rowE t) 0 m = D at *
  obtain ⟨ha, hbb, hr, hd⟩ := hb
  have wr1 : w64 (A + w64 (R - A)) = R := by rw [w64_in (x := R - A) (by omega), w64_in (by omega)]; omega
  have wd1 : w64 (B + w64 (D - B)) = D := by rw [w64_in (x := D - B) (by omega), w64_in (by omega)]; omega
  refine iter_upto (fun i => jqS k g m t A B (w64 (R - A)) (w64 (D - B)) (exF (fun j => (t j).x == A) i) (exF (fun j => (t j).y == B) i) (exF (fun j => w64 ((t j).x + (t j).w) == w64 (A + w64 (R - A))) i) (exF (fun j => w64 ((t j).y + (t j).h) == w64 (B + w64 (D - B))) i) i) (N := m) (by simp [jq_er]) ?_ L 0 (Nat.zero_le _) (by omega) fun i _ hi => ?_
  · have f1 : exF (fun j => (t j).x == A) m = true := exF_true l1 (by rw [e1]; exact beq_self_eq_true _)
    have f2 : exF (fun j => (t j).y == B) m = true := exF_true l2 (by rw [e2]; exact beq_self_eq_true _)
    have f3 : exF (fun j => w64 ((t j).x + (t j).w) == w64 (A + w64 (R - A))) m = true := exF_true l3 (by rw [wr1, e3]; exact beq_self_eq_true _)
    have f4 : exF (fun j => w64 ((t j).y + (t j).h) == w64 (B + w64 (D - B))) m = true := exF_true l4 (by rw [wd1, e4]; exact beq_self_eq_true _)
    simp only [f1, f2, f3, f4]
    exact round_go jq_e ⟨by simp, trivial⟩
  · have b := ht i
    have q1 := hx i hi
    have q2 := hy i hi
    have q3 := hx2 i hi
    have q4 := hy2 i hi
    simp only [RcB] at b
    rw [w64_in (by omega)] at q3 q4
    have s1 : w64 (R - A) = R - A := w64_in (by omega)
    have s2 : w64 (D - B) = D - B := w64_in (by omega)
    refine jq_step hi h20 ?_ ?_ ?_ ?_ ?_
    · rw [s1, s2, meetB_iff (by omega) (by omega) (by omega) (by omega) (by omega) (by omega) (by omega) (by omega)]
      omega
    · rw [mxI_eq]; omega
    · rw [mxI_eq]; omega
    · rw [wr1, w64_in (x := (t i).x + (t i).w) (by omega), mxI_eq, mnI_eq, w64_in (by omega)]; omega
    · rw [wd1, w64_in (x := (t i).y + (t i).h) (by omega), mxI_eq, mnI_eq, w64_in (by omega)]; omega
end Go.Proofs.Ytcpahifgdppkbaa.QAI
