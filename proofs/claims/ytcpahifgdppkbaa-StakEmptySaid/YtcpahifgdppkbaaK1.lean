/- StakEmpty: the plain law (draft). -/
import Derived.Test.YtcpahifgdppkbaaS0
set_option linter.unusedVariables false
set_option linter.unusedSimpArgs false
namespace Go.Proofs.Ytcpahifgdppkbaa.QAI
open Go Go.RowKit
def eX : Bx := ⟨0, 0, 0, 0, 0, true⟩
def insB (g : Nat → Bx) (k : Nat) : Nat → Bx := fun j => if j < k then g j else if j = k then eX else g (j - 1)
theorem step_eX {s : Sk} (hf : 0 ≤ s.fp) (hn : s.fn ≤ 0) : s.step eX = s := by
  obtain ⟨fp, fn, y, op, on, top⟩ := s
  simp only at hf hn
  have e1 : jmax 0 (jmax (jmax 0 (jmax fp 0)) 0) = fp := by simp only [jmax]; (repeat' split) <;> omega
  have e2 : jmin 0 (jmin (jmin 0 (jmin fn 0)) 0) = fn := by simp only [jmin]; (repeat' split) <;> omega
  simp only [Sk.step, eX, Sk.mp, Sk.mn, if_true, e1, e2]
theorem run_ins {g : Nat → Bx} {n k : Nat} {top : Bool} (hok : ∀ i, i < n → (g i).ok) (hn : n ≤ 1000) (hk : k ≤ n) : ∀ i, i ≤ n → (i ≤ k → run (insB g k) top i = run g top i) ∧ (k ≤ i → run (insB g k) top (i + 1) = run g top i)
  | 0, _ => by
    refine ⟨fun _ => rfl, fun h => ?_⟩
    have : k = 0 := by omega
    subst this
    have e : insB g 0 0 = eX := by simp [insB]
    simp only [run, e]
    exact step_eX (by simp) (by simp)
  | i + 1, hi => by
    obtain ⟨h1, h2⟩ := run_ins (top := top) hok hn hk i (by omega)
    have a : i + 1 ≤ k → run (insB g k) top (i + 1) = run g top (i + 1) := fun h => by
      simp only [run]
      rw [h1 (by omega)]
      have : insB g k i = g i := by simp [insB, show i < k by omega]
      rw [this]
    refine ⟨a, fun h => ?_⟩
    by_cases e : k = i + 1
    · subst e
      have e1 : insB g (i + 1) (i + 1) = eX := by simp [insB]
      have e2 : run (insB g (i + 1)) top (i + 1 + 1) = (run (insB g (i + 1)) top (i + 1)).step (insB g (i + 1) (i + 1)) := rfl
      rw [e2, e1, a (Nat.le_refl _)]
      have hr : run g top (i + 1) = run0 g top (i + 1) := run_eq (by omega) fun j hj => hok j (by omega)
      have ho : (run0 g top (i + 1)).ok (i + 1) := run0_ok fun j hj => hok j (by omega)
      rw [hr]
      exact step_eX ho.f0 ho.g0
    · have e2 : run (insB g k) top (i + 1 + 1) = (run (insB g k) top (i + 1)).step (insB g k (i + 1)) := rfl
      have e3 : insB g k (i + 1) = g i := by simp [insB, show ¬ i + 1 < k by omega, show ¬ i + 1 = k by omega]
      rw [e2, e3, h2 (by omega)]
      rfl
theorem ats_ins {g : Nat → Bx} {n k : Nat} {top : Bool} (hok : ∀ i, i < n → (g i).ok) (hn : n ≤ 1000) (hk : k ≤ n) {i : Nat} (hi : i < n) :
    (i < k → ats (insB g k) top i = ats g top i) ∧ (k ≤ i → ats (insB g k) top (i + 1) = ats g top i) := by
  obtain ⟨h1, h2⟩ := run_ins (top := top) hok hn hk i (by omega)
  refine ⟨fun h => ?_, fun h => ?_⟩
  · unfold ats
    rw [h1 (by omega)]
    have : insB g k i = g i := by simp [insB, h]
    rw [this]
  · unfold ats
    have : insB g k (i + 1) = g i := by simp [insB, show ¬ i + 1 < k by omega, show ¬ i + 1 = k by omega]
    rw [h2 h, this]
/-- Boxes without margins. -/
def bareB (g : Nat → Bx) : Nat → Bx := fun j => ⟨(g j).h, 0, 0, 0, 0, false⟩
def hSum (g : Nat → Bx) : Nat → Int
  | 0 => 0
  | i + 1 => hSum g i + (g i).h
theorem run_bare {g : Nat → Bx} {n : Nat} {top : Bool} (hok : ∀ i, i < n → (g i).ok) (hn : n ≤ 1000) : ∀ i, i ≤ n →
    0 ≤ hSum g i ∧ hSum g i ≤ i * 68719476736 ∧ run (bareB g) top i = ⟨0, 0, hSum g i, 0, 0, top && decide (i = 0)⟩
  | 0, _ => by simp [run, hSum]
  | i + 1, hi => by
    obtain ⟨h1, h2, h3⟩ := run_bare (top := top) hok hn i (by omega)
    have b := hok i (by omega)
    have b0 := b.h0
    have b1 := b.h1
    have e : w64 (hSum g i + (g i).h) = hSum g i + (g i).h := w64_id (by omega) (by omega)
    refine ⟨by simp only [hSum]; omega, by simp only [hSum]; omega, ?_⟩
    have e0 : w64 (hSum g i) = hSum g i := w64_id (by omega) (by omega)
    have e00 : w64 0 = 0 := w64_id (by omega) (by omega)
    have j0 : jmax 0 (jmax 0 0) = 0 := by decide
    have j1 : jmin 0 (jmin 0 0) = 0 := by decide
    simp only [run, h3]
    simp only [Sk.step, bareB, Sk.at, Sk.mp, Sk.mn, j0, j1, Int.add_zero, e00, e0, Bool.false_eq_true, if_false, hSum]
    cases hi0 : decide (i = 0)
    · simp [e]
    · have : i = 0 := of_decide_eq_true hi0
      subst this
      simp only [hSum] at e
      rw [Int.zero_add] at e
      cases top <;> simp [hSum, e]
end Go.Proofs.Ytcpahifgdppkbaa.QAI
