/- StakMeets: the plain law. -/
import Derived.Test.YtcpahifgdppkbaaSR
set_option linter.unusedVariables false
set_option linter.unusedSimpArgs false
namespace Go.Proofs.Ytcpahifgdppkbaa.QAI
open Go Go.RowKit
def seenB (g : Nat → Bx) : Nat → Bool
  | 0 => false
  | i + 1 => bif (g i).th then seenB g i else true
theorem run0_top (g : Nat → Bx) (top : Bool) : ∀ n, (run0 g top n).top = (top && !seenB g n)
  | 0 => by simp [run0, seenB]
  | n + 1 => by
    have ih := run0_top g top n
    simp only [run0, Sk.step0, seenB]
    cases h : (g n).th
    · simp
    · simp [ih]
theorem op_stays (g : Nat → Bx) (top : Bool) (j : Nat) (h : (run0 g top j).top = false) : ∀ d, (run0 g top (j + d)).top = false ∧ (run0 g top (j + d)).op = (run0 g top j).op ∧ (run0 g top (j + d)).on = (run0 g top j).on
  | 0 => ⟨h, rfl, rfl⟩
  | d + 1 => by
    obtain ⟨h1, h2, h3⟩ := op_stays g top j h d
    have e : run0 g top (j + (d + 1)) = (run0 g top (j + d)).step0 (g (j + d)) := rfl
    rw [e]
    simp only [Sk.step0]
    cases (g (j + d)).th
    · simp [h1, h2, h3]
    · simp [h1, h2, h3]
theorem mp_eq {s : Sk} {b : Bx} {i : Nat} (hs : s.ok i) : s.mp b = jmax b.tp s.fp ∧ s.mn b = jmin b.tn s.fn := by
  have := hs.f0
  have := hs.g0
  simp only [Sk.mp, Sk.mn, jmax, jmin]
  constructor
  · split <;> split <;> (try split) <;> omega
  · split <;> split <;> (try split) <;> omega
theorem step_th {s : Sk} {b : Bx} {i : Nat} (hs : s.ok i) (hb : b.ok) (h : b.th = true) :
    s.step0 b = { s with fp := jmax b.bp (jmax b.tp s.fp), fn := jmin b.bn (jmin b.tn s.fn) } := by
  have hm := Sk.m_b hs hb
  obtain ⟨e1, e2⟩ := mp_eq (b := b) hs
  rw [e1, e2] at hm
  simp only [Sk.step0, h, if_true, e1, e2]
  have a1 : jmax (jmax b.tp s.fp) 0 = jmax b.tp s.fp := by simp only [jmax] at hm ⊢; split <;> (try split) <;> (try split) <;> omega
  have a2 : jmin (jmin b.tn s.fn) 0 = jmin b.tn s.fn := by simp only [jmin] at hm ⊢; split <;> (try split) <;> (try split) <;> omega
  rw [a1, a2]
/-- What the last one says of the first that is not empty. -/
theorem fin_first {g : Nat → Bx} {top : Bool} {n i : Nat} (hg : ∀ i, i < n → (g i).ok) (hi : i < n) (ht : (run0 g top i).top = true) (hth : (g i).th = false) (bottom : Bool) :
    ((run0 g top n).fin0 bottom).tp = jmax (g i).tp (run0 g top i).fp ∧ ((run0 g top n).fin0 bottom).tn = jmin (g i).tn (run0 g top i).fn := by
  have hs := run0_ok (g := g) (top := top) (n := i) fun j hj => hg j (by omega)
  have hn : (run0 g top (i + 1)).top = false ∧ (run0 g top (i + 1)).op = (run0 g top i).mp (g i) ∧ (run0 g top (i + 1)).on = (run0 g top i).mn (g i) := by
    simp [run0, Sk.step0, hth, ht]
  obtain ⟨d, rfl⟩ : ∃ d, n = i + 1 + d := ⟨n - (i + 1), by omega⟩
  obtain ⟨h1, h2, h3⟩ := op_stays g top (i + 1) hn.1 d
  obtain ⟨e1, e2⟩ := mp_eq (b := g i) hs
  simp only [Sk.fin0, h1, h2, h3, hn, Bool.false_eq_true, if_false, e1, e2]
  cases bottom <;> simp
end Go.Proofs.Ytcpahifgdppkbaa.QAI
