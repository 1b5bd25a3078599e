/- Greatest and least of rows: plain laws. -/
import Derived.Test.YtcpahifgdppkbaaF3
import Derived.Test.YtcpahifgdppkbaaA19
set_option linter.unusedVariables false
set_option linter.unusedSimpArgs false
namespace Go.Proofs.Ytcpahifgdppkbaa.QAI
open Go Go.RowKit

theorem mx_le {f : Nat → Int} {b : Int} (hb : 0 ≤ b) : ∀ {n : Nat}, mx f n ≤ b ↔ ∀ i, i < n → f i ≤ b
  | 0 => ⟨fun _ i h => absurd h (Nat.not_lt_zero _), fun _ => hb⟩
  | n + 1 => by
    have ih := mx_le (f := f) hb (n := n)
    constructor
    · intro h i hi
      simp only [mx, jmax] at h
      rcases Nat.lt_or_ge i n with h1 | h1
      · exact ih.1 (by split at h <;> omega) i h1
      · have : i = n := by omega
        subst this
        split at h <;> omega
    · intro h
      have h1 := ih.2 fun i hi => h i (by omega)
      have h2 := h n (by omega)
      simp only [mx, jmax]
      split <;> omega
theorem mn_ge {f : Nat → Int} {b : Int} (hb : b ≤ 0) : ∀ {n : Nat}, b ≤ mn f n ↔ ∀ i, i < n → b ≤ f i
  | 0 => ⟨fun _ i h => absurd h (Nat.not_lt_zero _), fun _ => hb⟩
  | n + 1 => by
    have ih := mn_ge (f := f) hb (n := n)
    constructor
    · intro h i hi
      simp only [mn, jmin] at h
      rcases Nat.lt_or_ge i n with h1 | h1
      · exact ih.1 (by split at h <;> omega) i h1
      · have : i = n := by omega
        subst this
        split at h <;> omega
    · intro h
      have h1 := ih.2 fun i hi => h i (by omega)
      have h2 := h n (by omega)
      simp only [mn, jmin]
      split <;> omega
theorem mx_ext {f h : Nat → Int} {n m : Nat} (e : ∀ b, 0 ≤ b → ((∀ i, i < n → f i ≤ b) ↔ ∀ i, i < m → h i ≤ b)) : mx f n = mx h m := by
  have h1 : mx f n ≤ mx h m := (mx_le (mx_nn h m)).2 ((e _ (mx_nn h m)).2 ((mx_le (mx_nn h m)).1 (Int.le_refl _)))
  have h2 : mx h m ≤ mx f n := (mx_le (mx_nn f n)).2 ((e _ (mx_nn f n)).1 ((mx_le (mx_nn f n)).1 (Int.le_refl _)))
  omega
theorem mn_ext {f h : Nat → Int} {n m : Nat} (e : ∀ b, b ≤ 0 → ((∀ i, i < n → b ≤ f i) ↔ ∀ i, i < m → b ≤ h i)) : mn f n = mn h m := by
  have h1 : mn h m ≤ mn f n := (mn_ge (mn_nn h m)).2 ((e _ (mn_nn h m)).2 ((mn_ge (mn_nn h m)).1 (Int.le_refl _)))
  have h2 : mn f n ≤ mn h m := (mn_ge (mn_nn f n)).2 ((e _ (mn_nn f n)).1 ((mn_ge (mn_nn f n)).1 (Int.le_refl _)))
  omega
theorem jp_mx (g : Nat → Int × Int) (o : Nat) : ∀ n, (jp g o n).1 = mx (fun i => (g (o + i)).1) n ∧ (jp g o n).2 = mn (fun i => (g (o + i)).2) n
  | 0 => ⟨rfl, rfl⟩
  | n + 1 => by
    obtain ⟨h1, h2⟩ := jp_mx g o n
    simp only [jp, mx, mn, h1, h2, and_self]
/-- Of one of numbers. -/
theorem ofI_le (x b : Int) (hb : 0 ≤ b) : (ofI x).1 ≤ b ↔ x ≤ b := by simp only [ofI]; split <;> omega
theorem ofI_ge (x b : Int) (hb : b ≤ 0) : b ≤ (ofI x).2 ↔ b ≤ x := by simp only [ofI]; split <;> omega

/-- Two parts, joined. -/
theorem mx_split (f : Nat → Int) {c n : Nat} (hc : c ≤ n) : jmax (mx (fun i => f (c + i)) (n - c)) (jmax (mx f c) 0) = mx f n := by
  have e : jmax (mx (fun i => f (c + i)) (n - c)) (jmax (mx f c) 0) = jmax (mx (fun i => f (c + i)) (n - c)) (mx f c) := by
    have := mx_nn f c
    simp only [jmax]
    split <;> split <;> (try split) <;> omega
  rw [e]
  have h0 := mx_nn f c
  have h1 := mx_nn (fun i => f (c + i)) (n - c)
  have hn := mx_nn f n
  have a1 : mx f c ≤ mx f n := (mx_le hn).2 fun i hi => (mx_le hn).1 (Int.le_refl _) i (by omega)
  have a2 : mx (fun i => f (c + i)) (n - c) ≤ mx f n := (mx_le hn).2 fun i hi => (mx_le hn).1 (Int.le_refl _) (c + i) (by omega)
  have hb : 0 ≤ jmax (mx (fun i => f (c + i)) (n - c)) (mx f c) := by simp only [jmax]; split <;> omega
  have a3 : mx f n ≤ jmax (mx (fun i => f (c + i)) (n - c)) (mx f c) := (mx_le hb).2 fun i hi => by
    rcases Nat.lt_or_ge i c with h | h
    · have := (mx_le h0).1 (Int.le_refl _) i h
      simp only [jmax]; split <;> omega
    · have := (mx_le h1).1 (Int.le_refl _) (i - c) (by omega)
      simp only [show c + (i - c) = i by omega] at this
      simp only [jmax]; split <;> omega
  have a4 : jmax (mx (fun i => f (c + i)) (n - c)) (mx f c) ≤ mx f n := by simp only [jmax]; split <;> omega
  omega
theorem mn_split (f : Nat → Int) {c n : Nat} (hc : c ≤ n) : jmin (mn (fun i => f (c + i)) (n - c)) (jmin (mn f c) 0) = mn f n := by
  have e : jmin (mn (fun i => f (c + i)) (n - c)) (jmin (mn f c) 0) = jmin (mn (fun i => f (c + i)) (n - c)) (mn f c) := by
    have := mn_nn f c
    simp only [jmin]
    split <;> split <;> (try split) <;> omega
  rw [e]
  have h0 := mn_nn f c
  have h1 := mn_nn (fun i => f (c + i)) (n - c)
  have hn := mn_nn f n
  have a1 : mn f n ≤ mn f c := (mn_ge hn).2 fun i hi => (mn_ge hn).1 (Int.le_refl _) i (by omega)
  have a2 : mn f n ≤ mn (fun i => f (c + i)) (n - c) := (mn_ge hn).2 fun i hi => (mn_ge hn).1 (Int.le_refl _) (c + i) (by omega)
  have hb : jmin (mn (fun i => f (c + i)) (n - c)) (mn f c) ≤ 0 := by simp only [jmin]; split <;> omega
  have a3 : jmin (mn (fun i => f (c + i)) (n - c)) (mn f c) ≤ mn f n := (mn_ge hb).2 fun i hi => by
    rcases Nat.lt_or_ge i c with h | h
    · have := (mn_ge h0).1 (Int.le_refl _) i h
      simp only [jmin]; split <;> omega
    · have := (mn_ge h1).1 (Int.le_refl _) (i - c) (by omega)
      simp only [show c + (i - c) = i by omega] at this
      simp only [jmin]; split <;> omega
  have a4 : mn f n ≤ jmin (mn (fun i => f (c + i)) (n - c)) (mn f c) := by simp only [jmin]; split <;> omega
  omega
end Go.Proofs.Ytcpahifgdppkbaa.QAI
