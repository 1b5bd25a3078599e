/- Boxes below each other: the plain laws. -/
import Derived.Test.YtcpahifgdppkbaaS0
set_option linter.unusedVariables false
set_option linter.unusedSimpArgs false
namespace Go.Proofs.Ytcpahifgdppkbaa.QAI
open Go Go.RowKit

/-- StakRises: how far down boxes reach, how high they are together. -/
def riseE (g : Nat → Bx) (a : Nat → Int) : Nat → Int
  | 0 => 0
  | i + 1 => jmax (a i + (g i).h) (riseE g a i)
def sumH (g : Nat → Bx) : Nat → Int
  | 0 => 0
  | i + 1 => sumH g i + (g i).h
theorem rises {g : Nat → Bx} {top : Bool} {n : Nat} (hg : ∀ i, i < n → (g i).ok ∧ (g i).tn = 0 ∧ (g i).bn = 0) : ∀ i, i ≤ n →
    (run0 g top i).fn = 0 ∧ (run0 g top i).on = 0 ∧ 0 ≤ (run0 g top i).fp ∧
    ((run0 g top i).top = true → (run0 g top i).y = 0 ∧ riseE g (ats0 g top) i = 0 ∧ sumH g i = 0) ∧
    ((run0 g top i).top = false → riseE g (ats0 g top) i ≤ (run0 g top i).y + (run0 g top i).fp ∧ sumH g i ≤ (run0 g top i).y)
  | 0, _ => by
    refine ⟨rfl, rfl, by simp [run0], fun _ => ⟨rfl, rfl, rfl⟩, fun _ => ⟨by simp [riseE, run0], by simp [sumH, run0]⟩⟩
  | i + 1, hi => by
    obtain ⟨i1, i2, i3, i4, i5⟩ := rises (top := top) hg i (by omega)
    obtain ⟨hok, hn1, hn2⟩ := hg i (by omega)
    obtain ⟨h0, h1', a0, a1, b0, b1, c0, c1, d0, d1, th⟩ := hok
    have hmn : (run0 g top i).mn (g i) = 0 := by simp only [Sk.mn, i1, hn1, jmin]; decide
    have hmp : (run0 g top i).fp ≤ (run0 g top i).mp (g i) ∧ 0 ≤ (run0 g top i).mp (g i) := by
      simp only [Sk.mp, jmax]; split <;> (try split) <;> omega
    simp only [run0, riseE, sumH, ats0, Sk.step0, Sk.at0, hmn]
    cases htop : (run0 g top i).top <;> cases hth : (g i).th
    · have := i5 htop
      simp only [Bool.false_eq_true, if_false]
      refine ⟨hn2, i2, c0, fun h => (by cases h), fun _ => ⟨?_, ?_⟩⟩
      · simp only [jmax]; split <;> omega
      · omega
    · have := i5 htop
      have hh := th hth
      simp only [Bool.false_eq_true, if_false, if_true]
      refine ⟨by simp [hn2, jmin], i2, ?_, fun h => (by first | (rw [htop] at h; cases h) | cases h), fun _ => ⟨?_, ?_⟩⟩
      · simp only [jmax]; split <;> (try split) <;> omega
      · simp only [jmax]; split <;> split <;> (try split) <;> omega
      · omega
    · have := i4 htop
      simp only [Bool.false_eq_true, if_false, if_true]
      refine ⟨hn2, by first | rfl | trivial, c0, fun h => (by cases h), fun _ => ⟨?_, ?_⟩⟩
      · simp only [jmax]; split <;> omega
      · omega
    · have := i4 htop
      have hh := th hth
      simp only [if_true]
      refine ⟨by simp [hn2, jmin], i2, ?_, fun _ => ⟨this.1, ?_, ?_⟩, fun h => (by first | (rw [htop] at h; cases h) | cases h)⟩
      · simp only [jmax]; split <;> (try split) <;> omega
      · simp only [jmax]; split <;> omega
      · omega
theorem rises_at {g : Nat → Bx} {top : Bool} {n : Nat} (hg : ∀ i, i < n → (g i).ok ∧ (g i).tn = 0 ∧ (g i).bn = 0) {i : Nat} (hi : i < n) : riseE g (ats0 g top) i ≤ ats0 g top i := by
  obtain ⟨i1, i2, i3, i4, i5⟩ := rises (top := top) hg i (by omega)
  obtain ⟨hok, hn1, hn2⟩ := hg i hi
  have a0 := hok.a0
  have hmn : (run0 g top i).mn (g i) = 0 := by simp only [Sk.mn, i1, hn1, jmin]; decide
  have hmp : (run0 g top i).fp ≤ (run0 g top i).mp (g i) := by simp only [Sk.mp, jmax]; split <;> (try split) <;> omega
  simp only [ats0, Sk.at0, hmn]
  cases htop : (run0 g top i).top
  · have := i5 htop
    simp only [Bool.false_eq_true, if_false]
    omega
  · have := i4 htop
    simp only [if_true]
    omega
theorem rises_fin {g : Nat → Bx} {top : Bool} {n : Nat} (hg : ∀ i, i < n → (g i).ok ∧ (g i).tn = 0 ∧ (g i).bn = 0) (bottom : Bool) :
    sumH g n ≤ ((run0 g top n).fin0 bottom).h ∧ ((run0 g top n).fin0 bottom).tn = 0 ∧ ((run0 g top n).fin0 bottom).bn = 0 := by
  obtain ⟨i1, i2, i3, i4, i5⟩ := rises (top := top) hg n (Nat.le_refl _)
  simp only [Sk.fin0]
  cases htop : (run0 g top n).top
  · have := i5 htop
    simp only [Bool.false_eq_true, if_false]
    cases bottom
    · simp only [Bool.false_eq_true, if_false, i1, i2, and_true]
      simp only [jmax]; split <;> omega
    · simp only [if_true, i1, i2, and_true]
      simp only [jmax]; split <;> omega
  · have := i4 htop
    simp only [if_true, i1, and_true]
    omega

/-- StakOpens: closed at the top. -/
theorem opens {g : Nat → Bx} {n : Nat} (hg : ∀ i, i < n → (g i).ok ∧ (g i).th = false) : ∀ i, i < n →
    (run0 g true (i + 1)).top = false ∧ (run0 g false (i + 1)).top = false ∧ (run0 g true (i + 1)).fp = (g i).bp ∧ (run0 g true (i + 1)).fn = (g i).bn ∧ (run0 g false (i + 1)).fp = (g i).bp ∧ (run0 g false (i + 1)).fn = (g i).bn ∧
    (run0 g true (i + 1)).op = (g 0).tp ∧ (run0 g true (i + 1)).on = (g 0).tn ∧ (run0 g false (i + 1)).op = 0 ∧ (run0 g false (i + 1)).on = 0 ∧
    ats0 g false i = ats0 g true i + ((g 0).tp + (g 0).tn) ∧ (run0 g true (i + 1)).y = ats0 g true i + (g i).h ∧ (run0 g false (i + 1)).y = ats0 g false i + (g i).h
  | 0, hi => by
    obtain ⟨hok, hth⟩ := hg 0 hi
    have a0 := hok.a0
    have b0 := hok.b0
    have e1 : jmax (g 0).tp (jmax 0 0) = (g 0).tp := by simp only [jmax]; split <;> (try split) <;> omega
    have e2 : jmin (g 0).tn (jmin 0 0) = (g 0).tn := by simp only [jmin]; split <;> (try split) <;> omega
    simp [run0, ats0, Sk.step0, Sk.at0, Sk.mp, Sk.mn, hth, e1, e2]
  | i + 1, hi => by
    obtain ⟨hok, hth⟩ := hg (i + 1) hi
    obtain ⟨i1, i2, i3, i4, i5, i6, i7, i8, i9, i10, i11, i12, i13⟩ := opens hg i (by omega)
    have r1 : run0 g true (i + 1 + 1) = (run0 g true (i + 1)).step0 (g (i + 1)) := rfl
    have r2 : run0 g false (i + 1 + 1) = (run0 g false (i + 1)).step0 (g (i + 1)) := rfl
    have t1 : ats0 g true (i + 1) = (run0 g true (i + 1)).at0 (g (i + 1)) := rfl
    have t2 : ats0 g false (i + 1) = (run0 g false (i + 1)).at0 (g (i + 1)) := rfl
    rw [r1, r2, t1, t2]
    simp only [Sk.step0, Sk.at0, Sk.mp, Sk.mn, hth, i1, i2, i3, i4, i5, i6, i7, i8, i9, i10, i12, i13, i11, Bool.false_eq_true, if_false]
    simp only [true_and, and_true]
    omega
theorem opens_fin {g : Nat → Bx} {n : Nat} (hn : 0 < n) (hg : ∀ i, i < n → (g i).ok ∧ (g i).th = false) (bottom : Bool) :
    ((run0 g true n).fin0 bottom).tp = (g 0).tp ∧ ((run0 g true n).fin0 bottom).tn = (g 0).tn ∧ ((run0 g false n).fin0 bottom).tp = 0 ∧ ((run0 g false n).fin0 bottom).tn = 0 ∧
    ((run0 g true n).fin0 true).bp = (g (n - 1)).bp ∧ ((run0 g true n).fin0 true).bn = (g (n - 1)).bn ∧ ((run0 g true n).fin0 false).bp = 0 ∧ ((run0 g true n).fin0 false).bn = 0 ∧
    ((run0 g true n).fin0 true).h = jmax 0 (ats0 g true (n - 1) + (g (n - 1)).h) ∧ ((run0 g true n).fin0 false).h = jmax 0 (ats0 g true (n - 1) + (g (n - 1)).h + ((g (n - 1)).bp + (g (n - 1)).bn)) := by
  obtain ⟨i1, i2, i3, i4, i5, i6, i7, i8, i9, i10, i11, i12, i13⟩ := opens hg (n - 1) (by omega)
  have e : n - 1 + 1 = n := by omega
  rw [e] at i1 i2 i3 i4 i5 i6 i7 i8 i9 i10 i12 i13
  simp only [Sk.fin0, i1, i2, Bool.false_eq_true, if_false, if_true, i3, i4, i12, i7, i8, i9, i10]
  cases bottom <;> simp
end Go.Proofs.Ytcpahifgdppkbaa.QAI
