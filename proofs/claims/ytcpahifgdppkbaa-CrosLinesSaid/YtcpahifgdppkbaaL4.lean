/- CrosLines: the whole, the plain law. -/
import Derived.Test.YtcpahifgdppkbaaL3
set_option linter.unusedVariables false
set_option linter.unusedSimpArgs false
namespace Go.Proofs.Ytcpahifgdppkbaa.QAI
open Go Go.RowKit
set_option maxRecDepth 100000
def fL (g : Nat → Int) (n : Nat) : Nat → Int := fun j => if j < n then (g (0 + j)).tmod 1073741824 else 0
def pL (f : Nat → Int) (n : Nat) (whole : Int) (rev : Bool) : Nat → Int := fun i => if i < n then ln f 0 whole rev i else 0
def aL (g : Nat → Int) (n : Nat) : Nat → Int := lf (fL g n) n
noncomputable def clT (k : Nat) (g : Nat → Int) (n : Nat) : Loops :=
  byReg 4 (told 53 (bodyOf Try.f18 0) (clS k g n (lf (fL g n) 0) 0 0) (.exit 0, clE k g n (aL g n) (sA (fL g n) n) n))
    (told 50 (bodyOf Try.f18 1) (clS2 k g n (aL g n) (pL (aL g n) n (sA (fL g n) n) false) (pL (aL g n) n (sA (fL g n) n) true) (sA (fL g n) n) 0) (.exit 2, clE2 k g n (aL g n) (pL (aL g n) n (sA (fL g n) n) false) (pL (aL g n) n (sA (fL g n) n) true) (sA (fL g n) n) n))
def oL (b : Bool) (k : Nat) (g : Nat → Int) : Option (AV × AHeap) := some (Bo b, [c0 k g])
theorem crosLines_eq {L k : Nat} {g : Nat → Int} : (lfun (clG L) (clT k g (m60 k)) 60 Try.f18 [.c (.sl 0 0 k)] [c0 k g]).eval =
  bif yes (0 + k ≤ k ∧ (1073741824 : Int) ≠ 0 ∧ (fun i => e1 (g i)) = fun i => e1 (d1 ((fun i => e1 (g i)) i))) then
  bif yes (was 53 (bodyOf Try.f18 0) (clS k g (m60 k) (lf (fL g (m60 k)) 0) 0 0)) then
  bif yes (0 + m60 k ≤ m60 k ∧ m60 k < 2 ^ 40 ∧ (fun i => e1 (aL g (m60 k) i)) = fun i => e1 (d1 ((fun i => e1 (aL g (m60 k) i)) i))) then
  bif yes (0 + m60 k ≤ m60 k ∧ m60 k < 2 ^ 40 ∧ (fun i => e1 (aL g (m60 k) i)) = fun i => e1 (d1 ((fun i => e1 (aL g (m60 k) i)) i))) then
  bif ((m60 k : Int) != (m60 k : Int)) then oL false k g else
  bif ((m60 k : Int) != (m60 k : Int)) then oL false k g else
  bif yes (was 50 (bodyOf Try.f18 1) (clS2 k g (m60 k) (aL g (m60 k)) (pL (aL g (m60 k)) (m60 k) (sA (fL g (m60 k)) (m60 k)) false) (pL (aL g (m60 k)) (m60 k) (sA (fL g (m60 k)) (m60 k)) true) (sA (fL g (m60 k)) (m60 k)) 0)) then oL true k g
  else none else none else none else none else none := by kernel_rfl
theorem aL_b (g : Nat → Int) {n j : Nat} (hj : j < n) : 0 ≤ aL g n j ∧ aL g n j < 1073741824 ∧ aL g n j = ab (fL g n j) := by
  have h1 := Int.tmod_lt_of_pos (g (0 + j)) (show (0 : Int) < 1073741824 by decide)
  have h2 := Int.tmod_lt_of_pos (-(g (0 + j))) (show (0 : Int) < 1073741824 by decide)
  rw [Int.neg_tmod] at h2
  have e : aL g n j = ab (fL g n j) := by simp [aL, lf, hj]
  have e2 : fL g n j = (g (0 + j)).tmod 1073741824 := by simp only [fL, hj, if_true]
  rw [e, e2]
  unfold ab
  rw [w64_id (by omega) (by omega), mxI_eq]
  refine ⟨by omega, by omega, rfl⟩
/-- Sums, as far as they go. -/
def sm (f : Nat → Int) : Nat → Int
  | 0 => 0
  | i + 1 => sm f i + f i
theorem sm_b {f : Nat → Int} {n : Nat} (hf : ∀ j, j < n → 0 ≤ f j ∧ f j < 1073741824) : ∀ i, i ≤ n → 0 ≤ sm f i ∧ sm f i ≤ i * 1073741824
  | 0, _ => ⟨Int.le_refl _, by simp [sm]⟩
  | i + 1, hi => by
    have h1 := sm_b hf i (by omega)
    have h2 := hf i (by omega)
    simp only [sm]
    omega
theorem atS_sm {f : Nat → Int} {n : Nat} (hn : n ≤ 60) (hf : ∀ j, j < n → 0 ≤ f j ∧ f j < 1073741824) : ∀ i, i ≤ n → atS f 0 i = sm f i
  | 0, _ => rfl
  | i + 1, hi => by
    have h1 := sm_b hf i (by omega)
    have h2 := hf i (by omega)
    simp only [atS, sm, Nat.zero_add, atS_sm hn hf i (by omega)]
    exact w64_id (by omega) (by omega)
theorem sA_sm {f a : Nat → Int} {n : Nat} (hn : n ≤ 60) (hf : ∀ j, j < n → 0 ≤ a j ∧ a j < 1073741824) (he : ∀ j, j < n → a j = ab (f j)) : ∀ i, i ≤ n → sA f i = sm a i
  | 0, _ => rfl
  | i + 1, hi => by
    have h1 := sm_b hf i (by omega)
    have h2 := hf i (by omega)
    simp only [sA, sm, sA_sm hn hf he i (by omega), ← he i (by omega)]
    exact w64_id (by omega) (by omega)
theorem sm_mono {f : Nat → Int} {n : Nat} (hf : ∀ j, j < n → 0 ≤ f j ∧ f j < 1073741824) (i : Nat) : ∀ d, i + d ≤ n → sm f i ≤ sm f (i + d)
  | 0, _ => Int.le_refl _
  | d + 1, h => by
    have := sm_mono hf i d (by omega)
    have h2 := hf (i + d) (by omega)
    have e : sm f (i + (d + 1)) = sm f (i + d) + f (i + d) := rfl
    rw [e]
    omega
theorem crosLines_true (k : Nat) (g : Nat → Int) :
    (afun (clG (m60 k + 1)) 60 Try.f18 [.c (.sl 0 0 k)] [c0 k g]).eval = some (Bo true, [c0 k g]) := by
  have hm := m60_le k
  have hf : ∀ j, j < m60 k → 0 ≤ aL g (m60 k) j ∧ aL g (m60 k) j < 1073741824 := fun j hj => ⟨(aL_b g hj).1, (aL_b g hj).2.1⟩
  have hS : sA (fL g (m60 k)) (m60 k) = sm (aL g (m60 k)) (m60 k) := sA_sm hm hf (fun j hj => (aL_b g hj).2.2) _ (Nat.le_refl _)
  have hat := atS_sm hm hf
  have hsb := sm_b hf
  have hp : ∀ j, j < m60 k → pL (aL g (m60 k)) (m60 k) (sA (fL g (m60 k)) (m60 k)) false j = sm (aL g (m60 k)) j := by
    intro j hj
    simp only [pL, hj, if_true, ln, cond_false, hat j (by omega)]
  have hq : ∀ j, j < m60 k → pL (aL g (m60 k)) (m60 k) (sA (fL g (m60 k)) (m60 k)) true j = sm (aL g (m60 k)) (m60 k) - sm (aL g (m60 k)) j - aL g (m60 k) j := by
    intro j hj
    have h1 := hsb j (by omega)
    have h2 := hsb (m60 k) (Nat.le_refl _)
    have h3 := hf j hj
    simp only [pL, hj, if_true, ln, cond_true, hat j (by omega), hS, Nat.zero_add]
    rw [w64_id (x := sm (aL g (m60 k)) (m60 k) - sm (aL g (m60 k)) j) (by omega) (by omega), w64_id (by omega) (by omega)]
  have hstep : ∀ j, 0 < j → sm (aL g (m60 k)) j = sm (aL g (m60 k)) (j - 1) + aL g (m60 k) (j - 1) := by
    intro j hj
    obtain ⟨i, rfl⟩ : ∃ i, j = i + 1 := ⟨j - 1, by omega⟩
    rfl
  have hl : LoopsOk (clG (m60 k + 1)) 1 (clT k g (m60 k)) := by
    refine byReg_ok (told_ok (cl_loop hm (Nat.lt_succ_self _))) (told_ok (cl_loop2 hm (Nat.lt_succ_self _) ?_ ?_ ?_ ?_ ?_))
    · intro h
      rw [hp 0 h]
      rfl
    · intro j h0 hj
      have h1 := hsb j (by omega)
      rw [hp j hj, hp (j - 1) (by omega), ← hstep j h0]
      exact (w64_id (by omega) (by omega)).symm
    · intro j h0 hj
      have h1 := hsb j (by omega)
      have h2 := hsb (m60 k) (Nat.le_refl _)
      have h4 := hstep j h0
      rw [hq j hj, hq (j - 1) (by omega)]
      have e : sm (aL g (m60 k)) (m60 k) - sm (aL g (m60 k)) j - aL g (m60 k) j + aL g (m60 k) j = sm (aL g (m60 k)) (m60 k) - sm (aL g (m60 k)) j := by omega
      rw [e, w64_id (by omega) (by omega)]
      omega
    · intro h
      have h2 := hsb (m60 k) (Nat.le_refl _)
      have s0 : sm (aL g (m60 k)) 0 = 0 := rfl
      rw [hq 0 h, s0, hS]
      have e : sm (aL g (m60 k)) (m60 k) - 0 - aL g (m60 k) 0 + aL g (m60 k) 0 = sm (aL g (m60 k)) (m60 k) := by omega
      rw [e]
      exact w64_id (by omega) (by omega)
    · intro j hj
      rw [hq j (by omega)]
      have h4 := hstep (j + 1) (by omega)
      rw [hj] at h4
      have e : m60 k - 1 = j := by omega
      rw [e] at h4
      omega
  refine lfun_ok (h := [c0 k g]) hl ?_
  rw [crosLines_eq]
  refine (bif_yes ⟨by omega, by decide, rfl⟩).trans ((bif_yes ⟨rfl, rfl, rfl⟩).trans ((bif_yes ⟨by omega, by omega, rfl⟩).trans ((bif_yes ⟨by omega, by omega, rfl⟩).trans ((bif_ne rfl).trans ((bif_ne rfl).trans (bif_yes ⟨rfl, rfl, rfl⟩))))))
def crosLinesS : List Shp := [.rows 2 [.int .i64]]
theorem crosLines_core : ∀ is, InsOk crosLinesS is → ∃ keep L d, (afun (GK KY keep L) d Try.f18 (avsIn 0 crosLinesS is) (blksIn crosLinesS is)).eval = some (Bo true, blksIn crosLinesS is) := by
  intro is0 h0
  obtain ⟨k0, v0, is1, rfl, h1, l0⟩ := ins_ints h0
  obtain rfl := ins_nil h1
  exact ⟨_, _, _, crosLines_true k0 v0⟩
end Go.Proofs.Ytcpahifgdppkbaa.QAI
