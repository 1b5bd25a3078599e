/- CrosLines: the second loop. -/
import Derived.Test.YtcpahifgdppkbaaL2
set_option linter.unusedVariables false
set_option linter.unusedSimpArgs false
namespace Go.Proofs.Ytcpahifgdppkbaa.QAI
open Go Go.RowKit
set_option maxRecDepth 100000
def clE2 (k : Nat) (g : Nat → Int) (n : Nat) (f p q : Nat → Int) (sum i : Int) : St := ⟨slots 136 [(0, .c (.sl 1 0 n)), (3, I64 sum), (5, .c (.sl 2 0 n)), (6, .c (.sl 3 0 n)), (7, I64 i), (53, I64 i), (54, .c (.sl 1 0 n)), (55, I64 n), (56, Bo false)], [c0 k g, b1 n f, b1 n p, b1 n q]⟩
theorem cl_loop2 {L k n : Nat} {g f p q : Nat → Int} {sum : Int} (hn : n ≤ 60) (hL : n < L) (hp0 : 0 < n → p 0 = 0) (hp : ∀ j, 0 < j → j < n → p j = w64 (p (j - 1) + f (j - 1))) (hq : ∀ j, 0 < j → j < n → w64 (q j + f j) = q (j - 1))
    (hq0 : 0 < n → w64 (q 0 + f 0) = sum) (hqn : ∀ j, j + 1 = n → q j = 0) :
    (iter (arun (clG L) 1 50 (bodyOf Try.f18 1)) (canon (clG L).T 1 ((clG L).keep 12)) L (clS2 k g n f p q sum 0)).eval = some (.exit 2, clE2 k g n f p q sum n) := by
  refine iter_upto (fun i => clS2 k g n f p q sum i) (N := n) (by simp) ?_ L 0 (Nat.zero_le _) (by omega) ?_
  · refine rndX_ok ?_
    have h1 : ¬ ((n : Int) < n) := by omega
    cases n with
    | zero =>
      have h2 : ¬ (Int.ofNat 0 < ((0 : Nat) : Int)) := by decide
      refine (cl_rndX0 (n := 0)).trans ?_
      simp only [h2, decide_false, cond_false]
      rfl
    | succ m =>
      have h2 : ¬ (Int.ofNat (m + 1) < ((m + 1 : Nat) : Int)) := by
        have : Int.ofNat (m + 1) = ((m + 1 : Nat) : Int) := rfl
        rw [this]; omega
      refine (cl_rndX1 (n := m + 1) (j := m)).trans ?_
      simp only [h2, decide_false, cond_false]
      rfl
  · intro j _ hj
    refine rnd_ok ?_
    have t0 : Int.toNat 0 = 0 := rfl
    have hn0 : (0 : Int) < (n : Int) := by omega
    have hn1 : 0 < n := by omega
    cases j with
    | zero =>
      refine cl_rnd20.trans ?_
      have h1 : Int.ofNat 0 < (n : Int) := hn0
      have h3 : w64 (Int.ofNat 0 + 1) = ((0 + 1 : Nat) : Int) := w64_id (by decide) (by decide)
      have t1 : (Int.ofNat 0).toNat = 0 := rfl
      have z3 : (p 0 != 0) = false := by rw [hp0 hn1]; rfl
      have z4 : (w64 (q 0 + f 0) != sum) = false := by rw [hq0 hn1]; simp
      by_cases hl : 0 + 1 = n
      · have z5 : (((0 + 1 : Nat) : Int) == (n : Int)) = true := by rw [hl]; simp
        have z6 : (q 0 != 0) = false := by rw [hqn 0 hl]; rfl
        rw [h3]
        simp only [h1, z3, z4, z5, z6, hn0, hn1, t0, t1, decide_true, cond_true, cond_false, Nat.add_zero]
        rfl
      · have z5 : (((0 + 1 : Nat) : Int) == (n : Int)) = false := by
          rw [beq_eq_false_iff_ne]
          intro h
          exact hl (by omega)
        rw [h3]
        simp only [h1, z3, z4, z5, hn0, hn1, t0, t1, decide_true, cond_true, cond_false, Nat.add_zero]
        rfl
    | succ j =>
      refine cl_rnd21.trans ?_
      have e : Int.ofNat (j + 1) = ((j + 1 : Nat) : Int) := rfl
      have h1 : ((j + 1 : Nat) : Int) < (n : Int) := by omega
      have hgt : ((j + 1 : Nat) : Int) > 0 := by omega
      have h3 : w64 (((j + 1 : Nat) : Int) + 1) = ((j + 1 + 1 : Nat) : Int) := by rw [w64_id (by omega) (by omega)]; omega
      have w1 : w64 (((j + 1 : Nat) : Int) - 1) = (j : Int) := by rw [w64_id (by omega) (by omega)]; omega
      have y1 : (0 : Int) ≤ (j : Int) := by omega
      have y2 : (j : Int) < (n : Int) := by omega
      have y3 : j < n := by omega
      have z3 : (p (j + 1) != w64 (p j + f j)) = false := by rw [hp (j + 1) (by omega) hj]; simp
      have z4 : (w64 (q (j + 1) + f (j + 1)) != q j) = false := by rw [hq (j + 1) (by omega) hj]; simp
      by_cases hl : j + 1 + 1 = n
      · have z5 : (((j + 1 + 1 : Nat) : Int) == (n : Int)) = true := by rw [hl]; simp
        have z6 : (q (j + 1) != 0) = false := by rw [hqn (j + 1) hl]; rfl
        simp only [e, h3, w1, Int.toNat_natCast, Nat.zero_add, h1, hgt, hj, y1, y2, y3, z3, z4, z5, z6, decide_true, cond_true, cond_false]
        rfl
      · have z5 : (((j + 1 + 1 : Nat) : Int) == (n : Int)) = false := by
          rw [beq_eq_false_iff_ne]
          intro h
          exact hl (by omega)
        simp only [e, h3, w1, Int.toNat_natCast, Nat.zero_add, h1, hgt, hj, y1, y2, y3, z3, z4, z5, decide_true, cond_true, cond_false]
        rfl
end Go.Proofs.Ytcpahifgdppkbaa.QAI
