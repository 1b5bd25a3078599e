/- RectEdges: the plain law. -/
import Derived.Test.YtcpahifgdppkbaaE1
import Derived.Test.YtcpahifgdppkbaaC
set_option linter.unusedVariables false
set_option linter.unusedSimpArgs false
namespace Go.Proofs.Ytcpahifgdppkbaa.QAI
open Go Go.RowKit
set_option maxRecDepth 100000
/-- Of d numbers from b on: how many stand below y. -/
def cy (b d y : Int) : Int := max 0 (min (y - b) d)
theorem cy_step {b d y : Int} (hd : 0 ≤ d) : cy b d (y + 1) = cy b d y + (if b ≤ y ∧ y < b + d then 1 else 0) := by
  unfold cy
  split <;> omega
structure Sm4 (a b c d : Int) : Prop where
  a0 : -3 ≤ a
  a1 : a ≤ 4
  b0 : -3 ≤ b
  b1 : b ≤ 4
  c0 : 0 ≤ c
  c1 : c ≤ 7
  d0 : 0 ≤ d
  d1 : d ≤ 7
section
variable {a b c d : Int}
theorem cy_b (hs : 0 ≤ d ∧ d ≤ 7) (y : Int) : 0 ≤ cy b d y ∧ cy b d y ≤ 7 := by unfold cy; omega
theorem Sm4.has (hs : Sm4 a b c d) (x y : Int) : hasB a b c d x y = true ↔ a ≤ x ∧ x < a + c ∧ b ≤ y ∧ y < b + d := by
  obtain ⟨_, _, _, _, _, _, _, _⟩ := hs
  exact hasB_iff (by omega) (by omega)
def inN (n a b c d x y : Int) : Int := n + (if a ≤ x ∧ x < a + c then cy b d y else 0)
theorem inN_step (hs : Sm4 a b c d) {n x y : Int} : inN n a b c d x (y + 1) = inN n a b c d x y + (if hasB a b c d x y = true then 1 else 0) := by
  unfold inN
  rw [cy_step hs.d0]
  have h := hs.has x y
  by_cases h1 : a ≤ x ∧ x < a + c
  · by_cases h2 : b ≤ y ∧ y < b + d
    · rw [if_pos h1, if_pos h1, if_pos h2, if_pos (h.2 ⟨h1.1, h1.2, h2.1, h2.2⟩)]; omega
    · rw [if_pos h1, if_pos h1, if_neg h2, if_neg (fun e => h2 ⟨(h.1 e).2.2.1, (h.1 e).2.2.2⟩)]; omega
  · rw [if_neg h1, if_neg h1, if_neg (fun e => h1 ⟨(h.1 e).1, (h.1 e).2.1⟩)]; omega
theorem re_inner {L : Nat} (hs : Sm4 a b c d) {n x : Int} (hn : 0 ≤ n ∧ n ≤ 1000) (hL : 17 < L) :
    (iter (arun (reG L) 0 47 (bodyOf Try.f8 1)) (canon (reG L).T 0 ((reG L).keep 7)) L (reS a b c d n x (-4))).eval = some (re_endr a b c d (inN n a b c d x 13) x 13) := by
  have h0 : inN n a b c d x (-4) = n := by
    obtain ⟨_, _, _, _, _, _, _, _⟩ := hs
    unfold inN cy
    split <;> omega
  have key := iter_upto (f := arun (reG L) 0 47 (bodyOf Try.f8 1)) (k := canon (reG L).T 0 ((reG L).keep 7)) (fun i => reS a b c d (inN n a b c d x ((i : Int) - 4)) x ((i : Int) - 4)) (N := 17) (e := .exit 2) (by simp) (Se := (re_endr a b c d (inN n a b c d x 13) x 13).2) ?_ L 0 (Nat.zero_le _) (by omega) ?_
  · have e : (((0 : Nat) : Int) - 4) = -4 := rfl
    simp only [e, h0] at key
    exact key
  · have e : (((17 : Nat) : Int) - 4) = 13 := rfl
    simp only [e]
    exact round_go re_end ⟨by decide, trivial⟩
  · intro j _ hj
    have h3 : w64 ((j : Int) - 4 + 1) = ((j + 1 : Nat) : Int) - 4 := by rw [w64_in (by omega)]; omega
    have hstep := inN_step hs (n := n) (x := x) (y := (j : Int) - 4)
    rw [show (j : Int) - 4 + 1 = ((j + 1 : Nat) : Int) - 4 by omega] at hstep
    have hb : 0 ≤ inN n a b c d x ((j : Int) - 4) ∧ inN n a b c d x ((j : Int) - 4) ≤ 2000 := by
      have := cy_b (b := b) ⟨hs.d0, hs.d1⟩ ((j : Int) - 4)
      unfold inN
      split <;> omega
    by_cases h : hasB a b c d x ((j : Int) - 4) = true
    · rw [if_pos h] at hstep
      have hg := re_in (L := L) (a := a) (b := b) (c := c) (d := d) (n := inN n a b c d x ((j : Int) - 4)) (x := x) (y := (j : Int) - 4)
      rw [h3, w64_in (x := inN n a b c d x ((j : Int) - 4) + 1) (by omega), ← hstep] at hg
      exact round_go hg ⟨decide_eq_true (by omega), h, trivial⟩
    · rw [if_neg h, Int.add_zero] at hstep
      have hg := re_out (L := L) (a := a) (b := b) (c := c) (d := d) (n := inN n a b c d x ((j : Int) - 4)) (x := x) (y := (j : Int) - 4)
      rw [h3, ← hstep] at hg
      rw [← hstep]
      have h' : hasB a b c d x ((j : Int) - 4) = false := by simpa using h
      exact round_go hg ⟨decide_eq_true (by omega), by rw [h']; rfl, trivial⟩
theorem re_outer {L : Nat} (hs : Sm4 a b c d) (hL : 17 < L) :
    (iter (arun (reG L) 0 53 (bodyOf Try.f8 0)) (canon (reG L).T 0 ((reG L).keep 4)) L (reO a b c d 0 (-4))).eval = some (rx_endr a b c d (c * d) 13) := by
  have hm : ∀ i : Int, 0 ≤ cy a c i * d ∧ cy a c i * d ≤ 49 := fun i => by
    have h1 := cy_b (b := a) ⟨hs.c0, hs.c1⟩ i
    have h2 := hs.d0
    have h3 := hs.d1
    constructor
    · exact Int.mul_nonneg h1.1 h2
    · have : cy a c i * d ≤ 7 * 7 := Int.mul_le_mul h1.2 h3 h2 (by decide)
      omega
  have h0 : cy a c (-4) * d = 0 := by
    have : cy a c (-4) = 0 := by obtain ⟨_, _, _, _, _, _, _, _⟩ := hs; unfold cy; omega
    rw [this]; simp
  have h13 : cy a c 13 * d = c * d := by
    have : cy a c 13 = c := by obtain ⟨_, _, _, _, _, _, _, _⟩ := hs; unfold cy; omega
    rw [this]
  have hd13 : cy b d 13 = d := by obtain ⟨_, _, _, _, _, _, _, _⟩ := hs; unfold cy; omega
  have key := iter_upto (f := arun (reG L) 0 53 (bodyOf Try.f8 0)) (k := canon (reG L).T 0 ((reG L).keep 4)) (fun i => reO a b c d (cy a c ((i : Int) - 4) * d) ((i : Int) - 4)) (N := 17) (e := .exit 0) (by simp) (Se := (rx_endr a b c d (c * d) 13).2) ?_ L 0 (Nat.zero_le _) (by omega) ?_
  · have e : (((0 : Nat) : Int) - 4) = -4 := rfl
    simp only [e, h0] at key
    exact key
  · have e : (((17 : Nat) : Int) - 4) = 13 := rfl
    simp only [e, h13]
    exact round_l (noLoops) (round_go (f := lrun (reG L) (fun _ _ _ => .fail) 0 53 (bodyOf Try.f8 0)) rx_endN ⟨by decide, trivial⟩)
  · intro j _ hj
    have h3 : w64 ((j : Int) - 4 + 1) = ((j + 1 : Nat) : Int) - 4 := by rw [w64_in (by omega)]; omega
    have hb := hm ((j : Int) - 4)
    have hin := re_inner (L := L) hs (n := cy a c ((j : Int) - 4) * d) (x := (j : Int) - 4) (by omega) hL
    have hg := rx_go (L := L) (a := a) (b := b) (c := c) (d := d) (n := cy a c ((j : Int) - 4) * d) (x := (j : Int) - 4) (n' := inN (cy a c ((j : Int) - 4) * d) a b c d ((j : Int) - 4) 13)
    have e : inN (cy a c ((j : Int) - 4) * d) a b c d ((j : Int) - 4) 13 = cy a c (((j + 1 : Nat) : Int) - 4) * d := by
      unfold inN
      rw [hd13, show ((j + 1 : Nat) : Int) - 4 = (j : Int) - 4 + 1 by omega, cy_step hs.c0, Int.add_mul]
      split <;> simp
    rw [h3, e] at hg
    rw [e] at hin
    exact round_l (told_ok hin) (round_go hg ⟨decide_eq_true (by omega), yes_of ⟨rfl, rfl, rfl⟩, trivial⟩)
end
theorem rectEdges_true (a b c d : Int) : (afun (reG 18) 60 Try.f8 [Rv a b c d] []).eval = some (Bo true, []) := by
  have hs : Sm4 (tX true a) (tX true b) (tW true c) (tW true d) := ⟨(tX_small a).1, (tX_small a).2, (tX_small b).1, (tX_small b).2, (tW_small c).1, (tW_small c).2, (tW_small d).1, (tW_small d).2⟩
  have hl := told_ok (re_outer (L := 18) hs (by decide))
  have q1 := @re_w1 18 a b c d (tW true c * tW true d)
  have q2 := @re_w2 18 a b c d (tW true c * tW true d)
  have i0 := hs.has (tX true a) (tX true b)
  have hsum : w64 (tX true a + tW true c) = tX true a + tW true c := by obtain ⟨_, _, _, _, _, _, _, _⟩ := hs; exact w64_in (by omega)
  have hsum2 : w64 (tX true b + tW true d) = tX true b + tW true d := by obtain ⟨_, _, _, _, _, _, _, _⟩ := hs; exact w64_in (by omega)
  have i1 := hs.has (tX true a + tW true c) (tX true b)
  have i2 := hs.has (tX true a) (tX true b + tW true d)
  have n1 : hasB (tX true a) (tX true b) (tW true c) (tW true d) (tX true a + tW true c) (tX true b) = false := by
    cases e : hasB (tX true a) (tX true b) (tW true c) (tW true d) (tX true a + tW true c) (tX true b) with
    | false => rfl
    | true => have := i1.1 e; omega
  have n2 : hasB (tX true a) (tX true b) (tW true c) (tW true d) (tX true a) (tX true b + tW true d) = false := by
    cases e : hasB (tX true a) (tX true b) (tW true c) (tW true d) (tX true a) (tX true b + tW true d) with
    | false => rfl
    | true => have := i2.1 e; omega
  have hp : w64 (tW true c * tW true d) = tW true c * tW true d := by
    have h1 := Int.mul_nonneg hs.c0 hs.d0
    have h2 : tW true c * tW true d ≤ 7 * 7 := Int.mul_le_mul hs.c1 hs.d1 hs.d0 (by decide)
    exact w64_in (by omega)
  have n0 : (tW true c * tW true d == w64 (tW true c * tW true d)) = true := by rw [hp]; simp
  by_cases hc : tW true c > 0
  · refine lfun_go (h := []) hl q1 ?_
    have c3 : (hasB (tX true a) (tX true b) (tW true c) (tW true d) (tX true a) (tX true b) == decide (tW true d > 0)) = true := by
      rw [beq_iff_eq, Bool.eq_iff_iff, i0, decide_eq_true_eq]
      omega
    repeat' (first | exact AllT.nil | refine AllT.cons ?_ ?_)
    all_goals first | with_reducible rfl | with_reducible assumption | with_reducible exact decide_eq_true hc | (with_reducible exact yes_of ⟨rfl, rfl, rfl⟩) | (rw [hsum, n1]; rfl) | (rw [hsum2, n2]; rfl)
  · refine lfun_go (h := []) hl q2 ?_
    have c3 : (hasB (tX true a) (tX true b) (tW true c) (tW true d) (tX true a) (tX true b) == false) = true := by
      rw [beq_iff_eq]
      cases e : hasB (tX true a) (tX true b) (tW true c) (tW true d) (tX true a) (tX true b) with
      | false => rfl
      | true => have := i0.1 e; omega
    repeat' (first | exact AllT.nil | refine AllT.cons ?_ ?_)
    all_goals first | with_reducible rfl | with_reducible assumption | (with_reducible exact yes_of ⟨rfl, rfl, rfl⟩) | (rw [decide_eq_false hc]; rfl) | (rw [hsum, n1]; rfl) | (rw [hsum2, n2]; rfl)
def rectEdgesS : List Shp := [.agg [.int .i64, .int .i64, .int .i64, .int .i64]]
theorem ins_rectE {ss : List Shp} {is : List In} (h : InsOk (.agg [.int .i64, .int .i64, .int .i64, .int .i64] :: ss) is) : ∃ (a b c d : Int) (is' : List In), is = .agg [.int .i64 a, .int .i64 b, .int .i64 c, .int .i64 d] :: is' ∧ InsOk ss is' := by
  obtain ⟨i, is', rfl, h1, h2⟩ := ins_cons h
  cases i with
  | agg cs =>
    have h1' : F2 Kd.ok [.int .i64, .int .i64, .int .i64, .int .i64] cs := h1
    cases h1' with
    | cons p1 h1' => cases h1' with
      | cons p2 h1' => cases h1' with
        | cons p3 h1' => cases h1' with
          | cons p4 h1' => cases h1' with
            | nil =>
              obtain ⟨a, rfl, _⟩ := p1
              obtain ⟨b, rfl, _⟩ := p2
              obtain ⟨c, rfl, _⟩ := p3
              obtain ⟨d, rfl, _⟩ := p4
              exact ⟨a, b, c, d, is', rfl, h2⟩
  | _ => cases h1
theorem rectEdges_core : ∀ is, InsOk rectEdgesS is → ∃ keep L d, (afun (GK rK3 keep L) d Try.f8 (avsIn 0 rectEdgesS is) (blksIn rectEdgesS is)).eval = some (Bo true, blksIn rectEdgesS is) := by
  intro is0 h0
  obtain ⟨a, b, c, d, is1, rfl, h1⟩ := ins_rectE h0
  obtain rfl := ins_nil h1
  exact ⟨_, _, 60, rectEdges_true a b c d⟩
end Go.Proofs.Ytcpahifgdppkbaa.QAI
