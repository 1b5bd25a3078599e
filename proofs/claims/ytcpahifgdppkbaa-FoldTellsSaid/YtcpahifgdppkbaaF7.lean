/- FoldTells: the plain law. -/
import Derived.Test.YtcpahifgdppkbaaF6
import Derived.Test.YtcpahifgdppkbaaC
set_option linter.unusedVariables false
set_option linter.unusedSimpArgs false
namespace Go.Proofs.Ytcpahifgdppkbaa.QAI
open Go Go.RowKit
set_option maxRecDepth 100000
theorem ft_loop2Z {L k : Nat} {g : Nat → Int} {c : Int} (hk : k ≤ 100) (hL : k < L) :
    (iter (arun (ftG L) 1 51 (bodyOf Try.f4 1)) (canon (ftG L).T 1 ((ftG L).keep 12)) L (ftZ k g c)).eval = some (.exit 2, ftF2 k g c) := by
  have h := ft_loop2 (L := L) (g := g) (c := c) hk hL
  have e : ftI2 k g c 0 = ftZ k g c := by
    unfold ftI2 ftZ bk
    simp
  rwa [e] at h
theorem ga_le {g : Nat → Int} {k i : Nat} {b : Int} (hb : 0 ≤ b) (hi : i < k) : (ga g k i).1 ≤ b ↔ tm (g i) ≤ b := by
  unfold ga
  rw [if_pos hi, ofI_le _ _ hb]
theorem ga_ge {g : Nat → Int} {k i : Nat} {b : Int} (hb : b ≤ 0) (hi : i < k) : b ≤ (ga g k i).2 ↔ b ≤ tm (g i) := by
  unfold ga
  rw [if_pos hi, ofI_ge _ _ hb]
theorem jp_ga (g : Nat → Int) (k : Nat) : (jp (ga g k) 0 k).1 = sPos g k ∧ (jp (ga g k) 0 k).2 = sNeg g k := by
  obtain ⟨h1, h2⟩ := jp_mx (ga g k) 0 k
  rw [h1, h2, sPos_eq, sNeg_eq]
  refine ⟨mx_ext fun b hb => ?_, mn_ext fun b hb => ?_⟩
  · constructor
    · intro h i hi; exact (ga_le hb hi).1 (by simpa using h i hi)
    · intro h i hi; simpa using (ga_le hb hi).2 (h i hi)
  · constructor
    · intro h i hi; exact (ga_ge hb hi).1 (by simpa using h i hi)
    · intro h i hi; simpa using (ga_ge hb hi).2 (h i hi)
theorem jp_bk (g : Nat → Int) (k : Nat) : (jp (bk (ga g k) k k) 0 (2 * k)).1 = (jp (ga g k) 0 k).1 ∧ (jp (bk (ga g k) k k) 0 (2 * k)).2 = (jp (ga g k) 0 k).2 := by
  obtain ⟨h1, h2⟩ := jp_mx (bk (ga g k) k k) 0 (2 * k)
  obtain ⟨h3, h4⟩ := jp_mx (ga g k) 0 k
  rw [h1, h2, h3, h4]
  have hb : ∀ i, i < 2 * k → bk (ga g k) k k i = ga g k (k - 1 - i / 2) := fun i hi => by unfold bk; rw [if_pos hi]
  refine ⟨mx_ext fun b _ => ?_, mn_ext fun b _ => ?_⟩
  · simp only [Nat.zero_add]
    constructor
    · intro h i hi
      have := h (2 * (k - 1 - i)) (by omega)
      rw [hb _ (by omega)] at this
      rwa [show k - 1 - 2 * (k - 1 - i) / 2 = i by omega] at this
    · intro h i hi
      rw [hb i hi]
      exact h _ (by omega)
  · simp only [Nat.zero_add]
    constructor
    · intro h i hi
      have := h (2 * (k - 1 - i)) (by omega)
      rw [hb _ (by omega)] at this
      rwa [show k - 1 - 2 * (k - 1 - i) / 2 = i by omega] at this
    · intro h i hi
      rw [hb i hi]
      exact h _ (by omega)
theorem foldTells_true (k : Nat) (g : Nat → Int) (c : Int) : ∃ L, (afun (ftG L) 60 Try.f4 [.c (.sl 0 0 k), I64 c] (inL 2 k g)).eval = some (Bo true, inL 2 k g) := by
  refine ⟨k + 1, ?_⟩
  by_cases h : (k : Int) > 100
  · exact lfun_go noLoops ft_w1 ⟨decide_eq_true h, trivial⟩
  · have hk : k ≤ 100 := by omega
    have hl : LoopsOk (ftG (k + 1)) 1 (byReg 6 (told 52 (bodyOf Try.f4 0) (ftI k g c 0) (.exit 0, ftF k g c)) (told 51 (bodyOf Try.f4 1) (ftZ k g c) (.exit 2, ftF2 k g c))) :=
      byReg_ok (told_ok (ft_loop hk (Nat.lt_succ_self _))) (told_ok (ft_loop2Z hk (Nat.lt_succ_self _)))
    refine lfun_go (h := inL 2 k g) hl ft_w2 ?_
    have hw : w64 ((k : Int) + 1) = (k : Int) + 1 := w64_id (by omega) (by omega)
    have ha := and_mask 8 (by decide) c 255 rfl
    rw [hw]
    generalize hC : (and64 c 255).tmod ((k : Int) + 1) = C
    have hC0 : 0 ≤ C ∧ C ≤ k := by
      rw [← hC, tmod_nn (by omega)]
      have h1 := Int.emod_nonneg (and64 c 255) (show (k : Int) + 1 ≠ 0 by omega)
      have h2 := Int.emod_lt_of_pos (and64 c 255) (show (0 : Int) < (k : Int) + 1 by omega)
      omega
    obtain ⟨n, rfl⟩ : ∃ n : Nat, C = n := ⟨C.toNat, by omega⟩
    have hn : n ≤ k := by omega
    have t0 : Int.toNat 0 = 0 := rfl
    have eG : (fun i => dec2 (enc2 (ga g k i))) = ga g k := rfl
    have eB : (fun i => dec2 (enc2 (bk (ga g k) k k i))) = bk (ga g k) k k := rfl
    simp only [Int.toNat_natCast, t0, Nat.zero_add, Nat.sub_zero, eG, eB, Nat.add_zero]
    obtain ⟨p1, p2⟩ := jp_ga g k
    obtain ⟨p3, p4⟩ := jp_bk g k
    obtain ⟨m1, m2⟩ := jp_mx (ga g k) 0 k
    obtain ⟨m3, m4⟩ := jp_mx (ga g k) n (k - n)
    obtain ⟨m5, m6⟩ := jp_mx (ga g k) 0 n
    have s1 := mx_split (fun i => (ga g k i).1) hn
    have s2 := mn_split (fun i => (ga g k i).2) hn
    have z1 := mx_nn (fun i => (ga g k i).1) k
    have z2 := mn_nn (fun i => (ga g k i).2) k
    simp only [Nat.zero_add] at m1 m2 m5 m6
    have q1 : mxI (jp (ga g k) n (k - n)).1 (mxI (jp (ga g k) 0 n).1 0) = (jp (ga g k) 0 k).1 := by rw [m3, m5, m1]; exact s1
    have q2 : mnI (jp (ga g k) n (k - n)).2 (mnI (jp (ga g k) 0 n).2 0) = (jp (ga g k) 0 k).2 := by rw [m4, m6, m2]; exact s2
    have q3 : mxI (jp (ga g k) 0 k).1 0 = (jp (ga g k) 0 k).1 := by rw [m1]; unfold mxI; omega
    have q4 : mnI (jp (ga g k) 0 k).2 0 = (jp (ga g k) 0 k).2 := by rw [m2]; unfold mnI; omega
    rw [p3, p4, q1, q2, q3, q4, p1, p2]
    repeat' (first | exact AllT.nil | refine AllT.cons ?_ ?_)
    all_goals first | with_reducible rfl | exact yes_of ⟨rfl, rfl, rfl⟩ | (rw [decide_eq_false h]; rfl) | exact decide_eq_true (by omega) | exact yes_of ⟨by omega, by omega, rfl⟩ | (simp only [beq_self_eq_true, Bool.and_self]; done) | (simp [decInt]; omega)
def foldTellsS : List Shp := [.rows 2 [.int .i64], .one (.int .i64)]
theorem foldTells_core : ∀ is, InsOk foldTellsS is → ∃ keep L d, (afun (GK KA keep L) d Try.f4 (avsIn 0 foldTellsS is) (blksIn foldTellsS is)).eval = some (Bo true, blksIn foldTellsS is) := by
  intro is0 h0
  obtain ⟨k, g, is1, rfl, h1, _⟩ := ins_ints h0
  obtain ⟨c, is2, rfl, h2⟩ := ins_i64 h1
  obtain rfl := ins_nil h2
  obtain ⟨L, h⟩ := foldTells_true k g c
  exact ⟨_, L, 60, h⟩
end Go.Proofs.Ytcpahifgdppkbaa.QAI
