/- WhitRows: what the walk comes to. -/
import Derived.Test.YtcpahifgdppkbaaQWhitRows12
section
set_option linter.unusedVariables false
set_option linter.unusedSimpArgs false
namespace Go.Proofs.Ytcpahifgdppkbaa.QAI
open Go Go.RowKit
set_option maxRecDepth 100000
section
variable {K : Nat} {g : Nat → Int} {m n : Nat} {R : Nat → Rn} {L : Nat → Gl} {ink i : Nat} {r q : Nat}
theorem ws_B2_32 (hn : n < 2 ^ 40) (hik : ink ≤ i) (hi : i < n) (hr : r < m) (hq : q < (R r).s.size) (f1 : (L i).r = r) (f2 : (L i).a = q) (f4 : 0 ≤ (L i).w) (hc : bt (R r).s q = 32) (hv : ¬ (R r).v = 2) (hk : (L i).k = 2) (h0 : 0 < i) (h1 : i + 1 < n) (hp : (L (i - 1)).k = 1) (hx : (L (i + 1)).k = 1) (hl : (L (i - 1)).r < r ∨ ((L (i - 1)).r = r ∧ (L (i - 1)).a < q)) :
    CodeSem wqG 1 (bodyOf Try.f24 0) (wq1S K g m R n L (ink : Nat) i) (.normal, wq1S K g m R n L (ink : Nat) ((i + 1 : Nat) : Int)) := by
  have e3 := succ64 (j := i) (by omega)
  have e4 := succ64 (j := ink) (by omega)
  have i1 : w64 ((i : Int) - 1) = ((i - 1 : Nat) : Int) := by rw [w64_id (by omega) (by omega)]; omega
  rcases hl with hl | ⟨hl, hl2⟩
  · refine rT_sem wqG_ok noLoopsS ((rT_go wq1_B2_32L ?_).trans ?_)
    · try simp only [Int.toNat_natCast, Nat.zero_add, f1, f2, e3, e4, i1]
      repeat' (first | exact AllT.nil | refine AllT.cons ?_ ?_)
      all_goals first | (with_reducible rfl) | (with_reducible assumption) | (simp [hc, hv, hk, hp, hx]; done) | exact yes_of ⟨rfl, rfl⟩ | exact decide_eq_true (by omega) | exact beq_iff_eq.2 (by omega) | (simp; done) | (simp; omega)
    · try simp only [Int.toNat_natCast, Nat.zero_add, f1, f2, e3, e4, i1]
      rfl
  · refine rT_sem wqG_ok noLoopsS ((rT_go wq1_B2_32S ?_).trans ?_)
    · try simp only [Int.toNat_natCast, Nat.zero_add, f1, f2, e3, e4, i1]
      repeat' (first | exact AllT.nil | refine AllT.cons ?_ ?_)
      all_goals first | (with_reducible rfl) | (with_reducible assumption) | (simp [hc, hv, hk, hp, hx, hl]; done) | exact yes_of ⟨rfl, rfl⟩ | exact decide_eq_true (by omega) | exact beq_iff_eq.2 (by omega) | (simp; done) | (simp; omega)
    · try simp only [Int.toNat_natCast, Nat.zero_add, f1, f2, e3, e4, i1]
      rfl
theorem ws_B3_32 (hn : n < 2 ^ 40) (hik : ink ≤ i) (hi : i < n) (hr : r < m) (hq : q < (R r).s.size) (f1 : (L i).r = r) (f2 : (L i).a = q) (f4 : 0 ≤ (L i).w) (hc : bt (R r).s q = 32) (hv : ¬ (R r).v = 2) (hv1 : (R r).v = 1) (hk : (L i).k = 3) (h0 : 0 < i) (h1 : i + 1 < n) (hp : (L (i - 1)).k = 1) (hx : (L (i + 1)).k = 1) (hl : (L (i - 1)).r < r ∨ ((L (i - 1)).r = r ∧ (L (i - 1)).a < q)) :
    CodeSem wqG 1 (bodyOf Try.f24 0) (wq1S K g m R n L (ink : Nat) i) (.normal, wq1S K g m R n L (ink : Nat) ((i + 1 : Nat) : Int)) := by
  have e3 := succ64 (j := i) (by omega)
  have e4 := succ64 (j := ink) (by omega)
  have i1 : w64 ((i : Int) - 1) = ((i - 1 : Nat) : Int) := by rw [w64_id (by omega) (by omega)]; omega
  rcases hl with hl | ⟨hl, hl2⟩
  · refine rT_sem wqG_ok noLoopsS ((rT_go wq1_B3_32L ?_).trans ?_)
    · try simp only [Int.toNat_natCast, Nat.zero_add, f1, f2, e3, e4, i1]
      repeat' (first | exact AllT.nil | refine AllT.cons ?_ ?_)
      all_goals first | (with_reducible rfl) | (with_reducible assumption) | (simp [hc, hv, hk, hp, hx, hv1]; done) | exact yes_of ⟨rfl, rfl⟩ | exact decide_eq_true (by omega) | exact beq_iff_eq.2 (by omega) | (simp; done) | (simp; omega)
    · try simp only [Int.toNat_natCast, Nat.zero_add, f1, f2, e3, e4, i1]
      rfl
  · refine rT_sem wqG_ok noLoopsS ((rT_go wq1_B3_32S ?_).trans ?_)
    · try simp only [Int.toNat_natCast, Nat.zero_add, f1, f2, e3, e4, i1]
      repeat' (first | exact AllT.nil | refine AllT.cons ?_ ?_)
      all_goals first | (with_reducible rfl) | (with_reducible assumption) | (simp [hc, hv, hk, hp, hx, hv1, hl]; done) | exact yes_of ⟨rfl, rfl⟩ | exact decide_eq_true (by omega) | exact beq_iff_eq.2 (by omega) | (simp; done) | (simp; omega)
    · try simp only [Int.toNat_natCast, Nat.zero_add, f1, f2, e3, e4, i1]
      rfl
theorem ws_P_32 (hn : n < 2 ^ 40) (hik : ink ≤ i) (hi : i < n) (hr : r < m) (hq : q < (R r).s.size) (f1 : (L i).r = r) (f2 : (L i).a = q) (f4 : 0 ≤ (L i).w) (hc : bt (R r).s q = 32) (hv : (R r).v = 2) (hk : (L i).k = 1) (hl : 0 < i → (L (i - 1)).r < r ∨ ((L (i - 1)).r = r ∧ (L (i - 1)).a < q)) :
    CodeSem wqG 1 (bodyOf Try.f24 0) (wq1S K g m R n L (ink : Nat) i) (.normal, wq1S K g m R n L (ink : Nat) ((i + 1 : Nat) : Int)) := by
  have e3 := succ64 (j := i) (by omega)
  have e4 := succ64 (j := ink) (by omega)
  rcases Nat.eq_zero_or_pos i with h0 | h0
  · refine rT_sem wqG_ok noLoopsS ((rT_go wq1_P_320 ?_).trans ?_)
    · try simp only [Int.toNat_natCast, Nat.zero_add, f1, f2, e3, e4]
      repeat' (first | exact AllT.nil | refine AllT.cons ?_ ?_)
      all_goals first | (with_reducible rfl) | (with_reducible assumption) | (simp [hc, hv, hk]; done) | exact yes_of ⟨rfl, rfl⟩ | exact decide_eq_true (by omega) | exact beq_iff_eq.2 (by omega) | (simp; done) | (simp; omega)
    · try simp only [Int.toNat_natCast, Nat.zero_add, f1, f2, e3, e4]
      rfl
  · have i1 : w64 ((i : Int) - 1) = ((i - 1 : Nat) : Int) := by rw [w64_id (by omega) (by omega)]; omega
    rcases hl h0 with hl | ⟨hl, hl2⟩
    · refine rT_sem wqG_ok noLoopsS ((rT_go wq1_P_32L ?_).trans ?_)
      · try simp only [Int.toNat_natCast, Nat.zero_add, f1, f2, e3, e4, i1]
        repeat' (first | exact AllT.nil | refine AllT.cons ?_ ?_)
        all_goals first | (with_reducible rfl) | (with_reducible assumption) | (simp [hc, hv, hk]; done) | exact yes_of ⟨rfl, rfl⟩ | exact decide_eq_true (by omega) | exact beq_iff_eq.2 (by omega) | (simp; done) | (simp; omega)
      · try simp only [Int.toNat_natCast, Nat.zero_add, f1, f2, e3, e4, i1]
        rfl
    · refine rT_sem wqG_ok noLoopsS ((rT_go wq1_P_32S ?_).trans ?_)
      · try simp only [Int.toNat_natCast, Nat.zero_add, f1, f2, e3, e4, i1]
        repeat' (first | exact AllT.nil | refine AllT.cons ?_ ?_)
        all_goals first | (with_reducible rfl) | (with_reducible assumption) | (simp [hc, hv, hk, hl]; done) | exact yes_of ⟨rfl, rfl⟩ | exact decide_eq_true (by omega) | exact beq_iff_eq.2 (by omega) | (simp; done) | (simp; omega)
      · try simp only [Int.toNat_natCast, Nat.zero_add, f1, f2, e3, e4, i1]
        rfl
theorem ws_B2_9 (hn : n < 2 ^ 40) (hik : ink ≤ i) (hi : i < n) (hr : r < m) (hq : q < (R r).s.size) (f1 : (L i).r = r) (f2 : (L i).a = q) (f4 : 0 ≤ (L i).w) (hc : bt (R r).s q = 9) (hv : ¬ (R r).v = 2) (hk : (L i).k = 2) (h0 : 0 < i) (h1 : i + 1 < n) (hp : (L (i - 1)).k = 1) (hx : (L (i + 1)).k = 1) (hl : (L (i - 1)).r < r ∨ ((L (i - 1)).r = r ∧ (L (i - 1)).a < q)) :
    CodeSem wqG 1 (bodyOf Try.f24 0) (wq1S K g m R n L (ink : Nat) i) (.normal, wq1S K g m R n L (ink : Nat) ((i + 1 : Nat) : Int)) := by
  have e3 := succ64 (j := i) (by omega)
  have e4 := succ64 (j := ink) (by omega)
  have i1 : w64 ((i : Int) - 1) = ((i - 1 : Nat) : Int) := by rw [w64_id (by omega) (by omega)]; omega
  rcases hl with hl | ⟨hl, hl2⟩
  · refine rT_sem wqG_ok noLoopsS ((rT_go wq1_B2_9L ?_).trans ?_)
    · try simp only [Int.toNat_natCast, Nat.zero_add, f1, f2, e3, e4, i1]
      repeat' (first | exact AllT.nil | refine AllT.cons ?_ ?_)
      all_goals first | (with_reducible rfl) | (with_reducible assumption) | (simp [hc, hv, hk, hp, hx]; done) | exact yes_of ⟨rfl, rfl⟩ | exact decide_eq_true (by omega) | exact beq_iff_eq.2 (by omega) | (simp; done) | (simp; omega)
    · try simp only [Int.toNat_natCast, Nat.zero_add, f1, f2, e3, e4, i1]
      rfl
  · refine rT_sem wqG_ok noLoopsS ((rT_go wq1_B2_9S ?_).trans ?_)
    · try simp only [Int.toNat_natCast, Nat.zero_add, f1, f2, e3, e4, i1]
      repeat' (first | exact AllT.nil | refine AllT.cons ?_ ?_)
      all_goals first | (with_reducible rfl) | (with_reducible assumption) | (simp [hc, hv, hk, hp, hx, hl]; done) | exact yes_of ⟨rfl, rfl⟩ | exact decide_eq_true (by omega) | exact beq_iff_eq.2 (by omega) | (simp; done) | (simp; omega)
    · try simp only [Int.toNat_natCast, Nat.zero_add, f1, f2, e3, e4, i1]
      rfl
theorem ws_B3_9 (hn : n < 2 ^ 40) (hik : ink ≤ i) (hi : i < n) (hr : r < m) (hq : q < (R r).s.size) (f1 : (L i).r = r) (f2 : (L i).a = q) (f4 : 0 ≤ (L i).w) (hc : bt (R r).s q = 9) (hv : ¬ (R r).v = 2) (hv1 : (R r).v = 1) (hk : (L i).k = 3) (h0 : 0 < i) (h1 : i + 1 < n) (hp : (L (i - 1)).k = 1) (hx : (L (i + 1)).k = 1) (hl : (L (i - 1)).r < r ∨ ((L (i - 1)).r = r ∧ (L (i - 1)).a < q)) :
    CodeSem wqG 1 (bodyOf Try.f24 0) (wq1S K g m R n L (ink : Nat) i) (.normal, wq1S K g m R n L (ink : Nat) ((i + 1 : Nat) : Int)) := by
  have e3 := succ64 (j := i) (by omega)
  have e4 := succ64 (j := ink) (by omega)
  have i1 : w64 ((i : Int) - 1) = ((i - 1 : Nat) : Int) := by rw [w64_id (by omega) (by omega)]; omega
  rcases hl with hl | ⟨hl, hl2⟩
  · refine rT_sem wqG_ok noLoopsS ((rT_go wq1_B3_9L ?_).trans ?_)
    · try simp only [Int.toNat_natCast, Nat.zero_add, f1, f2, e3, e4, i1]
      repeat' (first | exact AllT.nil | refine AllT.cons ?_ ?_)
      all_goals first | (with_reducible rfl) | (with_reducible assumption) | (simp [hc, hv, hk, hp, hx, hv1]; done) | exact yes_of ⟨rfl, rfl⟩ | exact decide_eq_true (by omega) | exact beq_iff_eq.2 (by omega) | (simp; done) | (simp; omega)
    · try simp only [Int.toNat_natCast, Nat.zero_add, f1, f2, e3, e4, i1]
      rfl
  · refine rT_sem wqG_ok noLoopsS ((rT_go wq1_B3_9S ?_).trans ?_)
    · try simp only [Int.toNat_natCast, Nat.zero_add, f1, f2, e3, e4, i1]
      repeat' (first | exact AllT.nil | refine AllT.cons ?_ ?_)
      all_goals first | (with_reducible rfl) | (with_reducible assumption) | (simp [hc, hv, hk, hp, hx, hv1, hl]; done) | exact yes_of ⟨rfl, rfl⟩ | exact decide_eq_true (by omega) | exact beq_iff_eq.2 (by omega) | (simp; done) | (simp; omega)
    · try simp only [Int.toNat_natCast, Nat.zero_add, f1, f2, e3, e4, i1]
      rfl
theorem ws_P_9 (hn : n < 2 ^ 40) (hik : ink ≤ i) (hi : i < n) (hr : r < m) (hq : q < (R r).s.size) (f1 : (L i).r = r) (f2 : (L i).a = q) (f4 : 0 ≤ (L i).w) (hc : bt (R r).s q = 9) (hv : (R r).v = 2) (hk : (L i).k = 1) (hl : 0 < i → (L (i - 1)).r < r ∨ ((L (i - 1)).r = r ∧ (L (i - 1)).a < q)) :
    CodeSem wqG 1 (bodyOf Try.f24 0) (wq1S K g m R n L (ink : Nat) i) (.normal, wq1S K g m R n L (ink : Nat) ((i + 1 : Nat) : Int)) := by
  have e3 := succ64 (j := i) (by omega)
  have e4 := succ64 (j := ink) (by omega)
  rcases Nat.eq_zero_or_pos i with h0 | h0
  · refine rT_sem wqG_ok noLoopsS ((rT_go wq1_P_90 ?_).trans ?_)
    · try simp only [Int.toNat_natCast, Nat.zero_add, f1, f2, e3, e4]
      repeat' (first | exact AllT.nil | refine AllT.cons ?_ ?_)
      all_goals first | (with_reducible rfl) | (with_reducible assumption) | (simp [hc, hv, hk]; done) | exact yes_of ⟨rfl, rfl⟩ | exact decide_eq_true (by omega) | exact beq_iff_eq.2 (by omega) | (simp; done) | (simp; omega)
    · try simp only [Int.toNat_natCast, Nat.zero_add, f1, f2, e3, e4]
      rfl
  · have i1 : w64 ((i : Int) - 1) = ((i - 1 : Nat) : Int) := by rw [w64_id (by omega) (by omega)]; omega
    rcases hl h0 with hl | ⟨hl, hl2⟩
    · refine rT_sem wqG_ok noLoopsS ((rT_go wq1_P_9L ?_).trans ?_)
      · try simp only [Int.toNat_natCast, Nat.zero_add, f1, f2, e3, e4, i1]
        repeat' (first | exact AllT.nil | refine AllT.cons ?_ ?_)
        all_goals first | (with_reducible rfl) | (with_reducible assumption) | (simp [hc, hv, hk]; done) | exact yes_of ⟨rfl, rfl⟩ | exact decide_eq_true (by omega) | exact beq_iff_eq.2 (by omega) | (simp; done) | (simp; omega)
      · try simp only [Int.toNat_natCast, Nat.zero_add, f1, f2, e3, e4, i1]
        rfl
    · refine rT_sem wqG_ok noLoopsS ((rT_go wq1_P_9S ?_).trans ?_)
      · try simp only [Int.toNat_natCast, Nat.zero_add, f1, f2, e3, e4, i1]
        repeat' (first | exact AllT.nil | refine AllT.cons ?_ ?_)
        all_goals first | (with_reducible rfl) | (with_reducible assumption) | (simp [hc, hv, hk, hl]; done) | exact yes_of ⟨rfl, rfl⟩ | exact decide_eq_true (by omega) | exact beq_iff_eq.2 (by omega) | (simp; done) | (simp; omega)
      · try simp only [Int.toNat_natCast, Nat.zero_add, f1, f2, e3, e4, i1]
        rfl
theorem ws_B2_10 (hn : n < 2 ^ 40) (hik : ink ≤ i) (hi : i < n) (hr : r < m) (hq : q < (R r).s.size) (f1 : (L i).r = r) (f2 : (L i).a = q) (f4 : 0 ≤ (L i).w) (hc : bt (R r).s q = 10) (hv : ¬ (R r).v = 2) (hk : (L i).k = 2) (h0 : 0 < i) (h1 : i + 1 < n) (hp : (L (i - 1)).k = 1) (hx : (L (i + 1)).k = 1) (hl : (L (i - 1)).r < r ∨ ((L (i - 1)).r = r ∧ (L (i - 1)).a < q)) :
    CodeSem wqG 1 (bodyOf Try.f24 0) (wq1S K g m R n L (ink : Nat) i) (.normal, wq1S K g m R n L (ink : Nat) ((i + 1 : Nat) : Int)) := by
  have e3 := succ64 (j := i) (by omega)
  have e4 := succ64 (j := ink) (by omega)
  have i1 : w64 ((i : Int) - 1) = ((i - 1 : Nat) : Int) := by rw [w64_id (by omega) (by omega)]; omega
  rcases hl with hl | ⟨hl, hl2⟩
  · refine rT_sem wqG_ok noLoopsS ((rT_go wq1_B2_10L ?_).trans ?_)
    · try simp only [Int.toNat_natCast, Nat.zero_add, f1, f2, e3, e4, i1]
      repeat' (first | exact AllT.nil | refine AllT.cons ?_ ?_)
      all_goals first | (with_reducible rfl) | (with_reducible assumption) | (simp [hc, hv, hk, hp, hx]; done) | exact yes_of ⟨rfl, rfl⟩ | exact decide_eq_true (by omega) | exact beq_iff_eq.2 (by omega) | (simp; done) | (simp; omega)
    · try simp only [Int.toNat_natCast, Nat.zero_add, f1, f2, e3, e4, i1]
      rfl
  · refine rT_sem wqG_ok noLoopsS ((rT_go wq1_B2_10S ?_).trans ?_)
    · try simp only [Int.toNat_natCast, Nat.zero_add, f1, f2, e3, e4, i1]
      repeat' (first | exact AllT.nil | refine AllT.cons ?_ ?_)
      all_goals first | (with_reducible rfl) | (with_reducible assumption) | (simp [hc, hv, hk, hp, hx, hl]; done) | exact yes_of ⟨rfl, rfl⟩ | exact decide_eq_true (by omega) | exact beq_iff_eq.2 (by omega) | (simp; done) | (simp; omega)
    · try simp only [Int.toNat_natCast, Nat.zero_add, f1, f2, e3, e4, i1]
      rfl
theorem ws_B3_10 (hn : n < 2 ^ 40) (hik : ink ≤ i) (hi : i < n) (hr : r < m) (hq : q < (R r).s.size) (f1 : (L i).r = r) (f2 : (L i).a = q) (f4 : 0 ≤ (L i).w) (hc : bt (R r).s q = 10) (hv : ¬ (R r).v = 2) (hv1 : (R r).v = 1) (hk : (L i).k = 3) (h0 : 0 < i) (h1 : i + 1 < n) (hp : (L (i - 1)).k = 1) (hx : (L (i + 1)).k = 1) (hl : (L (i - 1)).r < r ∨ ((L (i - 1)).r = r ∧ (L (i - 1)).a < q)) :
    CodeSem wqG 1 (bodyOf Try.f24 0) (wq1S K g m R n L (ink : Nat) i) (.normal, wq1S K g m R n L (ink : Nat) ((i + 1 : Nat) : Int)) := by
  have e3 := succ64 (j := i) (by omega)
  have e4 := succ64 (j := ink) (by omega)
  have i1 : w64 ((i : Int) - 1) = ((i - 1 : Nat) : Int) := by rw [w64_id (by omega) (by omega)]; omega
  rcases hl with hl | ⟨hl, hl2⟩
  · refine rT_sem wqG_ok noLoopsS ((rT_go wq1_B3_10L ?_).trans ?_)
    · try simp only [Int.toNat_natCast, Nat.zero_add, f1, f2, e3, e4, i1]
      repeat' (first | exact AllT.nil | refine AllT.cons ?_ ?_)
      all_goals first | (with_reducible rfl) | (with_reducible assumption) | (simp [hc, hv, hk, hp, hx, hv1]; done) | exact yes_of ⟨rfl, rfl⟩ | exact decide_eq_true (by omega) | exact beq_iff_eq.2 (by omega) | (simp; done) | (simp; omega)
    · try simp only [Int.toNat_natCast, Nat.zero_add, f1, f2, e3, e4, i1]
      rfl
  · refine rT_sem wqG_ok noLoopsS ((rT_go wq1_B3_10S ?_).trans ?_)
    · try simp only [Int.toNat_natCast, Nat.zero_add, f1, f2, e3, e4, i1]
      repeat' (first | exact AllT.nil | refine AllT.cons ?_ ?_)
      all_goals first | (with_reducible rfl) | (with_reducible assumption) | (simp [hc, hv, hk, hp, hx, hv1, hl]; done) | exact yes_of ⟨rfl, rfl⟩ | exact decide_eq_true (by omega) | exact beq_iff_eq.2 (by omega) | (simp; done) | (simp; omega)
    · try simp only [Int.toNat_natCast, Nat.zero_add, f1, f2, e3, e4, i1]
      rfl
theorem ws_P_10 (hn : n < 2 ^ 40) (hik : ink ≤ i) (hi : i < n) (hr : r < m) (hq : q < (R r).s.size) (f1 : (L i).r = r) (f2 : (L i).a = q) (f4 : 0 ≤ (L i).w) (hc : bt (R r).s q = 10) (hv : (R r).v = 2) (hk : (L i).k = 4) (hl : 0 < i → (L (i - 1)).r < r ∨ ((L (i - 1)).r = r ∧ (L (i - 1)).a < q)) :
    CodeSem wqG 1 (bodyOf Try.f24 0) (wq1S K g m R n L (ink : Nat) i) (.normal, wq1S K g m R n L (ink : Nat) ((i + 1 : Nat) : Int)) := by
  have e3 := succ64 (j := i) (by omega)
  have e4 := succ64 (j := ink) (by omega)
  rcases Nat.eq_zero_or_pos i with h0 | h0
  · refine rT_sem wqG_ok noLoopsS ((rT_go wq1_P_100 ?_).trans ?_)
    · try simp only [Int.toNat_natCast, Nat.zero_add, f1, f2, e3, e4]
      repeat' (first | exact AllT.nil | refine AllT.cons ?_ ?_)
      all_goals first | (with_reducible rfl) | (with_reducible assumption) | (simp [hc, hv, hk]; done) | exact yes_of ⟨rfl, rfl⟩ | exact decide_eq_true (by omega) | exact beq_iff_eq.2 (by omega) | (simp; done) | (simp; omega)
    · try simp only [Int.toNat_natCast, Nat.zero_add, f1, f2, e3, e4]
      rfl
  · have i1 : w64 ((i : Int) - 1) = ((i - 1 : Nat) : Int) := by rw [w64_id (by omega) (by omega)]; omega
    rcases hl h0 with hl | ⟨hl, hl2⟩
    · refine rT_sem wqG_ok noLoopsS ((rT_go wq1_P_10L ?_).trans ?_)
      · try simp only [Int.toNat_natCast, Nat.zero_add, f1, f2, e3, e4, i1]
        repeat' (first | exact AllT.nil | refine AllT.cons ?_ ?_)
        all_goals first | (with_reducible rfl) | (with_reducible assumption) | (simp [hc, hv, hk]; done) | exact yes_of ⟨rfl, rfl⟩ | exact decide_eq_true (by omega) | exact beq_iff_eq.2 (by omega) | (simp; done) | (simp; omega)
      · try simp only [Int.toNat_natCast, Nat.zero_add, f1, f2, e3, e4, i1]
        rfl
    · refine rT_sem wqG_ok noLoopsS ((rT_go wq1_P_10S ?_).trans ?_)
      · try simp only [Int.toNat_natCast, Nat.zero_add, f1, f2, e3, e4, i1]
        repeat' (first | exact AllT.nil | refine AllT.cons ?_ ?_)
        all_goals first | (with_reducible rfl) | (with_reducible assumption) | (simp [hc, hv, hk, hl]; done) | exact yes_of ⟨rfl, rfl⟩ | exact decide_eq_true (by omega) | exact beq_iff_eq.2 (by omega) | (simp; done) | (simp; omega)
      · try simp only [Int.toNat_natCast, Nat.zero_add, f1, f2, e3, e4, i1]
        rfl
theorem ws_B2_13 (hn : n < 2 ^ 40) (hik : ink ≤ i) (hi : i < n) (hr : r < m) (hq : q < (R r).s.size) (f1 : (L i).r = r) (f2 : (L i).a = q) (f4 : 0 ≤ (L i).w) (hc : bt (R r).s q = 13) (hv : ¬ (R r).v = 2) (hk : (L i).k = 2) (h0 : 0 < i) (h1 : i + 1 < n) (hp : (L (i - 1)).k = 1) (hx : (L (i + 1)).k = 1) (hl : (L (i - 1)).r < r ∨ ((L (i - 1)).r = r ∧ (L (i - 1)).a < q)) :
    CodeSem wqG 1 (bodyOf Try.f24 0) (wq1S K g m R n L (ink : Nat) i) (.normal, wq1S K g m R n L (ink : Nat) ((i + 1 : Nat) : Int)) := by
  have e3 := succ64 (j := i) (by omega)
  have e4 := succ64 (j := ink) (by omega)
  have i1 : w64 ((i : Int) - 1) = ((i - 1 : Nat) : Int) := by rw [w64_id (by omega) (by omega)]; omega
  rcases hl with hl | ⟨hl, hl2⟩
  · refine rT_sem wqG_ok noLoopsS ((rT_go wq1_B2_13L ?_).trans ?_)
    · try simp only [Int.toNat_natCast, Nat.zero_add, f1, f2, e3, e4, i1]
      repeat' (first | exact AllT.nil | refine AllT.cons ?_ ?_)
      all_goals first | (with_reducible rfl) | (with_reducible assumption) | (simp [hc, hv, hk, hp, hx]; done) | exact yes_of ⟨rfl, rfl⟩ | exact decide_eq_true (by omega) | exact beq_iff_eq.2 (by omega) | (simp; done) | (simp; omega)
    · try simp only [Int.toNat_natCast, Nat.zero_add, f1, f2, e3, e4, i1]
      rfl
  · refine rT_sem wqG_ok noLoopsS ((rT_go wq1_B2_13S ?_).trans ?_)
    · try simp only [Int.toNat_natCast, Nat.zero_add, f1, f2, e3, e4, i1]
      repeat' (first | exact AllT.nil | refine AllT.cons ?_ ?_)
      all_goals first | (with_reducible rfl) | (with_reducible assumption) | (simp [hc, hv, hk, hp, hx, hl]; done) | exact yes_of ⟨rfl, rfl⟩ | exact decide_eq_true (by omega) | exact beq_iff_eq.2 (by omega) | (simp; done) | (simp; omega)
    · try simp only [Int.toNat_natCast, Nat.zero_add, f1, f2, e3, e4, i1]
      rfl
theorem ws_B3_13 (hn : n < 2 ^ 40) (hik : ink ≤ i) (hi : i < n) (hr : r < m) (hq : q < (R r).s.size) (f1 : (L i).r = r) (f2 : (L i).a = q) (f4 : 0 ≤ (L i).w) (hc : bt (R r).s q = 13) (hv : ¬ (R r).v = 2) (hv1 : (R r).v = 1) (hk : (L i).k = 3) (h0 : 0 < i) (h1 : i + 1 < n) (hp : (L (i - 1)).k = 1) (hx : (L (i + 1)).k = 1) (hl : (L (i - 1)).r < r ∨ ((L (i - 1)).r = r ∧ (L (i - 1)).a < q)) :
    CodeSem wqG 1 (bodyOf Try.f24 0) (wq1S K g m R n L (ink : Nat) i) (.normal, wq1S K g m R n L (ink : Nat) ((i + 1 : Nat) : Int)) := by
  have e3 := succ64 (j := i) (by omega)
  have e4 := succ64 (j := ink) (by omega)
  have i1 : w64 ((i : Int) - 1) = ((i - 1 : Nat) : Int) := by rw [w64_id (by omega) (by omega)]; omega
  rcases hl with hl | ⟨hl, hl2⟩
  · refine rT_sem wqG_ok noLoopsS ((rT_go wq1_B3_13L ?_).trans ?_)
    · try simp only [Int.toNat_natCast, Nat.zero_add, f1, f2, e3, e4, i1]
      repeat' (first | exact AllT.nil | refine AllT.cons ?_ ?_)
      all_goals first | (with_reducible rfl) | (with_reducible assumption) | (simp [hc, hv, hk, hp, hx, hv1]; done) | exact yes_of ⟨rfl, rfl⟩ | exact decide_eq_true (by omega) | exact beq_iff_eq.2 (by omega) | (simp; done) | (simp; omega)
    · try simp only [Int.toNat_natCast, Nat.zero_add, f1, f2, e3, e4, i1]
      rfl
  · refine rT_sem wqG_ok noLoopsS ((rT_go wq1_B3_13S ?_).trans ?_)
    · try simp only [Int.toNat_natCast, Nat.zero_add, f1, f2, e3, e4, i1]
      repeat' (first | exact AllT.nil | refine AllT.cons ?_ ?_)
      all_goals first | (with_reducible rfl) | (with_reducible assumption) | (simp [hc, hv, hk, hp, hx, hv1, hl]; done) | exact yes_of ⟨rfl, rfl⟩ | exact decide_eq_true (by omega) | exact beq_iff_eq.2 (by omega) | (simp; done) | (simp; omega)
    · try simp only [Int.toNat_natCast, Nat.zero_add, f1, f2, e3, e4, i1]
      rfl
theorem ws_P_13 (hn : n < 2 ^ 40) (hik : ink ≤ i) (hi : i < n) (hr : r < m) (hq : q < (R r).s.size) (f1 : (L i).r = r) (f2 : (L i).a = q) (f4 : 0 ≤ (L i).w) (hc : bt (R r).s q = 13) (hv : (R r).v = 2) (hk : (L i).k = 1) (hl : 0 < i → (L (i - 1)).r < r ∨ ((L (i - 1)).r = r ∧ (L (i - 1)).a < q)) :
    CodeSem wqG 1 (bodyOf Try.f24 0) (wq1S K g m R n L (ink : Nat) i) (.normal, wq1S K g m R n L (ink : Nat) ((i + 1 : Nat) : Int)) := by
  have e3 := succ64 (j := i) (by omega)
  have e4 := succ64 (j := ink) (by omega)
  rcases Nat.eq_zero_or_pos i with h0 | h0
  · refine rT_sem wqG_ok noLoopsS ((rT_go wq1_P_130 ?_).trans ?_)
    · try simp only [Int.toNat_natCast, Nat.zero_add, f1, f2, e3, e4]
      repeat' (first | exact AllT.nil | refine AllT.cons ?_ ?_)
      all_goals first | (with_reducible rfl) | (with_reducible assumption) | (simp [hc, hv, hk]; done) | exact yes_of ⟨rfl, rfl⟩ | exact decide_eq_true (by omega) | exact beq_iff_eq.2 (by omega) | (simp; done) | (simp; omega)
    · try simp only [Int.toNat_natCast, Nat.zero_add, f1, f2, e3, e4]
      rfl
  · have i1 : w64 ((i : Int) - 1) = ((i - 1 : Nat) : Int) := by rw [w64_id (by omega) (by omega)]; omega
    rcases hl h0 with hl | ⟨hl, hl2⟩
    · refine rT_sem wqG_ok noLoopsS ((rT_go wq1_P_13L ?_).trans ?_)
      · try simp only [Int.toNat_natCast, Nat.zero_add, f1, f2, e3, e4, i1]
        repeat' (first | exact AllT.nil | refine AllT.cons ?_ ?_)
        all_goals first | (with_reducible rfl) | (with_reducible assumption) | (simp [hc, hv, hk]; done) | exact yes_of ⟨rfl, rfl⟩ | exact decide_eq_true (by omega) | exact beq_iff_eq.2 (by omega) | (simp; done) | (simp; omega)
      · try simp only [Int.toNat_natCast, Nat.zero_add, f1, f2, e3, e4, i1]
        rfl
    · refine rT_sem wqG_ok noLoopsS ((rT_go wq1_P_13S ?_).trans ?_)
      · try simp only [Int.toNat_natCast, Nat.zero_add, f1, f2, e3, e4, i1]
        repeat' (first | exact AllT.nil | refine AllT.cons ?_ ?_)
        all_goals first | (with_reducible rfl) | (with_reducible assumption) | (simp [hc, hv, hk, hl]; done) | exact yes_of ⟨rfl, rfl⟩ | exact decide_eq_true (by omega) | exact beq_iff_eq.2 (by omega) | (simp; done) | (simp; omega)
      · try simp only [Int.toNat_natCast, Nat.zero_add, f1, f2, e3, e4, i1]
        rfl
theorem ws_O (hn : n < 2 ^ 40) (hik : ink ≤ i) (hi : i < n) (hr : r < m) (hq : q < (R r).s.size) (f1 : (L i).r = r) (f2 : (L i).a = q) (f4 : 0 ≤ (L i).w) (n32 : ¬ bt (R r).s q = 32) (n9 : ¬ bt (R r).s q = 9) (n10 : ¬ bt (R r).s q = 10) (n13 : ¬ bt (R r).s q = 13) (hk : (L i).k = 1) (hl : 0 < i → (L (i - 1)).r < r ∨ ((L (i - 1)).r = r ∧ (L (i - 1)).a < q)) :
    CodeSem wqG 1 (bodyOf Try.f24 0) (wq1S K g m R n L (ink : Nat) i) (.normal, wq1S K g m R n L ((ink + 1 : Nat) : Int) ((i + 1 : Nat) : Int)) := by
  have e3 := succ64 (j := i) (by omega)
  have e4 := succ64 (j := ink) (by omega)
  rcases Nat.eq_zero_or_pos i with h0 | h0
  · refine rT_sem wqG_ok noLoopsS ((rT_go wq1_O0 ?_).trans ?_)
    · try simp only [Int.toNat_natCast, Nat.zero_add, f1, f2, e3, e4]
      repeat' (first | exact AllT.nil | refine AllT.cons ?_ ?_)
      all_goals first | (with_reducible rfl) | (with_reducible assumption) | (simp [n32, n9, n10, n13, hk]; done) | exact yes_of ⟨rfl, rfl⟩ | exact decide_eq_true (by omega) | exact beq_iff_eq.2 (by omega) | (simp; done) | (simp; omega)
    · try simp only [Int.toNat_natCast, Nat.zero_add, f1, f2, e3, e4]
      rfl
  · have i1 : w64 ((i : Int) - 1) = ((i - 1 : Nat) : Int) := by rw [w64_id (by omega) (by omega)]; omega
    rcases hl h0 with hl | ⟨hl, hl2⟩
    · refine rT_sem wqG_ok noLoopsS ((rT_go wq1_OL ?_).trans ?_)
      · try simp only [Int.toNat_natCast, Nat.zero_add, f1, f2, e3, e4, i1]
        repeat' (first | exact AllT.nil | refine AllT.cons ?_ ?_)
        all_goals first | (with_reducible rfl) | (with_reducible assumption) | (simp [n32, n9, n10, n13, hk]; done) | exact yes_of ⟨rfl, rfl⟩ | exact decide_eq_true (by omega) | exact beq_iff_eq.2 (by omega) | (simp; done) | (simp; omega)
      · try simp only [Int.toNat_natCast, Nat.zero_add, f1, f2, e3, e4, i1]
        rfl
    · refine rT_sem wqG_ok noLoopsS ((rT_go wq1_OS ?_).trans ?_)
      · try simp only [Int.toNat_natCast, Nat.zero_add, f1, f2, e3, e4, i1]
        repeat' (first | exact AllT.nil | refine AllT.cons ?_ ?_)
        all_goals first | (with_reducible rfl) | (with_reducible assumption) | (simp [n32, n9, n10, n13, hk, hl]; done) | exact yes_of ⟨rfl, rfl⟩ | exact decide_eq_true (by omega) | exact beq_iff_eq.2 (by omega) | (simp; done) | (simp; omega)
      · try simp only [Int.toNat_natCast, Nat.zero_add, f1, f2, e3, e4, i1]
        rfl
end
theorem wq1_loop {K : Nat} {g : Nat → Int} {m : Nat} {M : Int → Int} {R : Nat → Rn} (hM : WOk (at_ (glyphs M R m))) (hn : (glyphs M R m).length < 2 ^ 40) :
    CodeSem wqG 1 (.loop (bodyOf Try.f24 0)) (wq1S K g m R (glyphs M R m).length (at_ (glyphs M R m)) 0 0) (.exit 0, wq1S K g m R (glyphs M R m).length (at_ (glyphs M R m)) (inkL R (glyphs M R m) (glyphs M R m).length : Nat) (glyphs M R m).length) := by
  refine loop_of (fun i => wq1S K g m R (glyphs M R m).length (at_ (glyphs M R m)) (inkL R (glyphs M R m) i : Nat) (i : Int)) (glyphs M R m).length (by simp) ?_ fun i hi => ?_
  · exact rT_sem wqG_ok noLoopsS (rT_go wq1_e ⟨by simp, trivial⟩)
  · obtain ⟨r, q, hr, hq, e⟩ := glyphs_mem (at_mem hi)
    have hik := inkL_le R (glyphs M R m) i
    have f1 : (at_ (glyphs M R m) i).r = r := by rw [e]; rfl
    have f2 : (at_ (glyphs M R m) i).a = q := by rw [e]; rfl
    have f3 : (at_ (glyphs M R m) i).k = gk (R r).v (bt (R r).s q) := by rw [e]; rfl
    have f4 := (hM i).1
    have hb := fun h => glyphs_blank (M := M) (R := R) (k := m) hi h
    have hl : 0 < i → (at_ (glyphs M R m) (i - 1)).r < r ∨ ((at_ (glyphs M R m) (i - 1)).r = r ∧ (at_ (glyphs M R m) (i - 1)).a < q) := fun h0 => by
      have := glyphs_lt h0 hi
      rw [← f1, ← f2]
      exact this
    have ew : byteOf R (at_ (glyphs M R m) i) = bt (R r).s q := by rw [e]; simp [byteOf, gl]
    have e5 : inkL R (glyphs M R m) (i + 1) = inkL R (glyphs M R m) i + (bif wht (bt (R r).s q) then 0 else 1) := by rw [inkL, ew]
    rw [e5]
    generalize hL : at_ (glyphs M R m) = L at f1 f2 f3 f4 hb hl
    generalize hc : bt (R r).s q = c at f3
    by_cases hv : (R r).v = 2
    · by_cases h10 : c = 10
      · subst h10
        have hk : (L i).k = 4 := by rw [f3, hv]; rfl
        exact ws_P_10 hn hik hi hr hq f1 f2 f4 hc hv hk hl
      · have hk : (L i).k = 1 := by rw [f3, hv]; simp [gk, h10]
        by_cases h32 : c = 32
        · subst h32; exact ws_P_32 hn hik hi hr hq f1 f2 f4 hc hv hk hl
        · by_cases h9 : c = 9
          · subst h9; exact ws_P_9 hn hik hi hr hq f1 f2 f4 hc hv hk hl
          · by_cases h13 : c = 13
            · subst h13; exact ws_P_13 hn hik hi hr hq f1 f2 f4 hc hv hk hl
            · have hw : wht c = false := by simp [wht, h32, h9, h10, h13]
              rw [hw]
              exact ws_O hn hik hi hr hq f1 f2 f4 (by rw [hc]; exact h32) (by rw [hc]; exact h9) (by rw [hc]; exact h10) (by rw [hc]; exact h13) hk hl
    · by_cases hw : wht c = true
      · rw [hw]
        by_cases hv1 : (R r).v = 1
        · have hk : (L i).k = 3 := by rw [f3]; simp [gk, hv, hv1, hw]
          obtain ⟨b1, b2, b3, b4⟩ := hb (by unfold blk; rw [hk]; rfl)
          simp only [wht, Bool.or_eq_true, beq_iff_eq] at hw
          rcases hw with ((hw | hw) | hw) | hw <;> subst hw
          · exact ws_B3_32 hn hik hi hr hq f1 f2 f4 hc hv hv1 hk b1 b2 b3 b4 (hl b1)
          · exact ws_B3_9 hn hik hi hr hq f1 f2 f4 hc hv hv1 hk b1 b2 b3 b4 (hl b1)
          · exact ws_B3_10 hn hik hi hr hq f1 f2 f4 hc hv hv1 hk b1 b2 b3 b4 (hl b1)
          · exact ws_B3_13 hn hik hi hr hq f1 f2 f4 hc hv hv1 hk b1 b2 b3 b4 (hl b1)
        · have hk : (L i).k = 2 := by rw [f3]; simp [gk, hv, hv1, hw]
          obtain ⟨b1, b2, b3, b4⟩ := hb (by unfold blk; rw [hk]; rfl)
          simp only [wht, Bool.or_eq_true, beq_iff_eq] at hw
          rcases hw with ((hw | hw) | hw) | hw <;> subst hw
          · exact ws_B2_32 hn hik hi hr hq f1 f2 f4 hc hv hk b1 b2 b3 b4 (hl b1)
          · exact ws_B2_9 hn hik hi hr hq f1 f2 f4 hc hv hk b1 b2 b3 b4 (hl b1)
          · exact ws_B2_10 hn hik hi hr hq f1 f2 f4 hc hv hk b1 b2 b3 b4 (hl b1)
          · exact ws_B2_13 hn hik hi hr hq f1 f2 f4 hc hv hk b1 b2 b3 b4 (hl b1)
      · have hwf : wht c = false := by simpa using hw
        have hk : (L i).k = 1 := by rw [f3]; simp [gk, hv, hwf]
        rw [hwf]
        simp only [wht, Bool.or_eq_false_iff, beq_eq_false_iff_ne] at hwf
        exact ws_O hn hik hi hr hq f1 f2 f4 (by rw [hc]; exact hwf.1.1.1) (by rw [hc]; exact hwf.1.1.2) (by rw [hc]; exact hwf.1.2) (by rw [hc]; exact hwf.2) hk hl
theorem wq3_loop {K : Nat} {g : Nat → Int} {m : Nat} {R : Nat → Rn} {x : Int} {i : Nat} (hi : i < m) (hx : -1152921504606846976 ≤ x ∧ x ≤ 1152921504606846976) (hs : (R i).s.size < 2 ^ 40) :
    CodeSem wqG 1 (.loop (bodyOf Try.f24 2)) (wq3S K g m R x i 0) (.exit 4, wq3S K g m R (x - (inkB (R i).s (R i).s.size : Nat)) i (R i).s.size) := by
  have key := loop_of (G := wqG) (n0 := 1) (b := bodyOf Try.f24 2) (fun k => wq3S K g m R (x - (inkB (R i).s k : Nat)) i (k : Int)) (R i).s.size (e := .exit 4) (Se := wq3S K g m R (x - (inkB (R i).s (R i).s.size : Nat)) i (R i).s.size) (by simp) ?_ fun k hk => ?_
  · have e : x - ((inkB (R i).s 0 : Nat) : Int) = x := by simp [inkB]
    rw [e] at key
    exact key
  · refine rT_sem wqG_ok noLoopsS ((rT_go wq3_e ?_).trans ?_)
    · try simp only [Int.toNat_natCast, Nat.zero_add]
      repeat' (first | exact AllT.nil | refine AllT.cons ?_ ?_)
      all_goals first | (with_reducible rfl) | (with_reducible assumption) | exact yes_of ⟨rfl, rfl⟩ | exact decide_eq_true (by omega) | exact beq_iff_eq.2 (by omega) | (simp; done) | (simp; omega)
    · try simp only [Int.toNat_natCast, Nat.zero_add]
      rfl
  · have e3 := succ64 (j := k) (by omega)
    have hb := inkB_le (R i).s k
    have e5 : inkB (R i).s (k + 1) = inkB (R i).s k + (bif wht (bt (R i).s k) then 0 else 1) := rfl
    rw [e5]
    by_cases h32 : bt (R i).s k = 32
    · have hw : wht (bt (R i).s k) = true := by rw [h32]; rfl
      rw [hw]
      refine rT_sem wqG_ok noLoopsS ((rT_go wq3_32 ?_).trans ?_)
      · try simp only [Int.toNat_natCast, Nat.zero_add, e3]
        repeat' (first | exact AllT.nil | refine AllT.cons ?_ ?_)
        all_goals first | (with_reducible rfl) | (with_reducible assumption) | (simp [h32]; done) | exact yes_of ⟨rfl, rfl⟩ | exact decide_eq_true (by omega) | exact beq_iff_eq.2 (by omega) | (simp; done) | (simp; omega)
      · try simp only [Int.toNat_natCast, Nat.zero_add, e3]
        rfl
    · by_cases h9 : bt (R i).s k = 9
      · have hw : wht (bt (R i).s k) = true := by rw [h9]; rfl
        rw [hw]
        refine rT_sem wqG_ok noLoopsS ((rT_go wq3_9 ?_).trans ?_)
        · try simp only [Int.toNat_natCast, Nat.zero_add, e3]
          repeat' (first | exact AllT.nil | refine AllT.cons ?_ ?_)
          all_goals first | (with_reducible rfl) | (with_reducible assumption) | (simp [h9]; done) | exact yes_of ⟨rfl, rfl⟩ | exact decide_eq_true (by omega) | exact beq_iff_eq.2 (by omega) | (simp; done) | (simp; omega)
        · try simp only [Int.toNat_natCast, Nat.zero_add, e3]
          rfl
      · by_cases h10 : bt (R i).s k = 10
        · have hw : wht (bt (R i).s k) = true := by rw [h10]; rfl
          rw [hw]
          refine rT_sem wqG_ok noLoopsS ((rT_go wq3_10 ?_).trans ?_)
          · try simp only [Int.toNat_natCast, Nat.zero_add, e3]
            repeat' (first | exact AllT.nil | refine AllT.cons ?_ ?_)
            all_goals first | (with_reducible rfl) | (with_reducible assumption) | (simp [h10]; done) | exact yes_of ⟨rfl, rfl⟩ | exact decide_eq_true (by omega) | exact beq_iff_eq.2 (by omega) | (simp; done) | (simp; omega)
          · try simp only [Int.toNat_natCast, Nat.zero_add, e3]
            rfl
        · by_cases h13 : bt (R i).s k = 13
          · have hw : wht (bt (R i).s k) = true := by rw [h13]; rfl
            rw [hw]
            refine rT_sem wqG_ok noLoopsS ((rT_go wq3_13 ?_).trans ?_)
            · try simp only [Int.toNat_natCast, Nat.zero_add, e3]
              repeat' (first | exact AllT.nil | refine AllT.cons ?_ ?_)
              all_goals first | (with_reducible rfl) | (with_reducible assumption) | (simp [h13]; done) | exact yes_of ⟨rfl, rfl⟩ | exact decide_eq_true (by omega) | exact beq_iff_eq.2 (by omega) | (simp; done) | (simp; omega)
            · try simp only [Int.toNat_natCast, Nat.zero_add, e3]
              rfl
          · have hw : wht (bt (R i).s k) = false := by simp [wht, h32, h9, h10, h13]
            have e6 : w64 (x - ((inkB (R i).s k : Nat) : Int) - 1) = x - ((inkB (R i).s k + 1 : Nat) : Int) := by rw [w64_id (by omega) (by omega)]; omega
            rw [hw]
            refine rT_sem wqG_ok noLoopsS ((rT_go wq3_0 ?_).trans ?_)
            · try simp only [Int.toNat_natCast, Nat.zero_add, e3, e6]
              repeat' (first | exact AllT.nil | refine AllT.cons ?_ ?_)
              all_goals first | (with_reducible rfl) | (with_reducible assumption) | (simp [h32, h9, h10, h13]; done) | exact yes_of ⟨rfl, rfl⟩ | exact decide_eq_true (by omega) | exact beq_iff_eq.2 (by omega) | (simp; done) | (simp; omega)
            · try simp only [Int.toNat_natCast, Nat.zero_add, e3, e6]
              rfl
theorem wq2_loop {K : Nat} {g : Nat → Int} {m : Nat} {R : Nat → Rn} {x : Int} (hm : m ≤ 12) (hx : 0 ≤ x ∧ x ≤ 576460752303423488) (hs : lenR R m < 2 ^ 30) :
    CodeSem wqG 1 (.loop (bodyOf Try.f24 1)) (wq2S K g m R x 0) (.exit 2, wq2S K g m R (x - (inkR R m : Nat)) m) := by
  have key := loop_of (G := wqG) (n0 := 1) (b := bodyOf Try.f24 1) (fun i => wq2S K g m R (x - (inkR R i : Nat)) (i : Int)) m (e := .exit 2) (Se := wq2S K g m R (x - (inkR R m : Nat)) m) (by simp) ?_ fun i hi => ?_
  · have e : x - ((inkR R 0 : Nat) : Int) = x := by simp [inkR]
    rw [e] at key
    exact key
  · exact rT_sem wqG_ok noLoopsS (rT_go wq2_e ⟨by simp, trivial⟩)
  · have e3 := succ64 (j := i) (by omega)
    have h1 := lenR_le (R := R) (k := m) i hi
    have h2 := inkR_le R i
    have l3 := wq3_loop (K := K) (g := g) (m := m) (R := R) (x := x - (inkR R i : Nat)) hi (by omega) (by omega)
    have e5 : x - ((inkR R i : Nat) : Int) - ((inkB (R i).s (R i).s.size : Nat) : Int) = x - ((inkR R (i + 1) : Nat) : Int) := by rw [inkR]; omega
    rw [e5] at l3
    refine rT_sem wqG_ok (tell_ok l3) ((rT_go wq2_go ?_).trans ?_)
    · try simp only [Int.toNat_natCast, Nat.zero_add, e3]
      repeat' (first | exact AllT.nil | refine AllT.cons ?_ ?_)
      all_goals first | (with_reducible rfl) | (with_reducible assumption) | exact yes_of ⟨rfl, rfl⟩ | exact decide_eq_true (by omega) | exact beq_iff_eq.2 (by omega) | (simp; done) | (simp; omega)
    · try simp only [Int.toNat_natCast, Nat.zero_add, e3]
      rfl
theorem whitRows_true (a : Nat → Int) (K : Nat) (g : Nat → Int) : ∃ keep tm d ℓ, LoopsSem (GT KWT keep 0 tm) [rowJ false K g].length ℓ ∧ (lfun (GT KWT keep 0 tm) ℓ d Try.f24 [aA a, .c (.sl 0 0 K)] [rowJ false K g]).eval = some (Bo true, [rowJ false K g]) := by
  obtain ⟨hm, _⟩ := m12_le K
  have hlen := ruN_len K g
  have hgl := glyphs_len (M := Mt (ta (fun k => a k) 256)) (R := ruN K g) (k := m12 K)
  have hwk := gl_wok (a := ta (fun k => a k) 256) (R := ruN K g) (k := m12 K)
  have hink := glyphs_ink (M := Mt (ta (fun k => a k) 256)) (R := ruN K g) (k := m12 K)
  have hil := inkR_le (ruN K g) (m12 K)
  have l1 := wq1_loop (K := K) (g := g) (m := m12 K) (R := ruN K g) hwk (by omega)
  have l2 := wq2_loop (K := K) (g := g) (R := ruN K g) (x := (inkL (ruN K g) (glyphs (Mt (ta (fun k => a k) 256)) (ruN K g) (m12 K)) (glyphs (Mt (ta (fun k => a k) 256)) (ruN K g) (m12 K)).length : Nat)) hm (by omega) (by omega)
  have e0 : ((inkL (ruN K g) (glyphs (Mt (ta (fun k => a k) 256)) (ruN K g) (m12 K)) (glyphs (Mt (ta (fun k => a k) 256)) (ruN K g) (m12 K)).length : Nat) : Int) - (inkR (ruN K g) (m12 K) : Nat) = 0 := by rw [hink]; omega
  rw [e0] at l2
  have hw := wq_w (K := K) (g := g) (a := a) (ink := (inkL (ruN K g) (glyphs (Mt (ta (fun k => a k) 256)) (ruN K g) (m12 K)) (glyphs (Mt (ta (fun k => a k) 256)) (ruN K g) (m12 K)).length : Nat)) (z := ((glyphs (Mt (ta (fun k => a k) 256)) (ruN K g) (m12 K)).length : Nat)) (z' := (m12 K : Nat))
  have ez : (fun i => ruN K g (0 + i)) = ruN K g := zero_fun _
  have ez2 : (fun i => decN (encN (runsL (fun j => vd (v1 (g (0 + j)))) (m12 K) (0 + i)))) = ruN K g := funext fun i => by rw [Nat.zero_add]; rfl
  simp only [ez, ez2] at hw
  refine ⟨_, [], 60, _, byReg_sem (r := 5) (tell_ok l1) (tell_ok l2), (Tr.go_eval hw ?_).trans rfl⟩
  repeat' (first | exact AllT.nil | refine AllT.cons ?_ ?_)
  all_goals first
    | (with_reducible rfl)
    | exact yes_of ⟨rfl, rfl⟩
    | (simp; done)
    | (refine yes_of ?_
       repeat' (first | exact trivial | (with_reducible rfl) | refine And.intro ?_ ?_)
       all_goals first | omega | (show lenR (ruN K g) (m12 K) < 2 ^ 39; omega) | rfl)
def whitRowsS : List Shp := [.arr 256 (.int .i64), .rows 2 [.int .i64]]
theorem whitRows_core : ∀ is, InsOk whitRowsS is → ∃ keep tm d ℓ, LoopsSem (GT KWT keep 0 tm) (blksIn whitRowsS is).length ℓ ∧ (lfun (GT KWT keep 0 tm) ℓ d Try.f24 (avsIn 0 whitRowsS is) (blksIn whitRowsS is)).eval = some (Bo true, blksIn whitRowsS is) := by
  intro is0 h0
  obtain ⟨v0, is1, rfl, h1⟩ := ins_arr h0
  obtain ⟨k2, v2, is3, rfl, h3, _⟩ := ins_ints h1
  obtain rfl := ins_nil h3
  exact whitRows_true v0 k2 v2
end Go.Proofs.Ytcpahifgdppkbaa.QAI
end
