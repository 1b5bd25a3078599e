/- RectJoins: the loops. -/
import Derived.Test.YtcpahifgdppkbaaJ4
set_option linter.unusedVariables false
set_option linter.unusedSimpArgs false
namespace Go.Proofs.Ytcpahifgdppkbaa.QAI
open Go Go.RowKit
set_option maxRecDepth 100000
theorem upd_tr (z : Bool) (g : Nat → Rc) (j : Nat) : upd (fun q => encR (trR z g j q)) j (encR (tmR z (g j))) = fun q => encR (trR z g (j + 1) q) := by
  funext q
  unfold upd trR
  by_cases h : q = j
  · subst h
    simp
  · by_cases h2 : q < j
    · have : q < j + 1 := by omega
      simp [h, h2, this]
    · have : ¬ q < j + 1 := by omega
      simp [h, h2, this]
theorem jl_step {L k : Nat} {g : Nat → Rc} {c : Int} {z : Bool} {j : Nat} (h1 : j < k) (h2 : j < 20) :
    round (arun (rjnG L) 1 54 (bodyOf Try.f9 0)) (canon (rjnG L).T 1 ((rjnG L).keep 3)) (jlI k g c z j) = some (.normal, jlI k g c z (j + 1)) := by
  have h3 : w64 ((j : Int) + 1) = ((j + 1 : Nat) : Int) := by rw [w64_in (by omega)]; omega
  refine (round_go jl_go ?_).trans ?_
  · simp only [Int.toNat_natCast, Nat.zero_add]
    repeat' (first | exact AllT.nil | refine AllT.cons ?_ ?_)
    all_goals first | with_reducible rfl | exact trivial | exact decide_eq_true trivial | exact decide_eq_true (by omega) | exact decide_eq_true rfl | exact decide_eq_true (show (j + 1) * 32 ≤ 140737488355328 by omega)
  · simp only [h3, Int.toNat_natCast, Nat.zero_add]
    show some (Ex.normal, jlS k g c z (j + 1) (upd (fun q => encR (trR z g j q)) j (encR (tmR z (g j)))) ((j + 1 : Nat) : Int)) = _
    rw [upd_tr]
    rfl
theorem jl_loop {L k : Nat} {g : Nat → Rc} {c : Int} {z : Bool} (hL : 20 < L) : ∃ m bx b1 p q, m ≤ 20 ∧ m ≤ k ∧ (iter (arun (rjnG L) 1 54 (bodyOf Try.f9 0)) (canon (rjnG L).T 1 ((rjnG L).keep 3)) L (jlI k g c z 0)).eval = some (jlE k g c z m (fun j => encR (trR z g m j)) m bx b1 p q) := by
  rcases Nat.le_total k 20 with h | h
  · refine ⟨k, decide ((k : Int) < k), false, .c (.v (.tuple ⟨[]⟩)), .c (.v (.tuple ⟨[]⟩)), h, Nat.le_refl _, iter_upto (fun i => jlI k g c z i) (N := k) (by simp) ?_ L 0 (Nat.zero_le _) (by omega) fun j _ hj => jl_step hj (by omega)⟩
    · exact round_go jl_e1 ⟨by simp, rfl, rfl, rfl, trivial⟩
  · by_cases h' : k = 20
    · refine ⟨20, decide (((20 : Nat) : Int) < k), false, .c (.v (.tuple ⟨[]⟩)), .c (.v (.tuple ⟨[]⟩)), Nat.le_refl _, h, iter_upto (fun i => jlI k g c z i) (N := 20) (by simp) ?_ L 0 (Nat.zero_le _) (by omega) fun j _ hj => jl_step (by omega) hj⟩
      exact round_go jl_e1 ⟨by simp; omega, rfl, rfl, rfl, trivial⟩
    · refine ⟨20, decide (((20 : Nat) : Int) < k), true, I64 ((20 : Nat) : Int), Bo (decide (((20 : Nat) : Int) < (20 : Int))), Nat.le_refl _, h, iter_upto (fun i => jlI k g c z i) (N := 20) (by simp) ?_ L 0 (Nat.zero_le _) (by omega) fun j _ hj => jl_step (by omega) hj⟩
      exact round_go jl_e2 ⟨by simp; omega, rfl, rfl, rfl, trivial⟩
def exF (p : Nat → Bool) : Nat → Bool
  | 0 => false
  | i + 1 => exF p i || p i
theorem exF_true {p : Nat → Bool} : ∀ {n j : Nat}, j < n → p j = true → exF p n = true
  | 0, j, h, _ => by omega
  | n + 1, j, h, hp => by
    simp only [exF, Bool.or_eq_true]
    by_cases e : j = n
    · subst e; exact .inr hp
    · exact .inl (exF_true (by omega) hp)
theorem jqs_ffff {L k : Nat} {g : Nat → Rc} {m : Nat} {t : Nat → Rc} {a b c d : Int} {i : Nat} (hi : i < m) (hm20 : m ≤ 20)
    (hm : meetB a b c d (t i).x (t i).y (t i).w (t i).h = true) (hx : mxI (t i).x a = (t i).x) (hy : mxI (t i).y b = (t i).y)
    (hw : w64 (mnI (w64 ((t i).x + (t i).w)) (w64 (a + c)) - mxI (t i).x a) = (t i).w) (hh : w64 (mnI (w64 ((t i).y + (t i).h)) (w64 (b + d)) - mxI (t i).y b) = (t i).h) :
    round (arun (rjnG L) 1 48 (bodyOf Try.f9 1)) (canon (rjnG L).T 1 ((rjnG L).keep 14)) (jqS k g m t a b c d false false false false i) =
      some (.normal, jqS k g m t a b c d ((t i).x == a) ((t i).y == b) (w64 ((t i).x + (t i).w) == w64 (a + c)) (w64 ((t i).y + (t i).h) == w64 (b + d)) ((i + 1 : Nat) : Int)) := by
  have h3 : w64 ((i : Int) + 1) = ((i + 1 : Nat) : Int) := by rw [w64_in (by omega)]; omega
  have hc : (!!((bif meetB a b c d (t i).x (t i).y (t i).w (t i).h then mxI (t i).x a else (0 : Int)) == (t i).x &&
              ((bif meetB a b c d (t i).x (t i).y (t i).w (t i).h then mxI (t i).y b else (0 : Int)) == (t i).y &&
                ((bif meetB a b c d (t i).x (t i).y (t i).w (t i).h then w64 (mnI (w64 ((t i).x + (t i).w)) (w64 (a + c)) - mxI (t i).x a) else (0 : Int)) == (t i).w &&
                  ((bif meetB a b c d (t i).x (t i).y (t i).w (t i).h then w64 (mnI (w64 ((t i).y + (t i).h)) (w64 (b + d)) - mxI (t i).y b) else (0 : Int)) == (t i).h && true))))) = true := by
    rw [hm, hw, hh, hx, hy]
    simp
  have hm2 : (!!meetB a b c d (t i).x (t i).y (t i).w (t i).h) = true := by rw [hm]; rfl
  have p1 : decide ((i : Int) < m) = true := decide_eq_true (by omega)
  have p2 : decide ((0 : Int) ≤ (i : Int)) = true := decide_eq_true (by omega)
  have p3 : decide (i < m) = true := decide_eq_true hi
  refine (round_go jq_ffff ?_).trans ?_
  · simp only [Int.toNat_natCast, Nat.zero_add]
    repeat' (first | exact AllT.nil | refine AllT.cons ?_ ?_)
    all_goals first | with_reducible rfl | with_reducible assumption
  · simp only [h3, Int.toNat_natCast, Nat.zero_add]
    rfl
theorem jqs_ffft {L k : Nat} {g : Nat → Rc} {m : Nat} {t : Nat → Rc} {a b c d : Int} {i : Nat} (hi : i < m) (hm20 : m ≤ 20)
    (hm : meetB a b c d (t i).x (t i).y (t i).w (t i).h = true) (hx : mxI (t i).x a = (t i).x) (hy : mxI (t i).y b = (t i).y)
    (hw : w64 (mnI (w64 ((t i).x + (t i).w)) (w64 (a + c)) - mxI (t i).x a) = (t i).w) (hh : w64 (mnI (w64 ((t i).y + (t i).h)) (w64 (b + d)) - mxI (t i).y b) = (t i).h) :
    round (arun (rjnG L) 1 48 (bodyOf Try.f9 1)) (canon (rjnG L).T 1 ((rjnG L).keep 14)) (jqS k g m t a b c d false false false true i) =
      some (.normal, jqS k g m t a b c d ((t i).x == a) ((t i).y == b) (w64 ((t i).x + (t i).w) == w64 (a + c)) true ((i + 1 : Nat) : Int)) := by
  have h3 : w64 ((i : Int) + 1) = ((i + 1 : Nat) : Int) := by rw [w64_in (by omega)]; omega
  have hc : (!!((bif meetB a b c d (t i).x (t i).y (t i).w (t i).h then mxI (t i).x a else (0 : Int)) == (t i).x &&
              ((bif meetB a b c d (t i).x (t i).y (t i).w (t i).h then mxI (t i).y b else (0 : Int)) == (t i).y &&
                ((bif meetB a b c d (t i).x (t i).y (t i).w (t i).h then w64 (mnI (w64 ((t i).x + (t i).w)) (w64 (a + c)) - mxI (t i).x a) else (0 : Int)) == (t i).w &&
                  ((bif meetB a b c d (t i).x (t i).y (t i).w (t i).h then w64 (mnI (w64 ((t i).y + (t i).h)) (w64 (b + d)) - mxI (t i).y b) else (0 : Int)) == (t i).h && true))))) = true := by
    rw [hm, hw, hh, hx, hy]
    simp
  have hm2 : (!!meetB a b c d (t i).x (t i).y (t i).w (t i).h) = true := by rw [hm]; rfl
  have p1 : decide ((i : Int) < m) = true := decide_eq_true (by omega)
  have p2 : decide ((0 : Int) ≤ (i : Int)) = true := decide_eq_true (by omega)
  have p3 : decide (i < m) = true := decide_eq_true hi
  refine (round_go jq_ffft ?_).trans ?_
  · simp only [Int.toNat_natCast, Nat.zero_add]
    repeat' (first | exact AllT.nil | refine AllT.cons ?_ ?_)
    all_goals first | with_reducible rfl | with_reducible assumption
  · simp only [h3, Int.toNat_natCast, Nat.zero_add]
    rfl
theorem jqs_fftf {L k : Nat} {g : Nat → Rc} {m : Nat} {t : Nat → Rc} {a b c d : Int} {i : Nat} (hi : i < m) (hm20 : m ≤ 20)
    (hm : meetB a b c d (t i).x (t i).y (t i).w (t i).h = true) (hx : mxI (t i).x a = (t i).x) (hy : mxI (t i).y b = (t i).y)
    (hw : w64 (mnI (w64 ((t i).x + (t i).w)) (w64 (a + c)) - mxI (t i).x a) = (t i).w) (hh : w64 (mnI (w64 ((t i).y + (t i).h)) (w64 (b + d)) - mxI (t i).y b) = (t i).h) :
    round (arun (rjnG L) 1 48 (bodyOf Try.f9 1)) (canon (rjnG L).T 1 ((rjnG L).keep 14)) (jqS k g m t a b c d false false true false i) =
      some (.normal, jqS k g m t a b c d ((t i).x == a) ((t i).y == b) true (w64 ((t i).y + (t i).h) == w64 (b + d)) ((i + 1 : Nat) : Int)) := by
  have h3 : w64 ((i : Int) + 1) = ((i + 1 : Nat) : Int) := by rw [w64_in (by omega)]; omega
  have hc : (!!((bif meetB a b c d (t i).x (t i).y (t i).w (t i).h then mxI (t i).x a else (0 : Int)) == (t i).x &&
              ((bif meetB a b c d (t i).x (t i).y (t i).w (t i).h then mxI (t i).y b else (0 : Int)) == (t i).y &&
                ((bif meetB a b c d (t i).x (t i).y (t i).w (t i).h then w64 (mnI (w64 ((t i).x + (t i).w)) (w64 (a + c)) - mxI (t i).x a) else (0 : Int)) == (t i).w &&
                  ((bif meetB a b c d (t i).x (t i).y (t i).w (t i).h then w64 (mnI (w64 ((t i).y + (t i).h)) (w64 (b + d)) - mxI (t i).y b) else (0 : Int)) == (t i).h && true))))) = true := by
    rw [hm, hw, hh, hx, hy]
    simp
  have hm2 : (!!meetB a b c d (t i).x (t i).y (t i).w (t i).h) = true := by rw [hm]; rfl
  have p1 : decide ((i : Int) < m) = true := decide_eq_true (by omega)
  have p2 : decide ((0 : Int) ≤ (i : Int)) = true := decide_eq_true (by omega)
  have p3 : decide (i < m) = true := decide_eq_true hi
  refine (round_go jq_fftf ?_).trans ?_
  · simp only [Int.toNat_natCast, Nat.zero_add]
    repeat' (first | exact AllT.nil | refine AllT.cons ?_ ?_)
    all_goals first | with_reducible rfl | with_reducible assumption
  · simp only [h3, Int.toNat_natCast, Nat.zero_add]
    rfl
theorem jqs_fftt {L k : Nat} {g : Nat → Rc} {m : Nat} {t : Nat → Rc} {a b c d : Int} {i : Nat} (hi : i < m) (hm20 : m ≤ 20)
    (hm : meetB a b c d (t i).x (t i).y (t i).w (t i).h = true) (hx : mxI (t i).x a = (t i).x) (hy : mxI (t i).y b = (t i).y)
    (hw : w64 (mnI (w64 ((t i).x + (t i).w)) (w64 (a + c)) - mxI (t i).x a) = (t i).w) (hh : w64 (mnI (w64 ((t i).y + (t i).h)) (w64 (b + d)) - mxI (t i).y b) = (t i).h) :
    round (arun (rjnG L) 1 48 (bodyOf Try.f9 1)) (canon (rjnG L).T 1 ((rjnG L).keep 14)) (jqS k g m t a b c d false false true true i) =
      some (.normal, jqS k g m t a b c d ((t i).x == a) ((t i).y == b) true true ((i + 1 : Nat) : Int)) := by
  have h3 : w64 ((i : Int) + 1) = ((i + 1 : Nat) : Int) := by rw [w64_in (by omega)]; omega
  have hc : (!!((bif meetB a b c d (t i).x (t i).y (t i).w (t i).h then mxI (t i).x a else (0 : Int)) == (t i).x &&
              ((bif meetB a b c d (t i).x (t i).y (t i).w (t i).h then mxI (t i).y b else (0 : Int)) == (t i).y &&
                ((bif meetB a b c d (t i).x (t i).y (t i).w (t i).h then w64 (mnI (w64 ((t i).x + (t i).w)) (w64 (a + c)) - mxI (t i).x a) else (0 : Int)) == (t i).w &&
                  ((bif meetB a b c d (t i).x (t i).y (t i).w (t i).h then w64 (mnI (w64 ((t i).y + (t i).h)) (w64 (b + d)) - mxI (t i).y b) else (0 : Int)) == (t i).h && true))))) = true := by
    rw [hm, hw, hh, hx, hy]
    simp
  have hm2 : (!!meetB a b c d (t i).x (t i).y (t i).w (t i).h) = true := by rw [hm]; rfl
  have p1 : decide ((i : Int) < m) = true := decide_eq_true (by omega)
  have p2 : decide ((0 : Int) ≤ (i : Int)) = true := decide_eq_true (by omega)
  have p3 : decide (i < m) = true := decide_eq_true hi
  refine (round_go jq_fftt ?_).trans ?_
  · simp only [Int.toNat_natCast, Nat.zero_add]
    repeat' (first | exact AllT.nil | refine AllT.cons ?_ ?_)
    all_goals first | with_reducible rfl | with_reducible assumption
  · simp only [h3, Int.toNat_natCast, Nat.zero_add]
    rfl
theorem jqs_ftff {L k : Nat} {g : Nat → Rc} {m : Nat} {t : Nat → Rc} {a b c d : Int} {i : Nat} (hi : i < m) (hm20 : m ≤ 20)
    (hm : meetB a b c d (t i).x (t i).y (t i).w (t i).h = true) (hx : mxI (t i).x a = (t i).x) (hy : mxI (t i).y b = (t i).y)
    (hw : w64 (mnI (w64 ((t i).x + (t i).w)) (w64 (a + c)) - mxI (t i).x a) = (t i).w) (hh : w64 (mnI (w64 ((t i).y + (t i).h)) (w64 (b + d)) - mxI (t i).y b) = (t i).h) :
    round (arun (rjnG L) 1 48 (bodyOf Try.f9 1)) (canon (rjnG L).T 1 ((rjnG L).keep 14)) (jqS k g m t a b c d false true false false i) =
      some (.normal, jqS k g m t a b c d ((t i).x == a) true (w64 ((t i).x + (t i).w) == w64 (a + c)) (w64 ((t i).y + (t i).h) == w64 (b + d)) ((i + 1 : Nat) : Int)) := by
  have h3 : w64 ((i : Int) + 1) = ((i + 1 : Nat) : Int) := by rw [w64_in (by omega)]; omega
  have hc : (!!((bif meetB a b c d (t i).x (t i).y (t i).w (t i).h then mxI (t i).x a else (0 : Int)) == (t i).x &&
              ((bif meetB a b c d (t i).x (t i).y (t i).w (t i).h then mxI (t i).y b else (0 : Int)) == (t i).y &&
                ((bif meetB a b c d (t i).x (t i).y (t i).w (t i).h then w64 (mnI (w64 ((t i).x + (t i).w)) (w64 (a + c)) - mxI (t i).x a) else (0 : Int)) == (t i).w &&
                  ((bif meetB a b c d (t i).x (t i).y (t i).w (t i).h then w64 (mnI (w64 ((t i).y + (t i).h)) (w64 (b + d)) - mxI (t i).y b) else (0 : Int)) == (t i).h && true))))) = true := by
    rw [hm, hw, hh, hx, hy]
    simp
  have hm2 : (!!meetB a b c d (t i).x (t i).y (t i).w (t i).h) = true := by rw [hm]; rfl
  have p1 : decide ((i : Int) < m) = true := decide_eq_true (by omega)
  have p2 : decide ((0 : Int) ≤ (i : Int)) = true := decide_eq_true (by omega)
  have p3 : decide (i < m) = true := decide_eq_true hi
  refine (round_go jq_ftff ?_).trans ?_
  · simp only [Int.toNat_natCast, Nat.zero_add]
    repeat' (first | exact AllT.nil | refine AllT.cons ?_ ?_)
    all_goals first | with_reducible rfl | with_reducible assumption
  · simp only [h3, Int.toNat_natCast, Nat.zero_add]
    rfl
theorem jqs_ftft {L k : Nat} {g : Nat → Rc} {m : Nat} {t : Nat → Rc} {a b c d : Int} {i : Nat} (hi : i < m) (hm20 : m ≤ 20)
    (hm : meetB a b c d (t i).x (t i).y (t i).w (t i).h = true) (hx : mxI (t i).x a = (t i).x) (hy : mxI (t i).y b = (t i).y)
    (hw : w64 (mnI (w64 ((t i).x + (t i).w)) (w64 (a + c)) - mxI (t i).x a) = (t i).w) (hh : w64 (mnI (w64 ((t i).y + (t i).h)) (w64 (b + d)) - mxI (t i).y b) = (t i).h) :
    round (arun (rjnG L) 1 48 (bodyOf Try.f9 1)) (canon (rjnG L).T 1 ((rjnG L).keep 14)) (jqS k g m t a b c d false true false true i) =
      some (.normal, jqS k g m t a b c d ((t i).x == a) true (w64 ((t i).x + (t i).w) == w64 (a + c)) true ((i + 1 : Nat) : Int)) := by
  have h3 : w64 ((i : Int) + 1) = ((i + 1 : Nat) : Int) := by rw [w64_in (by omega)]; omega
  have hc : (!!((bif meetB a b c d (t i).x (t i).y (t i).w (t i).h then mxI (t i).x a else (0 : Int)) == (t i).x &&
              ((bif meetB a b c d (t i).x (t i).y (t i).w (t i).h then mxI (t i).y b else (0 : Int)) == (t i).y &&
                ((bif meetB a b c d (t i).x (t i).y (t i).w (t i).h then w64 (mnI (w64 ((t i).x + (t i).w)) (w64 (a + c)) - mxI (t i).x a) else (0 : Int)) == (t i).w &&
                  ((bif meetB a b c d (t i).x (t i).y (t i).w (t i).h then w64 (mnI (w64 ((t i).y + (t i).h)) (w64 (b + d)) - mxI (t i).y b) else (0 : Int)) == (t i).h && true))))) = true := by
    rw [hm, hw, hh, hx, hy]
    simp
  have hm2 : (!!meetB a b c d (t i).x (t i).y (t i).w (t i).h) = true := by rw [hm]; rfl
  have p1 : decide ((i : Int) < m) = true := decide_eq_true (by omega)
  have p2 : decide ((0 : Int) ≤ (i : Int)) = true := decide_eq_true (by omega)
  have p3 : decide (i < m) = true := decide_eq_true hi
  refine (round_go jq_ftft ?_).trans ?_
  · simp only [Int.toNat_natCast, Nat.zero_add]
    repeat' (first | exact AllT.nil | refine AllT.cons ?_ ?_)
    all_goals first | with_reducible rfl | with_reducible assumption
  · simp only [h3, Int.toNat_natCast, Nat.zero_add]
    rfl
theorem jqs_fttf {L k : Nat} {g : Nat → Rc} {m : Nat} {t : Nat → Rc} {a b c d : Int} {i : Nat} (hi : i < m) (hm20 : m ≤ 20)
    (hm : meetB a b c d (t i).x (t i).y (t i).w (t i).h = true) (hx : mxI (t i).x a = (t i).x) (hy : mxI (t i).y b = (t i).y)
    (hw : w64 (mnI (w64 ((t i).x + (t i).w)) (w64 (a + c)) - mxI (t i).x a) = (t i).w) (hh : w64 (mnI (w64 ((t i).y + (t i).h)) (w64 (b + d)) - mxI (t i).y b) = (t i).h) :
    round (arun (rjnG L) 1 48 (bodyOf Try.f9 1)) (canon (rjnG L).T 1 ((rjnG L).keep 14)) (jqS k g m t a b c d false true true false i) =
      some (.normal, jqS k g m t a b c d ((t i).x == a) true true (w64 ((t i).y + (t i).h) == w64 (b + d)) ((i + 1 : Nat) : Int)) := by
  have h3 : w64 ((i : Int) + 1) = ((i + 1 : Nat) : Int) := by rw [w64_in (by omega)]; omega
  have hc : (!!((bif meetB a b c d (t i).x (t i).y (t i).w (t i).h then mxI (t i).x a else (0 : Int)) == (t i).x &&
              ((bif meetB a b c d (t i).x (t i).y (t i).w (t i).h then mxI (t i).y b else (0 : Int)) == (t i).y &&
                ((bif meetB a b c d (t i).x (t i).y (t i).w (t i).h then w64 (mnI (w64 ((t i).x + (t i).w)) (w64 (a + c)) - mxI (t i).x a) else (0 : Int)) == (t i).w &&
                  ((bif meetB a b c d (t i).x (t i).y (t i).w (t i).h then w64 (mnI (w64 ((t i).y + (t i).h)) (w64 (b + d)) - mxI (t i).y b) else (0 : Int)) == (t i).h && true))))) = true := by
    rw [hm, hw, hh, hx, hy]
    simp
  have hm2 : (!!meetB a b c d (t i).x (t i).y (t i).w (t i).h) = true := by rw [hm]; rfl
  have p1 : decide ((i : Int) < m) = true := decide_eq_true (by omega)
  have p2 : decide ((0 : Int) ≤ (i : Int)) = true := decide_eq_true (by omega)
  have p3 : decide (i < m) = true := decide_eq_true hi
  refine (round_go jq_fttf ?_).trans ?_
  · simp only [Int.toNat_natCast, Nat.zero_add]
    repeat' (first | exact AllT.nil | refine AllT.cons ?_ ?_)
    all_goals first | with_reducible rfl | with_reducible assumption
  · simp only [h3, Int.toNat_natCast, Nat.zero_add]
    rfl
theorem jqs_fttt {L k : Nat} {g : Nat → Rc} {m : Nat} {t : Nat → Rc} {a b c d : Int} {i : Nat} (hi : i < m) (hm20 : m ≤ 20)
    (hm : meetB a b c d (t i).x (t i).y (t i).w (t i).h = true) (hx : mxI (t i).x a = (t i).x) (hy : mxI (t i).y b = (t i).y)
    (hw : w64 (mnI (w64 ((t i).x + (t i).w)) (w64 (a + c)) - mxI (t i).x a) = (t i).w) (hh : w64 (mnI (w64 ((t i).y + (t i).h)) (w64 (b + d)) - mxI (t i).y b) = (t i).h) :
    round (arun (rjnG L) 1 48 (bodyOf Try.f9 1)) (canon (rjnG L).T 1 ((rjnG L).keep 14)) (jqS k g m t a b c d false true true true i) =
      some (.normal, jqS k g m t a b c d ((t i).x == a) true true true ((i + 1 : Nat) : Int)) := by
  have h3 : w64 ((i : Int) + 1) = ((i + 1 : Nat) : Int) := by rw [w64_in (by omega)]; omega
  have hc : (!!((bif meetB a b c d (t i).x (t i).y (t i).w (t i).h then mxI (t i).x a else (0 : Int)) == (t i).x &&
              ((bif meetB a b c d (t i).x (t i).y (t i).w (t i).h then mxI (t i).y b else (0 : Int)) == (t i).y &&
                ((bif meetB a b c d (t i).x (t i).y (t i).w (t i).h then w64 (mnI (w64 ((t i).x + (t i).w)) (w64 (a + c)) - mxI (t i).x a) else (0 : Int)) == (t i).w &&
                  ((bif meetB a b c d (t i).x (t i).y (t i).w (t i).h then w64 (mnI (w64 ((t i).y + (t i).h)) (w64 (b + d)) - mxI (t i).y b) else (0 : Int)) == (t i).h && true))))) = true := by
    rw [hm, hw, hh, hx, hy]
    simp
  have hm2 : (!!meetB a b c d (t i).x (t i).y (t i).w (t i).h) = true := by rw [hm]; rfl
  have p1 : decide ((i : Int) < m) = true := decide_eq_true (by omega)
  have p2 : decide ((0 : Int) ≤ (i : Int)) = true := decide_eq_true (by omega)
  have p3 : decide (i < m) = true := decide_eq_true hi
  refine (round_go jq_fttt ?_).trans ?_
  · simp only [Int.toNat_natCast, Nat.zero_add]
    repeat' (first | exact AllT.nil | refine AllT.cons ?_ ?_)
    all_goals first | with_reducible rfl | with_reducible assumption
  · simp only [h3, Int.toNat_natCast, Nat.zero_add]
    rfl
theorem jqs_tfff {L k : Nat} {g : Nat → Rc} {m : Nat} {t : Nat → Rc} {a b c d : Int} {i : Nat} (hi : i < m) (hm20 : m ≤ 20)
    (hm : meetB a b c d (t i).x (t i).y (t i).w (t i).h = true) (hx : mxI (t i).x a = (t i).x) (hy : mxI (t i).y b = (t i).y)
    (hw : w64 (mnI (w64 ((t i).x + (t i).w)) (w64 (a + c)) - mxI (t i).x a) = (t i).w) (hh : w64 (mnI (w64 ((t i).y + (t i).h)) (w64 (b + d)) - mxI (t i).y b) = (t i).h) :
    round (arun (rjnG L) 1 48 (bodyOf Try.f9 1)) (canon (rjnG L).T 1 ((rjnG L).keep 14)) (jqS k g m t a b c d true false false false i) =
      some (.normal, jqS k g m t a b c d true ((t i).y == b) (w64 ((t i).x + (t i).w) == w64 (a + c)) (w64 ((t i).y + (t i).h) == w64 (b + d)) ((i + 1 : Nat) : Int)) := by
  have h3 : w64 ((i : Int) + 1) = ((i + 1 : Nat) : Int) := by rw [w64_in (by omega)]; omega
  have hc : (!!((bif meetB a b c d (t i).x (t i).y (t i).w (t i).h then mxI (t i).x a else (0 : Int)) == (t i).x &&
              ((bif meetB a b c d (t i).x (t i).y (t i).w (t i).h then mxI (t i).y b else (0 : Int)) == (t i).y &&
                ((bif meetB a b c d (t i).x (t i).y (t i).w (t i).h then w64 (mnI (w64 ((t i).x + (t i).w)) (w64 (a + c)) - mxI (t i).x a) else (0 : Int)) == (t i).w &&
                  ((bif meetB a b c d (t i).x (t i).y (t i).w (t i).h then w64 (mnI (w64 ((t i).y + (t i).h)) (w64 (b + d)) - mxI (t i).y b) else (0 : Int)) == (t i).h && true))))) = true := by
    rw [hm, hw, hh, hx, hy]
    simp
  have hm2 : (!!meetB a b c d (t i).x (t i).y (t i).w (t i).h) = true := by rw [hm]; rfl
  have p1 : decide ((i : Int) < m) = true := decide_eq_true (by omega)
  have p2 : decide ((0 : Int) ≤ (i : Int)) = true := decide_eq_true (by omega)
  have p3 : decide (i < m) = true := decide_eq_true hi
  refine (round_go jq_tfff ?_).trans ?_
  · simp only [Int.toNat_natCast, Nat.zero_add]
    repeat' (first | exact AllT.nil | refine AllT.cons ?_ ?_)
    all_goals first | with_reducible rfl | with_reducible assumption
  · simp only [h3, Int.toNat_natCast, Nat.zero_add]
    rfl
theorem jqs_tfft {L k : Nat} {g : Nat → Rc} {m : Nat} {t : Nat → Rc} {a b c d : Int} {i : Nat} (hi : i < m) (hm20 : m ≤ 20)
    (hm : meetB a b c d (t i).x (t i).y (t i).w (t i).h = true) (hx : mxI (t i).x a = (t i).x) (hy : mxI (t i).y b = (t i).y)
    (hw : w64 (mnI (w64 ((t i).x + (t i).w)) (w64 (a + c)) - mxI (t i).x a) = (t i).w) (hh : w64 (mnI (w64 ((t i).y + (t i).h)) (w64 (b + d)) - mxI (t i).y b) = (t i).h) :
    round (arun (rjnG L) 1 48 (bodyOf Try.f9 1)) (canon (rjnG L).T 1 ((rjnG L).keep 14)) (jqS k g m t a b c d true false false true i) =
      some (.normal, jqS k g m t a b c d true ((t i).y == b) (w64 ((t i).x + (t i).w) == w64 (a + c)) true ((i + 1 : Nat) : Int)) := by
  have h3 : w64 ((i : Int) + 1) = ((i + 1 : Nat) : Int) := by rw [w64_in (by omega)]; omega
  have hc : (!!((bif meetB a b c d (t i).x (t i).y (t i).w (t i).h then mxI (t i).x a else (0 : Int)) == (t i).x &&
              ((bif meetB a b c d (t i).x (t i).y (t i).w (t i).h then mxI (t i).y b else (0 : Int)) == (t i).y &&
                ((bif meetB a b c d (t i).x (t i).y (t i).w (t i).h then w64 (mnI (w64 ((t i).x + (t i).w)) (w64 (a + c)) - mxI (t i).x a) else (0 : Int)) == (t i).w &&
                  ((bif meetB a b c d (t i).x (t i).y (t i).w (t i).h then w64 (mnI (w64 ((t i).y + (t i).h)) (w64 (b + d)) - mxI (t i).y b) else (0 : Int)) == (t i).h && true))))) = true := by
    rw [hm, hw, hh, hx, hy]
    simp
  have hm2 : (!!meetB a b c d (t i).x (t i).y (t i).w (t i).h) = true := by rw [hm]; rfl
  have p1 : decide ((i : Int) < m) = true := decide_eq_true (by omega)
  have p2 : decide ((0 : Int) ≤ (i : Int)) = true := decide_eq_true (by omega)
  have p3 : decide (i < m) = true := decide_eq_true hi
  refine (round_go jq_tfft ?_).trans ?_
  · simp only [Int.toNat_natCast, Nat.zero_add]
    repeat' (first | exact AllT.nil | refine AllT.cons ?_ ?_)
    all_goals first | with_reducible rfl | with_reducible assumption
  · simp only [h3, Int.toNat_natCast, Nat.zero_add]
    rfl
theorem jqs_tftf {L k : Nat} {g : Nat → Rc} {m : Nat} {t : Nat → Rc} {a b c d : Int} {i : Nat} (hi : i < m) (hm20 : m ≤ 20)
    (hm : meetB a b c d (t i).x (t i).y (t i).w (t i).h = true) (hx : mxI (t i).x a = (t i).x) (hy : mxI (t i).y b = (t i).y)
    (hw : w64 (mnI (w64 ((t i).x + (t i).w)) (w64 (a + c)) - mxI (t i).x a) = (t i).w) (hh : w64 (mnI (w64 ((t i).y + (t i).h)) (w64 (b + d)) - mxI (t i).y b) = (t i).h) :
    round (arun (rjnG L) 1 48 (bodyOf Try.f9 1)) (canon (rjnG L).T 1 ((rjnG L).keep 14)) (jqS k g m t a b c d true false true false i) =
      some (.normal, jqS k g m t a b c d true ((t i).y == b) true (w64 ((t i).y + (t i).h) == w64 (b + d)) ((i + 1 : Nat) : Int)) := by
  have h3 : w64 ((i : Int) + 1) = ((i + 1 : Nat) : Int) := by rw [w64_in (by omega)]; omega
  have hc : (!!((bif meetB a b c d (t i).x (t i).y (t i).w (t i).h then mxI (t i).x a else (0 : Int)) == (t i).x &&
              ((bif meetB a b c d (t i).x (t i).y (t i).w (t i).h then mxI (t i).y b else (0 : Int)) == (t i).y &&
                ((bif meetB a b c d (t i).x (t i).y (t i).w (t i).h then w64 (mnI (w64 ((t i).x + (t i).w)) (w64 (a + c)) - mxI (t i).x a) else (0 : Int)) == (t i).w &&
                  ((bif meetB a b c d (t i).x (t i).y (t i).w (t i).h then w64 (mnI (w64 ((t i).y + (t i).h)) (w64 (b + d)) - mxI (t i).y b) else (0 : Int)) == (t i).h && true))))) = true := by
    rw [hm, hw, hh, hx, hy]
    simp
  have hm2 : (!!meetB a b c d (t i).x (t i).y (t i).w (t i).h) = true := by rw [hm]; rfl
  have p1 : decide ((i : Int) < m) = true := decide_eq_true (by omega)
  have p2 : decide ((0 : Int) ≤ (i : Int)) = true := decide_eq_true (by omega)
  have p3 : decide (i < m) = true := decide_eq_true hi
  refine (round_go jq_tftf ?_).trans ?_
  · simp only [Int.toNat_natCast, Nat.zero_add]
    repeat' (first | exact AllT.nil | refine AllT.cons ?_ ?_)
    all_goals first | with_reducible rfl | with_reducible assumption
  · simp only [h3, Int.toNat_natCast, Nat.zero_add]
    rfl
theorem jqs_tftt {L k : Nat} {g : Nat → Rc} {m : Nat} {t : Nat → Rc} {a b c d : Int} {i : Nat} (hi : i < m) (hm20 : m ≤ 20)
    (hm : meetB a b c d (t i).x (t i).y (t i).w (t i).h = true) (hx : mxI (t i).x a = (t i).x) (hy : mxI (t i).y b = (t i).y)
    (hw : w64 (mnI (w64 ((t i).x + (t i).w)) (w64 (a + c)) - mxI (t i).x a) = (t i).w) (hh : w64 (mnI (w64 ((t i).y + (t i).h)) (w64 (b + d)) - mxI (t i).y b) = (t i).h) :
    round (arun (rjnG L) 1 48 (bodyOf Try.f9 1)) (canon (rjnG L).T 1 ((rjnG L).keep 14)) (jqS k g m t a b c d true false true true i) =
      some (.normal, jqS k g m t a b c d true ((t i).y == b) true true ((i + 1 : Nat) : Int)) := by
  have h3 : w64 ((i : Int) + 1) = ((i + 1 : Nat) : Int) := by rw [w64_in (by omega)]; omega
  have hc : (!!((bif meetB a b c d (t i).x (t i).y (t i).w (t i).h then mxI (t i).x a else (0 : Int)) == (t i).x &&
              ((bif meetB a b c d (t i).x (t i).y (t i).w (t i).h then mxI (t i).y b else (0 : Int)) == (t i).y &&
                ((bif meetB a b c d (t i).x (t i).y (t i).w (t i).h then w64 (mnI (w64 ((t i).x + (t i).w)) (w64 (a + c)) - mxI (t i).x a) else (0 : Int)) == (t i).w &&
                  ((bif meetB a b c d (t i).x (t i).y (t i).w (t i).h then w64 (mnI (w64 ((t i).y + (t i).h)) (w64 (b + d)) - mxI (t i).y b) else (0 : Int)) == (t i).h && true))))) = true := by
    rw [hm, hw, hh, hx, hy]
    simp
  have hm2 : (!!meetB a b c d (t i).x (t i).y (t i).w (t i).h) = true := by rw [hm]; rfl
  have p1 : decide ((i : Int) < m) = true := decide_eq_true (by omega)
  have p2 : decide ((0 : Int) ≤ (i : Int)) = true := decide_eq_true (by omega)
  have p3 : decide (i < m) = true := decide_eq_true hi
  refine (round_go jq_tftt ?_).trans ?_
  · simp only [Int.toNat_natCast, Nat.zero_add]
    repeat' (first | exact AllT.nil | refine AllT.cons ?_ ?_)
    all_goals first | with_reducible rfl | with_reducible assumption
  · simp only [h3, Int.toNat_natCast, Nat.zero_add]
    rfl
theorem jqs_ttff {L k : Nat} {g : Nat → Rc} {m : Nat} {t : Nat → Rc} {a b c d : Int} {i : Nat} (hi : i < m) (hm20 : m ≤ 20)
    (hm : meetB a b c d (t i).x (t i).y (t i).w (t i).h = true) (hx : mxI (t i).x a = (t i).x) (hy : mxI (t i).y b = (t i).y)
    (hw : w64 (mnI (w64 ((t i).x + (t i).w)) (w64 (a + c)) - mxI (t i).x a) = (t i).w) (hh : w64 (mnI (w64 ((t i).y + (t i).h)) (w64 (b + d)) - mxI (t i).y b) = (t i).h) :
    round (arun (rjnG L) 1 48 (bodyOf Try.f9 1)) (canon (rjnG L).T 1 ((rjnG L).keep 14)) (jqS k g m t a b c d true true false false i) =
      some (.normal, jqS k g m t a b c d true true (w64 ((t i).x + (t i).w) == w64 (a + c)) (w64 ((t i).y + (t i).h) == w64 (b + d)) ((i + 1 : Nat) : Int)) := by
  have h3 : w64 ((i : Int) + 1) = ((i + 1 : Nat) : Int) := by rw [w64_in (by omega)]; omega
  have hc : (!!((bif meetB a b c d (t i).x (t i).y (t i).w (t i).h then mxI (t i).x a else (0 : Int)) == (t i).x &&
              ((bif meetB a b c d (t i).x (t i).y (t i).w (t i).h then mxI (t i).y b else (0 : Int)) == (t i).y &&
                ((bif meetB a b c d (t i).x (t i).y (t i).w (t i).h then w64 (mnI (w64 ((t i).x + (t i).w)) (w64 (a + c)) - mxI (t i).x a) else (0 : Int)) == (t i).w &&
                  ((bif meetB a b c d (t i).x (t i).y (t i).w (t i).h then w64 (mnI (w64 ((t i).y + (t i).h)) (w64 (b + d)) - mxI (t i).y b) else (0 : Int)) == (t i).h && true))))) = true := by
    rw [hm, hw, hh, hx, hy]
    simp
  have hm2 : (!!meetB a b c d (t i).x (t i).y (t i).w (t i).h) = true := by rw [hm]; rfl
  have p1 : decide ((i : Int) < m) = true := decide_eq_true (by omega)
  have p2 : decide ((0 : Int) ≤ (i : Int)) = true := decide_eq_true (by omega)
  have p3 : decide (i < m) = true := decide_eq_true hi
  refine (round_go jq_ttff ?_).trans ?_
  · simp only [Int.toNat_natCast, Nat.zero_add]
    repeat' (first | exact AllT.nil | refine AllT.cons ?_ ?_)
    all_goals first | with_reducible rfl | with_reducible assumption
  · simp only [h3, Int.toNat_natCast, Nat.zero_add]
    rfl
theorem jqs_ttft {L k : Nat} {g : Nat → Rc} {m : Nat} {t : Nat → Rc} {a b c d : Int} {i : Nat} (hi : i < m) (hm20 : m ≤ 20)
    (hm : meetB a b c d (t i).x (t i).y (t i).w (t i).h = true) (hx : mxI (t i).x a = (t i).x) (hy : mxI (t i).y b = (t i).y)
    (hw : w64 (mnI (w64 ((t i).x + (t i).w)) (w64 (a + c)) - mxI (t i).x a) = (t i).w) (hh : w64 (mnI (w64 ((t i).y + (t i).h)) (w64 (b + d)) - mxI (t i).y b) = (t i).h) :
    round (arun (rjnG L) 1 48 (bodyOf Try.f9 1)) (canon (rjnG L).T 1 ((rjnG L).keep 14)) (jqS k g m t a b c d true true false true i) =
      some (.normal, jqS k g m t a b c d true true (w64 ((t i).x + (t i).w) == w64 (a + c)) true ((i + 1 : Nat) : Int)) := by
  have h3 : w64 ((i : Int) + 1) = ((i + 1 : Nat) : Int) := by rw [w64_in (by omega)]; omega
  have hc : (!!((bif meetB a b c d (t i).x (t i).y (t i).w (t i).h then mxI (t i).x a else (0 : Int)) == (t i).x &&
              ((bif meetB a b c d (t i).x (t i).y (t i).w (t i).h then mxI (t i).y b else (0 : Int)) == (t i).y &&
                ((bif meetB a b c d (t i).x (t i).y (t i).w (t i).h then w64 (mnI (w64 ((t i).x + (t i).w)) (w64 (a + c)) - mxI (t i).x a) else (0 : Int)) == (t i).w &&
                  ((bif meetB a b c d (t i).x (t i).y (t i).w (t i).h then w64 (mnI (w64 ((t i).y + (t i).h)) (w64 (b + d)) - mxI (t i).y b) else (0 : Int)) == (t i).h && true))))) = true := by
    rw [hm, hw, hh, hx, hy]
    simp
  have hm2 : (!!meetB a b c d (t i).x (t i).y (t i).w (t i).h) = true := by rw [hm]; rfl
  have p1 : decide ((i : Int) < m) = true := decide_eq_true (by omega)
  have p2 : decide ((0 : Int) ≤ (i : Int)) = true := decide_eq_true (by omega)
  have p3 : decide (i < m) = true := decide_eq_true hi
  refine (round_go jq_ttft ?_).trans ?_
  · simp only [Int.toNat_natCast, Nat.zero_add]
    repeat' (first | exact AllT.nil | refine AllT.cons ?_ ?_)
    all_goals first | with_reducible rfl | with_reducible assumption
  · simp only [h3, Int.toNat_natCast, Nat.zero_add]
    rfl
theorem jqs_tttf {L k : Nat} {g : Nat → Rc} {m : Nat} {t : Nat → Rc} {a b c d : Int} {i : Nat} (hi : i < m) (hm20 : m ≤ 20)
    (hm : meetB a b c d (t i).x (t i).y (t i).w (t i).h = true) (hx : mxI (t i).x a = (t i).x) (hy : mxI (t i).y b = (t i).y)
    (hw : w64 (mnI (w64 ((t i).x + (t i).w)) (w64 (a + c)) - mxI (t i).x a) = (t i).w) (hh : w64 (mnI (w64 ((t i).y + (t i).h)) (w64 (b + d)) - mxI (t i).y b) = (t i).h) :
    round (arun (rjnG L) 1 48 (bodyOf Try.f9 1)) (canon (rjnG L).T 1 ((rjnG L).keep 14)) (jqS k g m t a b c d true true true false i) =
      some (.normal, jqS k g m t a b c d true true true (w64 ((t i).y + (t i).h) == w64 (b + d)) ((i + 1 : Nat) : Int)) := by
  have h3 : w64 ((i : Int) + 1) = ((i + 1 : Nat) : Int) := by rw [w64_in (by omega)]; omega
  have hc : (!!((bif meetB a b c d (t i).x (t i).y (t i).w (t i).h then mxI (t i).x a else (0 : Int)) == (t i).x &&
              ((bif meetB a b c d (t i).x (t i).y (t i).w (t i).h then mxI (t i).y b else (0 : Int)) == (t i).y &&
                ((bif meetB a b c d (t i).x (t i).y (t i).w (t i).h then w64 (mnI (w64 ((t i).x + (t i).w)) (w64 (a + c)) - mxI (t i).x a) else (0 : Int)) == (t i).w &&
                  ((bif meetB a b c d (t i).x (t i).y (t i).w (t i).h then w64 (mnI (w64 ((t i).y + (t i).h)) (w64 (b + d)) - mxI (t i).y b) else (0 : Int)) == (t i).h && true))))) = true := by
    rw [hm, hw, hh, hx, hy]
    simp
  have hm2 : (!!meetB a b c d (t i).x (t i).y (t i).w (t i).h) = true := by rw [hm]; rfl
  have p1 : decide ((i : Int) < m) = true := decide_eq_true (by omega)
  have p2 : decide ((0 : Int) ≤ (i : Int)) = true := decide_eq_true (by omega)
  have p3 : decide (i < m) = true := decide_eq_true hi
  refine (round_go jq_tttf ?_).trans ?_
  · simp only [Int.toNat_natCast, Nat.zero_add]
    repeat' (first | exact AllT.nil | refine AllT.cons ?_ ?_)
    all_goals first | with_reducible rfl | with_reducible assumption
  · simp only [h3, Int.toNat_natCast, Nat.zero_add]
    rfl
theorem jqs_tttt {L k : Nat} {g : Nat → Rc} {m : Nat} {t : Nat → Rc} {a b c d : Int} {i : Nat} (hi : i < m) (hm20 : m ≤ 20)
    (hm : meetB a b c d (t i).x (t i).y (t i).w (t i).h = true) (hx : mxI (t i).x a = (t i).x) (hy : mxI (t i).y b = (t i).y)
    (hw : w64 (mnI (w64 ((t i).x + (t i).w)) (w64 (a + c)) - mxI (t i).x a) = (t i).w) (hh : w64 (mnI (w64 ((t i).y + (t i).h)) (w64 (b + d)) - mxI (t i).y b) = (t i).h) :
    round (arun (rjnG L) 1 48 (bodyOf Try.f9 1)) (canon (rjnG L).T 1 ((rjnG L).keep 14)) (jqS k g m t a b c d true true true true i) =
      some (.normal, jqS k g m t a b c d true true true true ((i + 1 : Nat) : Int)) := by
  have h3 : w64 ((i : Int) + 1) = ((i + 1 : Nat) : Int) := by rw [w64_in (by omega)]; omega
  have hc : (!!((bif meetB a b c d (t i).x (t i).y (t i).w (t i).h then mxI (t i).x a else (0 : Int)) == (t i).x &&
              ((bif meetB a b c d (t i).x (t i).y (t i).w (t i).h then mxI (t i).y b else (0 : Int)) == (t i).y &&
                ((bif meetB a b c d (t i).x (t i).y (t i).w (t i).h then w64 (mnI (w64 ((t i).x + (t i).w)) (w64 (a + c)) - mxI (t i).x a) else (0 : Int)) == (t i).w &&
                  ((bif meetB a b c d (t i).x (t i).y (t i).w (t i).h then w64 (mnI (w64 ((t i).y + (t i).h)) (w64 (b + d)) - mxI (t i).y b) else (0 : Int)) == (t i).h && true))))) = true := by
    rw [hm, hw, hh, hx, hy]
    simp
  have hm2 : (!!meetB a b c d (t i).x (t i).y (t i).w (t i).h) = true := by rw [hm]; rfl
  have p1 : decide ((i : Int) < m) = true := decide_eq_true (by omega)
  have p2 : decide ((0 : Int) ≤ (i : Int)) = true := decide_eq_true (by omega)
  have p3 : decide (i < m) = true := decide_eq_true hi
  refine (round_go jq_tttt ?_).trans ?_
  · simp only [Int.toNat_natCast, Nat.zero_add]
    repeat' (first | exact AllT.nil | refine AllT.cons ?_ ?_)
    all_goals first | with_reducible rfl | with_reducible assumption
  · simp only [h3, Int.toNat_natCast, Nat.zero_add]
    rfl
theorem jq_step {L k : Nat} {g : Nat → Rc} {m : Nat} {t : Nat → Rc} {a b c d : Int} {f1 f2 f3 f4 : Bool} {i : Nat} (hi : i < m) (hm20 : m ≤ 20)
    (hm : meetB a b c d (t i).x (t i).y (t i).w (t i).h = true) (hx : mxI (t i).x a = (t i).x) (hy : mxI (t i).y b = (t i).y)
    (hw : w64 (mnI (w64 ((t i).x + (t i).w)) (w64 (a + c)) - mxI (t i).x a) = (t i).w) (hh : w64 (mnI (w64 ((t i).y + (t i).h)) (w64 (b + d)) - mxI (t i).y b) = (t i).h) :
    round (arun (rjnG L) 1 48 (bodyOf Try.f9 1)) (canon (rjnG L).T 1 ((rjnG L).keep 14)) (jqS k g m t a b c d f1 f2 f3 f4 i) =
      some (.normal, jqS k g m t a b c d (f1 || (t i).x == a) (f2 || (t i).y == b) (f3 || w64 ((t i).x + (t i).w) == w64 (a + c)) (f4 || w64 ((t i).y + (t i).h) == w64 (b + d)) ((i + 1 : Nat) : Int)) := by
  cases f1 <;> cases f2 <;> cases f3 <;> cases f4
  · simpa only [Bool.true_or, Bool.false_or] using jqs_ffff hi hm20 hm hx hy hw hh
  · simpa only [Bool.true_or, Bool.false_or] using jqs_ffft hi hm20 hm hx hy hw hh
  · simpa only [Bool.true_or, Bool.false_or] using jqs_fftf hi hm20 hm hx hy hw hh
  · simpa only [Bool.true_or, Bool.false_or] using jqs_fftt hi hm20 hm hx hy hw hh
  · simpa only [Bool.true_or, Bool.false_or] using jqs_ftff hi hm20 hm hx hy hw hh
  · simpa only [Bool.true_or, Bool.false_or] using jqs_ftft hi hm20 hm hx hy hw hh
  · simpa only [Bool.true_or, Bool.false_or] using jqs_fttf hi hm20 hm hx hy hw hh
  · simpa only [Bool.true_or, Bool.false_or] using jqs_fttt hi hm20 hm hx hy hw hh
  · simpa only [Bool.true_or, Bool.false_or] using jqs_tfff hi hm20 hm hx hy hw hh
  · simpa only [Bool.true_or, Bool.false_or] using jqs_tfft hi hm20 hm hx hy hw hh
  · simpa only [Bool.true_or, Bool.false_or] using jqs_tftf hi hm20 hm hx hy hw hh
  · simpa only [Bool.true_or, Bool.false_or] using jqs_tftt hi hm20 hm hx hy hw hh
  · simpa only [Bool.true_or, Bool.false_or] using jqs_ttff hi hm20 hm hx hy hw hh
  · simpa only [Bool.true_or, Bool.false_or] using jqs_ttft hi hm20 hm hx hy hw hh
  · simpa only [Bool.true_or, Bool.false_or] using jqs_tttf hi hm20 hm hx hy hw hh
  · simpa only [Bool.true_or, Bool.false_or] using jqs_tttt hi hm20 hm hx hy hw hh
end Go.Proofs.Ytcpahifgdppkbaa.QAI
