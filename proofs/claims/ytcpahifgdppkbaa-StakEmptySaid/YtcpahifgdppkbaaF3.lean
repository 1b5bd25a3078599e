/- FoldBounds: what it computes, and why that is true. -/
import Derived.Test.YtcpahifgdppkbaaF2
set_option linter.unusedVariables false
set_option linter.unusedSimpArgs false
namespace Go.Proofs.Ytcpahifgdppkbaa.QAI
open Go Go.RowKit
set_option maxRecDepth 100000

abbrev inL (t : TypeId) (k : Nat) (g : Nat → Int) : AHeap := [some ⟨t, false, .row 1 k fun i => e1 (g i)⟩]
def outB (b : Bool) (k : Nat) (g : Nat → Int) : Option (AV × AHeap) := some (Bo b, inL 2 k g)
def jv (f : Nat → Int) (k : Nat) : Int := IntKind.wrap .i64 ((jp (fun i => dec2 (rowTo f k i)) 0 k).1 + (jp (fun i => dec2 (rowTo f k i)) 0 k).2)
abbrev jq (f : Nat → Int) (k : Nat) : Prop := 0 + k ≤ k ∧ k < 2 ^ 60 ∧ rowTo f k = fun i => enc2 (dec2 (rowTo f k i))
def bTail (k : Nat) (g : Nat → Int) (v w : Int) (minus : Bool) : Option (AV × AHeap) :=
  bif decide (v ≤ sPos g k) then bif decide (v ≥ sNeg g k) then bif w == sFar (fY g minus) k then outB true k g else outB false k g else outB false k g else outB false k g
theorem b_whole {L k : Nat} {g : Nat → Int} {minus : Bool} :
    (lfun (bG L) (told 52 (bodyOf Try.f3 0) (bI k g minus 0) (.exit 0, bF k g minus)) 60 Try.f3 [.c (.sl 0 0 k), Bo minus] (inL 2 k g)).eval =
      bif decide ((k : Int) > 60) then outB true k g else
      bif yes (was 52 (bodyOf Try.f3 0) (bI k g minus 0)) then
      bif yes (jq (fun j => tm (g j)) k) then
      bif yes (jq (fY g minus) k) then
      bif minus then bTail k g (jv (fun j => tm (g j)) k) (IntKind.wrap .i64 (0 - jv (fY g minus) k)) minus
      else bTail k g (jv (fun j => tm (g j)) k) (jv (fY g minus) k) minus
      else none else none else none := by
  kernel_rfl

def mx (f : Nat → Int) : Nat → Int
  | 0 => 0
  | i + 1 => jmax (f i) (mx f i)
def mn (f : Nat → Int) : Nat → Int
  | 0 => 0
  | i + 1 => jmin (f i) (mn f i)
theorem sPos_eq (g : Nat → Int) : ∀ i, sPos g i = mx (fun j => tm (g j)) i
  | 0 => rfl
  | i + 1 => by simp only [sPos, mx, sPos_eq g i]
theorem sNeg_eq (g : Nat → Int) : ∀ i, sNeg g i = mn (fun j => tm (g j)) i
  | 0 => rfl
  | i + 1 => by simp only [sNeg, mn, sNeg_eq g i]
theorem mx_b {f : Nat → Int} {b : Int} (hb : 0 ≤ b) (hf : ∀ j, -b ≤ f j ∧ f j ≤ b) : ∀ i, 0 ≤ mx f i ∧ mx f i ≤ b
  | 0 => ⟨Int.le_refl _, hb⟩
  | i + 1 => by
    have := mx_b hb hf i
    have := hf i
    simp only [mx, jmax]
    split <;> omega
theorem mn_b {f : Nat → Int} {b : Int} (hb : 0 ≤ b) (hf : ∀ j, -b ≤ f j ∧ f j ≤ b) : ∀ i, -b ≤ mn f i ∧ mn f i ≤ 0
  | 0 => ⟨by simp only [mn]; omega, Int.le_refl _⟩
  | i + 1 => by
    have := mn_b hb hf i
    have := hf i
    simp only [mn, jmin]
    split <;> omega
theorem dec_enc (p : Int × Int) : dec2 (enc2 p) = p := rfl
theorem mx_nn (f : Nat → Int) : ∀ i, 0 ≤ mx f i
  | 0 => Int.le_refl _
  | i + 1 => by have := mx_nn f i; simp only [mx, jmax]; split <;> omega
theorem mn_nn (f : Nat → Int) : ∀ i, mn f i ≤ 0
  | 0 => Int.le_refl _
  | i + 1 => by have := mn_nn f i; simp only [mn, jmin]; split <;> omega
theorem jp_eq (f : Nat → Int) (k : Nat) : ∀ i, i ≤ k → jp (fun i => dec2 (rowTo f k i)) 0 i = (mx f i, mn f i)
  | 0, _ => rfl
  | i + 1, hi => by
    have ih := jp_eq f k i (by omega)
    have h1 := mx_nn f i
    have h2 := mn_nn f i
    simp only [jp, ih, mx, mn]
    have hlt : i < k := hi
    simp only [rowTo, Nat.zero_add, hlt, if_true, dec_enc, ofI]
    simp only [jmax, jmin, Prod.mk.injEq]
    constructor
    · split <;> split <;> (try split) <;> omega
    · split <;> split <;> (try split) <;> omega
theorem jq_ok {f : Nat → Int} {k : Nat} (hk : k ≤ 60) : jq f k := ⟨by omega, by omega, rfl⟩
theorem tm_b (x : Int) : -1099511627776 ≤ tm x ∧ tm x ≤ 1099511627776 := by
  unfold tm
  have h1 := Int.tmod_lt_of_pos x (show (0 : Int) < 1099511627776 by decide)
  have h2 := Int.tmod_lt_of_pos (-x) (show (0 : Int) < 1099511627776 by decide)
  rw [Int.neg_tmod] at h2
  omega
theorem fY_t (g : Nat → Int) (j : Nat) : fY g true j = if tm (g j) < 0 then tm (g j) else - tm (g j) := by
  have := tm_b (g j)
  unfold fY
  by_cases h : tm (g j) < 0
  · simp [h]
  · simp only [h, decide_false, if_false]
    show IntKind.wrap .i64 (0 - tm (g j)) = _
    rw [wrap_id (by omega) (by omega)]
    omega
theorem fY_f (g : Nat → Int) (j : Nat) : fY g false j = if tm (g j) < 0 then - tm (g j) else tm (g j) := by
  have := tm_b (g j)
  unfold fY
  by_cases h : tm (g j) < 0
  · simp only [h, decide_true, if_true]
    show IntKind.wrap .i64 (0 - tm (g j)) = _
    rw [wrap_id (by omega) (by omega)]
    omega
  · simp [h]
theorem fY_b (g : Nat → Int) (minus : Bool) (j : Nat) : -1099511627776 ≤ fY g minus j ∧ fY g minus j ≤ 1099511627776 := by
  have := tm_b (g j)
  cases minus
  · rw [fY_f]; split <;> omega
  · rw [fY_t]; split <;> omega
theorem far_t (g : Nat → Int) : ∀ i, sFar (fY g true) i = - mn (fY g true) i ∧ mx (fY g true) i = 0
  | 0 => ⟨rfl, rfl⟩
  | i + 1 => by
    obtain ⟨h1, h2⟩ := far_t g i
    have h3 := mn_nn (fY g true) i
    have h4 := fY_b g true i
    have h5 : fY g true i ≤ 0 := by have := tm_b (g i); rw [fY_t]; split <;> omega
    simp only [sFar, mn, mx, h1, h2]
    rw [wrap_id (by omega) (by omega)]
    simp only [jmax, jmin]
    constructor
    · split <;> split <;> (try split) <;> omega
    · split <;> omega
theorem far_f (g : Nat → Int) : ∀ i, sFar (fY g false) i = mx (fY g false) i ∧ mn (fY g false) i = 0
  | 0 => ⟨rfl, rfl⟩
  | i + 1 => by
    obtain ⟨h1, h2⟩ := far_f g i
    have h3 := mx_nn (fY g false) i
    have h4 := fY_b g false i
    have h5 : 0 ≤ fY g false i := by have := tm_b (g i); rw [fY_f]; split <;> omega
    simp only [sFar, mn, mx, h1, h2]
    rw [wrap_id (by omega) (by omega)]
    simp only [jmax, jmin]
    constructor
    · split <;> (try split) <;> (try split) <;> omega
    · split <;> omega
theorem jv_eq {f : Nat → Int} (hf : ∀ j, -1099511627776 ≤ f j ∧ f j ≤ 1099511627776) (k : Nat) : jv f k = mx f k + mn f k := by
  have h1 := mx_b (b := 1099511627776) (by decide) hf k
  have h2 := mn_b (b := 1099511627776) (by decide) hf k
  unfold jv
  rw [jp_eq f k k (Nat.le_refl _)]
  exact wrap_id (by simp only; omega) (by simp only; omega)
theorem b_true {k : Nat} {g : Nat → Int} {minus : Bool} : (afun (bG (k + 1)) 60 Try.f3 [.c (.sl 0 0 k), Bo minus] (inL 2 k g)).eval = outB true k g := by
  by_cases hk : k ≤ 60
  · have hl : LoopsOk (bG (k + 1)) 1 _ := told_ok (b_loop (g := g) (minus := minus) hk (Nat.lt_succ_self _))
    refine lfun_ok (h := inL 2 k g) hl ?_
    rw [b_whole]
    have h1 : ¬ ((k : Int) > 60) := by omega
    have h2 := jv_eq (fun j => tm_b (g j)) k
    have h3 := jv_eq (fun j => fY_b g minus j) k
    have h4 := mx_nn (fun j => tm (g j)) k
    have h5 := mn_nn (fun j => tm (g j)) k
    have h6 : mx (fun j => tm (g j)) k + mn (fun j => tm (g j)) k ≤ mx (fun j => tm (g j)) k := by omega
    have h7 : mx (fun j => tm (g j)) k + mn (fun j => tm (g j)) k ≥ mn (fun j => tm (g j)) k := by omega
    simp only [h1, decide_false, cond_false, yes_of (jq_ok (f := fun j => tm (g j)) hk), yes_of (jq_ok (f := fY g minus) hk), cond_true]
    rw [yes_of ⟨rfl, rfl, rfl⟩]
    simp only [cond_true]
    cases minus with
    | true =>
      obtain ⟨e1, e2⟩ := far_t g k
      have hb := mn_b (b := 1099511627776) (by decide) (fun j => fY_b g true j) k
      simp only [cond_true, bTail, sPos_eq, sNeg_eq, h2, h3, h6, h7, decide_true, e1, e2]
      rw [wrap_id (by omega) (by omega)]
      simp
      rfl
    | false =>
      obtain ⟨e1, e2⟩ := far_f g k
      simp only [cond_false, cond_true, bTail, sPos_eq, sNeg_eq, h2, h3, h6, h7, decide_true, e1, e2]
      simp
      rfl
  · have hl : LoopsOk (bG (k + 1)) 1 (fun _ _ _ => .fail) := fun _ _ _ _ h => by cases h
    refine lfun_ok (h := inL 2 k g) hl ?_
    have : (lfun (bG (k + 1)) (fun _ _ _ => .fail) 60 Try.f3 [.c (.sl 0 0 k), Bo minus] (inL 2 k g)).eval = bif decide ((k : Int) > 60) then outB true k g else none := by kernel_rfl
    rw [this]
    have h1 : (k : Int) > 60 := by omega
    simp [h1]
    rfl
end Go.Proofs.Ytcpahifgdppkbaa.QAI
