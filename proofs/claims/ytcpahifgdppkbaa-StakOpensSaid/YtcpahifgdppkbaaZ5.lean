/- StakRises: the walk's loops. -/
import Derived.Test.YtcpahifgdppkbaaZ2
import Derived.Test.YtcpahifgdppkbaaSR
set_option linter.unusedVariables false
set_option linter.unusedSimpArgs false
namespace Go.Proofs.Ytcpahifgdppkbaa.QAI
open Go Go.RowKit
set_option maxRecDepth 100000
noncomputable def srG (L : Nat) : Ctx2 := GK KS (fun k => if k = 3 then [(0,none),(1,none),(2,none),(7,none)] else if k = 11 then [(0,none),(8,none),(9,none),(10,none),(11,none),(12,none)] else []) L
def srS (k : Nat) (g : Nat → Bx) (m : Nat) (f : Nat → Bx) (top bottom : Bool) (i : Int) : St := ⟨slots 93 [(0, .c (.sl 1 0 m)), (1, Bo top), (2, Bo bottom), (7, I64 i)], [rowX false k g, rowX true m f]⟩
def srE (k : Nat) (g : Nat → Bx) (m : Nat) (f : Nat → Bx) (top bottom : Bool) (i : Int) : St := ⟨slots 93 [(0, .c (.sl 1 0 m)), (1, Bo top), (2, Bo bottom), (7, I64 i), (15, I64 i), (16, .c (.sl 1 0 m)), (17, I64 m), (18, Bo false)], [rowX false k g, rowX true m f]⟩
def z1R (f : Nat → Bx) (J : Nat) : Nat → List Value := updC (fun i => encX (f i)) J (splice (encX (f J)) 2 [.int .i64 0])
def z2R (f : Nat → Bx) (J : Nat) : Nat → List Value := updC (z1R f J) J (splice (z1R f J J) 4 [.int .i64 0])
theorem sr_round {L k : Nat} {g : Nat → Bx} {m : Nat} {f : Nat → Bx} {top bottom : Bool} {i : Int} :
    round (arun (srG L) 1 54 (bodyOf Try.f13 0)) (canon (srG L).T 1 ((srG L).keep 3)) (srS k g m f top bottom i) =
      bif decide (i < m) then bif decide (0 ≤ i) then bif decide (i < m) then bif decide (0 + i.toNat < m) then bif decide (0 ≤ i) then bif decide (i < m) then bif decide (0 + i.toNat < m) then
        some (.normal, ⟨slots 93 [(0, .c (.sl 1 0 m)), (1, Bo top), (2, Bo bottom), (7, I64 (w64 (i + 1)))], [rowX false k g, some ⟨61, true, .row 6 m (z2R f (0 + i.toNat))⟩]⟩)
      else none else none else none else none else none else none else some (.exit 0, srE k g m f top bottom i) := by
  kernel_rfl
theorem updC_eq (f : Nat → List Value) (n : Nat) (x : List Value) (k : Nat) : updC f n x k = if k = n then x else f k := by
  unfold updC
  rw [selL_eq]
  by_cases h : k = n <;> simp [h]
def z2 (b : Bx) : Bx := ⟨b.h, b.tp, 0, b.bp, 0, b.th⟩
def zf (f : Nat → Bx) (i : Nat) : Nat → Bx := fun j => if j < i then z2 (f j) else f j
theorem z2R_eq (f : Nat → Bx) (i : Nat) : z2R (zf f i) i = fun j => encX (zf f (i + 1) j) := by
  funext j
  unfold z2R
  rw [updC_eq]
  by_cases h : j = i
  · subst h
    simp only [if_true, z1R, updC_eq, zf, Nat.lt_irrefl, if_false, Nat.lt_succ_self]
    rfl
  · simp only [h, if_false, z1R, updC_eq, zf]
    by_cases h2 : j < i
    · have : j < i + 1 := by omega
      simp [h2, this]
    · have : ¬ j < i + 1 := by omega
      simp [h2, this]
theorem sr_loop {L k : Nat} {g : Nat → Bx} {m : Nat} {f : Nat → Bx} {top bottom : Bool} (hm : m ≤ 40) (hL : m < L) :
    (iter (arun (srG L) 1 54 (bodyOf Try.f13 0)) (canon (srG L).T 1 ((srG L).keep 3)) L (srS k g m (zf f 0) top bottom 0)).eval = some (.exit 0, srE k g m (zf f m) top bottom m) := by
  refine iter_upto (fun i => srS k g m (zf f i) top bottom i) (N := m) (by simp) ?_ L 0 (Nat.zero_le _) (by omega) ?_
  · rw [sr_round]
    simp
  · intro j _ hj
    rw [sr_round]
    have h1 : (j : Int) < m := by omega
    have h3 : w64 ((j : Int) + 1) = ((j + 1 : Nat) : Int) := by rw [w64_id (by omega) (by omega)]; omega
    have h5 : decide ((0 : Int) ≤ (j : Int)) = true := by simp
    simp only [h1, h3, h5, hj, decide_true, cond_true, Int.toNat_natCast, Nat.zero_add, z2R_eq]
    rfl
def srS2 (k : Nat) (g : Nat → Bx) (m : Nat) (f : Nat → Bx) (y : Nat → Int) (s : Sm) (end_ sum i : Int) : St := ⟨slots 93 [(0, .c (.sl 1 0 m)), (8, .c (.sl 2 0 m)), (9, .c (.ptr 3 0 0)), (10, I64 end_), (11, I64 sum), (12, I64 i)], [rowX false k g, rowX true m f, some ⟨2, true, .row 1 m fun i => e1 (y i)⟩, some ⟨63, true, .one (smC s)⟩]⟩
def srE2 (k : Nat) (g : Nat → Bx) (m : Nat) (f : Nat → Bx) (y : Nat → Int) (s : Sm) (end_ sum i : Int) : St := ⟨slots 93 [(0, .c (.sl 1 0 m)), (8, .c (.sl 2 0 m)), (9, .c (.ptr 3 0 0)), (10, I64 end_), (11, I64 sum), (12, I64 i), (43, I64 i), (44, .c (.sl 1 0 m)), (45, I64 m), (46, Bo false)], [rowX false k g, rowX true m f, some ⟨2, true, .row 1 m fun i => e1 (y i)⟩, some ⟨63, true, .one (smC s)⟩]⟩
def srR2 (k : Nat) (g : Nat → Bx) (m : Nat) (f : Nat → Bx) (y : Nat → Int) (s : Sm) (end_ sum i : Int) : St := ⟨slots 93 [(0, .c (.sl 1 0 m)), (6, Bo false), (8, .c (.sl 2 0 m)), (9, .c (.ptr 3 0 0)), (10, I64 end_), (11, I64 sum), (12, I64 i), (43, I64 i), (44, .c (.sl 1 0 m)), (45, I64 m), (46, Bo true), (49, .c (.sl 2 0 m)), (50, I64 i), (51, .c (.ptr 2 (0 + i.toNat) 0)), (52, I64 (y (0 + i.toNat))), (53, I64 end_), (54, Bo true)], [rowX false k g, rowX true m f, some ⟨2, true, .row 1 m fun i => e1 (y i)⟩, some ⟨63, true, .one (smC s)⟩]⟩
def jn3 (m : Nat) (i : Int) (x : Option (Ex × St)) : Option (Ex × St) := bif decide (0 ≤ i) then bif decide (i < m) then bif decide (0 + i.toNat < m) then x else none else none else none
theorem sr_round2 {L k : Nat} {g : Nat → Bx} {m : Nat} {f : Nat → Bx} {y : Nat → Int} {s : Sm} {end_ sum i : Int} :
    round (arun (srG L) 1 50 (bodyOf Try.f13 1)) (canon (srG L).T 1 ((srG L).keep 11)) (srS2 k g m f y s end_ sum i) =
      bif decide (i < m) then jn3 m i (bif decide (y (0 + i.toNat) < end_) then some (.ret, srR2 k g m f y s end_ sum i)
        else jn3 m i (jn3 m i (jn3 m i (some (.normal, srS2 k g m f y s (jmax (w64 (y (0 + i.toNat) + (f (0 + i.toNat)).h)) end_) (w64 (sum + (f (0 + i.toNat)).h)) (w64 (i + 1)))))))
      else some (.exit 2, srE2 k g m f y s end_ sum i) := by
  kernel_rfl
def enW (f : Nat → Bx) (y : Nat → Int) : Nat → Int
  | 0 => 0
  | i + 1 => jmax (w64 (y i + (f i).h)) (enW f y i)
def smW (f : Nat → Bx) : Nat → Int
  | 0 => 0
  | i + 1 => w64 (smW f i + (f i).h)
theorem sr_loop2 {L k : Nat} {g : Nat → Bx} {m : Nat} {f : Nat → Bx} {y : Nat → Int} {s : Sm} (hm : m ≤ 40) (hL : m < L) (hy : ∀ i, i < m → enW f y i ≤ y i) :
    (iter (arun (srG L) 1 50 (bodyOf Try.f13 1)) (canon (srG L).T 1 ((srG L).keep 11)) L (srS2 k g m f y s 0 0 0)).eval = some (.exit 2, srE2 k g m f y s (enW f y m) (smW f m) m) := by
  refine iter_upto (fun i => srS2 k g m f y s (enW f y i) (smW f i) i) (N := m) (by simp) ?_ L 0 (Nat.zero_le _) (by omega) ?_
  · rw [sr_round2]
    simp
  · intro j _ hj
    rw [sr_round2]
    have h1 : (j : Int) < m := by omega
    have h3 : w64 ((j : Int) + 1) = ((j + 1 : Nat) : Int) := by rw [w64_id (by omega) (by omega)]; omega
    have h5 : decide ((0 : Int) ≤ (j : Int)) = true := by simp
    have h6 : ¬ (y j < enW f y j) := by have := hy j hj; omega
    simp only [jn3, h1, h3, h5, hj, h6, decide_true, decide_false, cond_true, cond_false, Int.toNat_natCast, Nat.zero_add]
    rfl
end Go.Proofs.Ytcpahifgdppkbaa.QAI
