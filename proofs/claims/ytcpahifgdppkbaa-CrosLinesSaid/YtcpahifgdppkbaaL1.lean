/- CrosLines: the walk's loops. -/
import Derived.Test.YtcpahifgdppkbaaY4
import Derived.Test.YtcpahifgdppkbaaA20
set_option linter.unusedVariables false
set_option linter.unusedSimpArgs false
namespace Go.Proofs.Ytcpahifgdppkbaa.QAI
open Go Go.RowKit
set_option maxRecDepth 100000
noncomputable def clG (L : Nat) : Ctx2 := GK KY (fun k => if k = 4 then [(0,none),(3,none),(4,none)] else if k = 12 then [(0,none),(3,none),(5,none),(6,none),(7,none)] else []) L
def b1 (n : Nat) (f : Nat → Int) : Option ABlk := some ⟨2, true, .row 1 n fun i => e1 (f i)⟩
def clS (k : Nat) (g : Nat → Int) (n : Nat) (f : Nat → Int) (sum i : Int) : St := ⟨slots 136 [(0, .c (.sl 1 0 n)), (3, I64 sum), (4, I64 i)], [c0 k g, b1 n f]⟩
def clS2 (k : Nat) (g : Nat → Int) (n : Nat) (f p q : Nat → Int) (sum i : Int) : St := ⟨slots 136 [(0, .c (.sl 1 0 n)), (3, I64 sum), (5, .c (.sl 2 0 n)), (6, .c (.sl 3 0 n)), (7, I64 i)], [c0 k g, b1 n f, b1 n p, b1 n q]⟩
def ab (x : Int) : Int := mxI (w64 (0 - x)) x
def abR (f : Nat → Int) (J : Nat) : Nat → List Value := updC (fun i => e1 (f i)) J [.int .i64 (ab (f J))]
def jm3 (n : Nat) (i : Int) (x : Option St) : Option St := bif decide (0 ≤ i) then bif decide (i < n) then bif decide (0 + i.toNat < n) then x else none else none else none
theorem cl_rnd {L k n : Nat} {g f : Nat → Int} {sum i : Int} : rnd (arun (clG L) 1 53 (bodyOf Try.f18 0)) (canon (clG L).T 1 ((clG L).keep 4)) (clS k g n f sum i) =
  bif decide (i < n) then jm3 n i (jm3 n i (jm3 n i (jm3 n i (some ⟨slots 136 [(0, .c (.sl 1 0 n)), (3, I64 (w64 (sum + bif decide (0 + i.toNat = 0 + i.toNat) then ab (f (0 + i.toNat)) else f (0 + i.toNat)))), (4, I64 (w64 (i + 1)))],
    [c0 k g, some ⟨2, true, .row 1 n (abR f (0 + i.toNat))⟩]⟩)))) else none := by kernel_rfl
def jx3 (n : Nat) (i : Int) (x : Option (Ex × St)) : Option (Ex × St) := bif decide (0 ≤ i) then bif decide (i < n) then bif decide (0 + i.toNat < n) then x else none else none else none
def clE (k : Nat) (g : Nat → Int) (n : Nat) (f : Nat → Int) (sum i : Int) : St := ⟨slots 136 [(0, .c (.sl 1 0 n)), (3, I64 sum), (4, I64 i), (10, I64 i), (11, .c (.sl 1 0 n)), (12, I64 n), (13, Bo false)], [c0 k g, b1 n f]⟩
theorem cl_rndX {L k n : Nat} {g f : Nat → Int} {sum i : Int} : rndX (arun (clG L) 1 53 (bodyOf Try.f18 0)) (clS k g n f sum i) =
  bif decide (i < n) then jx3 n i (jx3 n i (jx3 n i (jx3 n i none))) else some (.exit 0, clE k g n f sum i) := by kernel_rfl
def lf (f : Nat → Int) (i : Nat) : Nat → Int := fun j => if j < i then ab (f j) else f j
theorem abR_eq (f : Nat → Int) (i : Nat) : abR (lf f i) i = fun j => e1 (lf f (i + 1) j) := by
  funext j
  unfold abR
  unfold updC
  rw [selL_eq]
  by_cases h : j = i
  · subst h
    simp [lf, e1]
  · by_cases h2 : j < i
    · have : j < i + 1 := by omega
      simp [h, lf, h2, this]
    · have : ¬ j < i + 1 := by omega
      simp [h, lf, h2, this]
def sA (f : Nat → Int) : Nat → Int
  | 0 => 0
  | i + 1 => w64 (sA f i + ab (f i))
theorem cl_loop {L k n : Nat} {g f : Nat → Int} (hn : n ≤ 60) (hL : n < L) :
    (iter (arun (clG L) 1 53 (bodyOf Try.f18 0)) (canon (clG L).T 1 ((clG L).keep 4)) L (clS k g n (lf f 0) 0 0)).eval = some (.exit 0, clE k g n (lf f n) (sA f n) n) := by
  refine iter_upto (fun i => clS k g n (lf f i) (sA f i) i) (N := n) (by simp) ?_ L 0 (Nat.zero_le _) (by omega) ?_
  · refine rndX_ok ?_
    rw [cl_rndX]
    simp
  · intro j _ hj
    refine rnd_ok ?_
    rw [cl_rnd]
    have h1 : (j : Int) < n := by omega
    have h3 : w64 ((j : Int) + 1) = ((j + 1 : Nat) : Int) := by rw [w64_id (by omega) (by omega)]; omega
    have h5 : decide ((0 : Int) ≤ (j : Int)) = true := by simp
    have h6 : lf f j j = f j := by simp [lf]
    simp only [jm3, h1, h3, h5, hj, decide_true, cond_true, Int.toNat_natCast, Nat.zero_add, abR_eq, h6]
    rfl
end Go.Proofs.Ytcpahifgdppkbaa.QAI
