/- FoldTells: the walk. -/
import Derived.Test.YtcpahifgdppkbaaFM
import Derived.Test.YtcpahifgdppkbaaA18
set_option linter.unusedVariables false
set_option linter.unusedSimpArgs false
namespace Go.Proofs.Ytcpahifgdppkbaa.QAI
open Go Go.RowKit
set_option maxRecDepth 100000
noncomputable def ftG (L : Nat) : Ctx2 := GK KA (fun k => if k = 6 then [(0,none),(1,none),(5,none),(6,none),(7,some 27),(8,some 27),(9,none)] else if k = 12 then [(1,none),(5,none),(6,none),(7,some 27),(8,some 27),(11,none)] else []) L
def ftH (k : Nat) (g : Nat → Int) (na nb : Nat) (fa fb : Nat → List Value) : AHeap := [some ⟨2, false, .row 1 k fun i => e1 (g i)⟩, some ⟨27, true, .row 2 na fa⟩, some ⟨27, true, .row 2 nb fb⟩]
def ftS (k : Nat) (g : Nat → Int) (c : Int) (na nb : Nat) (fa fb : Nat → List Value) (pos neg i : Int) : St :=
  ⟨slots 109 [(0, .c (.sl 0 0 k)), (1, I64 c), (5, I64 pos), (6, I64 neg), (7, .c (.sl 1 0 na)), (8, .c (.sl 2 0 nb)), (9, I64 i)], ftH k g na nb fa fb⟩
def ftE (k : Nat) (g : Nat → Int) (c : Int) (na nb : Nat) (fa fb : Nat → List Value) (pos neg i : Int) : St :=
  ⟨slots 109 [(0, .c (.sl 0 0 k)), (1, I64 c), (5, I64 pos), (6, I64 neg), (7, .c (.sl 1 0 na)), (8, .c (.sl 2 0 nb)), (9, I64 i), (18, I64 i), (19, .c (.sl 0 0 k)), (20, I64 k), (21, Bo false)], ftH k g na nb fa fb⟩
def ftS2 (k : Nat) (g : Nat → Int) (c : Int) (na nb : Nat) (fa fb : Nat → List Value) (pos neg i : Int) : St :=
  ⟨slots 109 [(1, I64 c), (5, I64 pos), (6, I64 neg), (7, .c (.sl 1 0 na)), (8, .c (.sl 2 0 nb)), (11, I64 i)], ftH k g na nb fa fb⟩
def ftE2 (k : Nat) (g : Nat → Int) (c : Int) (na nb : Nat) (fa fb : Nat → List Value) (pos neg i : Int) : St :=
  ⟨slots 109 [(1, I64 c), (5, I64 pos), (6, I64 neg), (7, .c (.sl 1 0 na)), (8, .c (.sl 2 0 nb)), (11, I64 i), (43, I64 i), (44, Bo false)], ftH k g na nb fa fb⟩
theorem ft_round {L k : Nat} {g : Nat → Int} {c : Int} {na nb : Nat} {fa fb : Nat → List Value} {pos neg i : Int} :
    round (arun (ftG L) 1 52 (bodyOf Try.f4 0)) (canon (ftG L).T 1 ((ftG L).keep 6)) (ftS k g c na nb fa fb pos neg i) =
      bif decide (i < k) then bif decide (0 ≤ i) then bif decide (i < k) then bif decide (0 + i.toNat < k) then bif decide (na = na) then bif decide ((na + 1) * 16 ≤ maxCells) then
        some (.normal, ftS k g c (na + 1) nb (upd fa na (enc2 (ofI (tm (g (0 + i.toNat)))))) fb (jmax (tm (g (0 + i.toNat))) pos) (jmin (tm (g (0 + i.toNat))) neg) (IntKind.wrap .i64 (i + 1)))
      else none else none else none else none else none else some (.exit 0, ftE k g c na nb fa fb pos neg i) := by
  kernel_rfl
theorem ft_round2 {L k : Nat} {g : Nat → Int} {c : Int} {na nb : Nat} {ga : Nat → Int × Int} {fb : Nat → List Value} {pos neg i : Int} :
    round (arun (ftG L) 1 51 (bodyOf Try.f4 1)) (canon (ftG L).T 1 ((ftG L).keep 12)) (ftS2 k g c na nb (fun i => enc2 (ga i)) fb pos neg i) =
      bif decide (i ≥ 0) then bif decide (0 ≤ i) then bif decide (i < na) then bif decide (0 + i.toNat < na) then bif decide (0 ≤ i) then bif decide (i < na) then bif decide (0 + i.toNat < na) then
        bif decide (nb = nb) then bif decide ((nb + 2) * 16 ≤ maxCells) then
        some (.normal, ftS2 k g c na (nb + 2) (fun i => enc2 (ga i)) (upd (upd fb nb (enc2 (ga (0 + i.toNat)))) (nb + 1) (enc2 (ga (0 + i.toNat)))) pos neg (IntKind.wrap .i64 (i - 1)))
      else none else none else none else none else none else none else none else none else some (.exit 2, ftE2 k g c na nb (fun i => enc2 (ga i)) fb pos neg i) := by
  kernel_rfl
def pMx (f : Nat → Int) (i : Nat) : Int := mx f i
def ftI (k : Nat) (g : Nat → Int) (c : Int) (i : Nat) : St := ftS k g c i 0 (rowTo (fun j => tm (g j)) i) (fun _ => enc2 (0, 0)) (sPos g i) (sNeg g i) i
def ftF (k : Nat) (g : Nat → Int) (c : Int) : St := ftE k g c k 0 (rowTo (fun j => tm (g j)) k) (fun _ => enc2 (0, 0)) (sPos g k) (sNeg g k) k
theorem ft_loop {L k : Nat} {g : Nat → Int} {c : Int} (hk : k ≤ 100) (hL : k < L) :
    (iter (arun (ftG L) 1 52 (bodyOf Try.f4 0)) (canon (ftG L).T 1 ((ftG L).keep 6)) L (ftI k g c 0)).eval = some (.exit 0, ftF k g c) := by
  refine iter_upto (fun i => ftI k g c i) (N := k) (by simp) ?_ L 0 (Nat.zero_le _) (by omega) ?_
  · simp only [ftI]
    rw [ft_round]
    simp [ftF]
  · intro j _ hj
    simp only [ftI]
    rw [ft_round]
    have h1 : (j : Int) < k := by omega
    have h3 : IntKind.wrap .i64 ((j : Int) + 1) = ((j + 1 : Nat) : Int) := by rw [wrap_id (by omega) (by omega)]; omega
    have h4 : (j + 1) * 16 ≤ maxCells := by
      have : maxCells = 140737488355328 := rfl
      omega
    have h5 : decide ((0 : Int) ≤ (j : Int)) = true := by simp
    simp only [h1, hj, h3, h4, h5, decide_true, cond_true, Int.toNat_natCast, Nat.zero_add]
    rw [← rowTo_step (fun j => tm (g j)) j]
    simp only [sPos, sNeg]
/-- Of row f of n, from behind, each twice. -/
def bk (f : Nat → Int × Int) (n i : Nat) : Nat → Int × Int := fun j => if j < 2 * i then f (n - 1 - j / 2) else (0, 0)
theorem bk_step (f : Nat → Int × Int) (n i : Nat) : upd (upd (fun j => enc2 (bk f n i j)) (2 * i) (enc2 (f (n - 1 - i)))) (2 * i + 1) (enc2 (f (n - 1 - i))) = fun j => enc2 (bk f n (i + 1) j) := by
  funext j
  unfold upd bk
  by_cases h1 : j = 2 * i + 1
  · subst h1
    have h2 : 2 * i + 1 < 2 * (i + 1) := by omega
    have h3 : (2 * i + 1) / 2 = i := by omega
    simp [h2, h3]
  · by_cases h2 : j = 2 * i
    · subst h2
      have h4 : 2 * i < 2 * (i + 1) := by omega
      simp [h4]
    · by_cases h5 : j < 2 * i
      · have h6 : j < 2 * (i + 1) := by omega
        simp [h1, h2, h5, h6]
      · have h6 : ¬ j < 2 * (i + 1) := by omega
        simp [h1, h2, h5, h6]
def ga (g : Nat → Int) (k : Nat) : Nat → Int × Int := fun j => if j < k then ofI (tm (g j)) else (0, 0)
def ftI2 (k : Nat) (g : Nat → Int) (c : Int) (i : Nat) : St := ftS2 k g c k (2 * i) (fun j => enc2 (ga g k j)) (fun j => enc2 (bk (ga g k) k i j)) (sPos g k) (sNeg g k) (IntKind.wrap .i64 ((k : Int) - 1) - i)
def ftF2 (k : Nat) (g : Nat → Int) (c : Int) : St := ftE2 k g c k (2 * k) (fun j => enc2 (ga g k j)) (fun j => enc2 (bk (ga g k) k k j)) (sPos g k) (sNeg g k) (IntKind.wrap .i64 ((k : Int) - 1) - k)
theorem ft_loop2 {L k : Nat} {g : Nat → Int} {c : Int} (hk : k ≤ 100) (hL : k < L) :
    (iter (arun (ftG L) 1 51 (bodyOf Try.f4 1)) (canon (ftG L).T 1 ((ftG L).keep 12)) L (ftI2 k g c 0)).eval = some (.exit 2, ftF2 k g c) := by
  have hw : IntKind.wrap .i64 ((k : Int) - 1) = (k : Int) - 1 := wrap_id (by omega) (by omega)
  refine iter_upto (fun i => ftI2 k g c i) (N := k) (by simp) ?_ L 0 (Nat.zero_le _) (by omega) ?_
  · simp only [ftI2, hw]
    rw [ft_round2]
    have h1 : ¬ ((k : Int) - 1 - k ≥ 0) := by omega
    simp only [h1, decide_false, cond_false, ftF2, hw]
  · intro j _ hj
    simp only [ftI2, hw]
    rw [ft_round2]
    have h1 : (k : Int) - 1 - j ≥ 0 := by omega
    have h2 : (0 : Int) ≤ (k : Int) - 1 - j := by omega
    have h3 : (k : Int) - 1 - j < k := by omega
    have h4 : ((k : Int) - 1 - j).toNat = k - 1 - j := by omega
    have h5 : k - 1 - j < k := by omega
    have h6 : IntKind.wrap .i64 ((k : Int) - 1 - j - 1) = (k : Int) - 1 - ((j + 1 : Nat) : Int) := by rw [wrap_id (by omega) (by omega)]; omega
    have h7 : (2 * j + 2) * 16 ≤ maxCells := by
      have : maxCells = 140737488355328 := rfl
      omega
    simp only [h1, h2, h3, h4, h5, h6, h7, decide_true, cond_true, Nat.zero_add]
    rw [bk_step]
    rfl
end Go.Proofs.Ytcpahifgdppkbaa.QAI
