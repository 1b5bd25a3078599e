/- StakOpens: the walk's loops. -/
import Derived.Test.YtcpahifgdppkbaaZ6
import Derived.Test.YtcpahifgdppkbaaA20
set_option linter.unusedVariables false
set_option linter.unusedSimpArgs false
namespace Go.Proofs.Ytcpahifgdppkbaa.QAI
open Go Go.RowKit
set_option maxRecDepth 100000
noncomputable def soG (L : Nat) : Ctx2 := GK KS (fun k => if k = 3 then [(0,none),(1,none),(5,none)] else if k = 14 then [(0,none),(6,none),(7,none),(8,none),(9,none),(10,none),(11,none)] else []) L
def soS (k : Nat) (g : Nat → Bx) (m : Nat) (f : Nat → Bx) (bottom : Bool) (i : Int) : St := ⟨slots 161 [(0, .c (.sl 1 0 m)), (1, Bo bottom), (5, I64 i)], [rowX false k g, rowX true m f]⟩
def soH (k : Nat) (g : Nat → Bx) (m : Nat) (f : Nat → Bx) (p q : Nat → Int) (s t : Sm) : AHeap := [rowX false k g, rowX true m f, some ⟨2, true, .row 1 m fun i => e1 (p i)⟩, some ⟨63, true, .one (smC s)⟩, some ⟨2, true, .row 1 m fun i => e1 (q i)⟩, some ⟨63, true, .one (smC t)⟩]
def soS2 (k : Nat) (g : Nat → Bx) (m : Nat) (f : Nat → Bx) (p q : Nat → Int) (s t : Sm) (down i : Int) : St :=
  ⟨slots 161 [(0, .c (.sl 1 0 m)), (6, .c (.sl 2 0 m)), (7, .c (.ptr 3 0 0)), (8, .c (.sl 4 0 m)), (9, .c (.ptr 5 0 0)), (10, I64 down), (11, I64 i)], soH k g m f p q s t⟩
def h1R (f : Nat → Bx) (J : Nat) : Nat → List Value := updC (fun i => encX (f i)) J (splice (encX (f J)) 5 [.bool false])
theorem so_rnd {L k : Nat} {g : Nat → Bx} {m : Nat} {f : Nat → Bx} {bottom : Bool} {i : Int} : rnd (arun (soG L) 1 54 (bodyOf Try.f12 0)) (canon (soG L).T 1 ((soG L).keep 3)) (soS k g m f bottom i) =
  bif decide (i < m) then bif decide (0 ≤ i) then bif decide (i < m) then bif decide (0 + i.toNat < m) then
    some ⟨slots 161 [(0, .c (.sl 1 0 m)), (1, Bo bottom), (5, I64 (w64 (i + 1)))], [rowX false k g, some ⟨61, true, .row 6 m (h1R f (0 + i.toNat))⟩]⟩
  else none else none else none else none := by kernel_rfl
theorem so_rndX {L k : Nat} {g : Nat → Bx} {m : Nat} {f : Nat → Bx} {bottom : Bool} {i : Int} : rndX (arun (soG L) 1 54 (bodyOf Try.f12 0)) (soS k g m f bottom i) = 
  bif decide (i < ↑m) then 
  bif decide (0 ≤ i) then 
  bif decide (i < ↑m) then 
  bif decide (0 + i.toNat < m) then none
  else none
  else none
  else none
  else some (Ex.exit 0, { sl := slots 161 [(0, AV.c (.sl 1 0 m)), (1, Bo bottom), (5, I64 i), (19, I64 i), (20, AV.c (.sl 1 0 m)), (21, I64 ↑m), (22, Bo false)], h := [rowX false k g, rowX true m f] }) := by kernel_rfl
theorem so_rnd2 {L k : Nat} {g : Nat → Bx} {m : Nat} {f : Nat → Bx} {p q : Nat → Int} {s t : Sm} {down i : Int} : rnd (arun (soG L) 1 48 (bodyOf Try.f12 1)) (canon (soG L).T 1 ((soG L).keep 14)) (soS2 k g m f p q s t down i) = 
  bif decide (i < ↑m) then 
  bif decide (0 ≤ i) then 
  bif decide (i < ↑m) then 
  bif decide (0 + i.toNat < m) then 
  bif decide (0 ≤ i) then 
  bif decide (i < ↑m) then 
  bif decide (0 + i.toNat < m) then 
  bif q (0 + i.toNat) != w64 (p (0 + i.toNat) + down) then none
  else some { sl := slots 161 [(0, AV.c (.sl 1 0 m)), (6, AV.c (.sl 2 0 m)), (7, AV.c (AC.ptr 3 0 0)), (8, AV.c (.sl 4 0 m)), (9, AV.c (AC.ptr 5 0 0)), (10, I64 down), (11, I64 (w64 (i + 1)))], h := soH k g m f p q s t }
  else none
  else none
  else none
  else none
  else none
  else none
  else none := by kernel_rfl
theorem so_rndX2 {L k : Nat} {g : Nat → Bx} {m : Nat} {f : Nat → Bx} {p q : Nat → Int} {s t : Sm} {down i : Int} : rndX (arun (soG L) 1 48 (bodyOf Try.f12 1)) (soS2 k g m f p q s t down i) = 
  bif decide (i < ↑m) then 
  bif decide (0 ≤ i) then 
  bif decide (i < ↑m) then 
  bif decide (0 + i.toNat < m) then 
  bif decide (0 ≤ i) then 
  bif decide (i < ↑m) then 
  bif decide (0 + i.toNat < m) then 
  bif q (0 + i.toNat) != w64 (p (0 + i.toNat) + down) then none
  else none
  else none
  else none
  else none
  else none
  else none
  else none
  else some (Ex.exit 2, { sl := slots 161 [(0, AV.c (.sl 1 0 m)), (6, AV.c (.sl 2 0 m)), (7, AV.c (AC.ptr 3 0 0)), (8, AV.c (.sl 4 0 m)), (9, AV.c (AC.ptr 5 0 0)), (10, I64 down), (11, I64 i), (64, I64 i), (65, AV.c (.sl 1 0 m)), (66, I64 ↑m), (67, Bo false)], h := soH k g m f p q s t }) := by kernel_rfl
def zt (b : Bx) : Bx := ⟨b.h, b.tp, b.tn, b.bp, b.bn, false⟩
def zh (f : Nat → Bx) (i : Nat) : Nat → Bx := fun j => if j < i then zt (f j) else f j
theorem h1R_eq (f : Nat → Bx) (i : Nat) : h1R (zh f i) i = fun j => encX (zh f (i + 1) j) := by
  funext j
  unfold h1R
  rw [updC_eq]
  by_cases h : j = i
  · subst h
    simp only [if_true, zh, Nat.lt_irrefl, if_false, Nat.lt_succ_self]
    rfl
  · simp only [h, if_false, zh]
    by_cases h2 : j < i
    · have : j < i + 1 := by omega
      simp [h2, this]
    · have : ¬ j < i + 1 := by omega
      simp [h2, this]
def soE (k : Nat) (g : Nat → Bx) (m : Nat) (f : Nat → Bx) (bottom : Bool) (i : Int) : St := ⟨slots 161 [(0, .c (.sl 1 0 m)), (1, Bo bottom), (5, I64 i), (19, I64 i), (20, .c (.sl 1 0 m)), (21, I64 m), (22, Bo false)], [rowX false k g, rowX true m f]⟩
theorem so_loop {L k : Nat} {g : Nat → Bx} {m : Nat} {f : Nat → Bx} {bottom : Bool} (hm : m ≤ 40) (hL : m < L) :
    (iter (arun (soG L) 1 54 (bodyOf Try.f12 0)) (canon (soG L).T 1 ((soG L).keep 3)) L (soS k g m (zh f 0) bottom 0)).eval = some (.exit 0, soE k g m (zh f m) bottom m) := by
  refine iter_upto (fun i => soS k g m (zh f i) bottom i) (N := m) (by simp) ?_ L 0 (Nat.zero_le _) (by omega) ?_
  · refine rndX_ok ?_
    rw [so_rndX]
    simp [soE]
  · intro j _ hj
    refine rnd_ok ?_
    rw [so_rnd]
    have h1 : (j : Int) < m := by omega
    have h3 : w64 ((j : Int) + 1) = ((j + 1 : Nat) : Int) := by rw [w64_id (by omega) (by omega)]; omega
    have h5 : decide ((0 : Int) ≤ (j : Int)) = true := by simp
    simp only [h1, h3, h5, hj, decide_true, cond_true, Int.toNat_natCast, Nat.zero_add, h1R_eq]
    rfl
def soE2 (k : Nat) (g : Nat → Bx) (m : Nat) (f : Nat → Bx) (p q : Nat → Int) (s t : Sm) (down i : Int) : St :=
  ⟨slots 161 [(0, .c (.sl 1 0 m)), (6, .c (.sl 2 0 m)), (7, .c (.ptr 3 0 0)), (8, .c (.sl 4 0 m)), (9, .c (.ptr 5 0 0)), (10, I64 down), (11, I64 i), (64, I64 i), (65, .c (.sl 1 0 m)), (66, I64 m), (67, Bo false)], soH k g m f p q s t⟩
theorem so_loop2 {L k : Nat} {g : Nat → Bx} {m : Nat} {f : Nat → Bx} {p q : Nat → Int} {s t : Sm} {down : Int} (hm : m ≤ 40) (hL : m < L) (hq : ∀ i, i < m → q i = w64 (p i + down)) :
    (iter (arun (soG L) 1 48 (bodyOf Try.f12 1)) (canon (soG L).T 1 ((soG L).keep 14)) L (soS2 k g m f p q s t down 0)).eval = some (.exit 2, soE2 k g m f p q s t down m) := by
  refine iter_upto (fun i => soS2 k g m f p q s t down i) (N := m) (by simp) ?_ L 0 (Nat.zero_le _) (by omega) ?_
  · refine rndX_ok ?_
    rw [so_rndX2]
    simp [soE2]
  · intro j _ hj
    refine rnd_ok ?_
    rw [so_rnd2]
    have h1 : (j : Int) < m := by omega
    have h3 : w64 ((j : Int) + 1) = ((j + 1 : Nat) : Int) := by rw [w64_id (by omega) (by omega)]; omega
    have h5 : decide ((0 : Int) ≤ (j : Int)) = true := by simp
    have h6 : (q j != w64 (p j + down)) = false := by rw [hq j hj]; simp
    simp only [h1, h3, h5, hj, h6, decide_true, cond_true, cond_false, Int.toNat_natCast, Nat.zero_add]
    rfl
def gO (g : Nat → Bx) (m : Nat) : Nat → Bx := zh (f0 g m) m
def gO' (g : Nat → Bx) (m : Nat) : Nat → Bx := fun j => gO g m (0 + j)
def yO (g : Nat → Bx) (m : Nat) (top : Bool) : Nat → Int := fun i => if i < m then ats (gO' g m) top i else 0
def zO (g : Nat → Bx) (m : Nat) (top bottom : Bool) : Sm := (run (gO' g m) top m).fin bottom
noncomputable def soT (k : Nat) (g : Nat → Bx) (bottom : Bool) (m : Nat) : Loops :=
  byReg 3 (told 54 (bodyOf Try.f12 0) (soS k g m (zh (f0 g m) 0) bottom 0) (.exit 0, soE k g m (gO g m) bottom m))
    (told 48 (bodyOf Try.f12 1) (soS2 k g m (gO g m) (yO g m true) (yO g m false) (zO g m true bottom) (zO g m false bottom) (w64 ((zO g m true bottom).tp + (zO g m true bottom).tn)) 0)
      (.exit 2, soE2 k g m (gO g m) (yO g m true) (yO g m false) (zO g m true bottom) (zO g m false bottom) (w64 ((zO g m true bottom).tp + (zO g m true bottom).tn)) m))
end Go.Proofs.Ytcpahifgdppkbaa.QAI
