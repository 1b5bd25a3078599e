/- CrosWithin: the walk's loops. -/
import Derived.Test.YtcpahifgdppkbaaY4
import Derived.Test.YtcpahifgdppkbaaA20
set_option linter.unusedVariables false
set_option linter.unusedSimpArgs false
namespace Go.Proofs.Ytcpahifgdppkbaa.QAI
open Go Go.RowKit
set_option maxRecDepth 100000
noncomputable def cwG (L : Nat) : Ctx2 := GK KY (fun k => if k = 14 then [(5,none),(15,none),(16,none),(17,none)] else if k = 23 then [(5,none),(15,none),(16,none),(18,none),(19,none)] else []) L
def o1 (n : Nat) (f : Nat → Int) : Option ABlk := some ⟨2, true, .row 1 n fun i => e1 (f i)⟩
def cwS (k : Nat) (g : Nat → Int) (n : Nat) (f p : Nat → Int) (sum i : Int) : St := ⟨slots 155 [(5, .c (.sl 1 0 n)), (15, .c (.sl 2 0 n)), (16, I64 sum), (17, I64 i)], [c0 k g, o1 n f, o1 n p]⟩
def cwS2 (k : Nat) (g : Nat → Int) (n : Nat) (f p q : Nat → Int) (sum i : Int) : St := ⟨slots 155 [(5, .c (.sl 1 0 n)), (15, .c (.sl 2 0 n)), (16, I64 sum), (18, .c (.sl 3 0 n)), (19, I64 i)], [c0 k g, o1 n f, o1 n p, o1 n q]⟩
theorem cw_rnd {L k : Nat} {g : Nat → Int} {n : Nat} {f p : Nat → Int} {sum i : Int} : rnd (arun (cwG L) 1 46 (bodyOf Try.f20 0)) (canon (cwG L).T 1 ((cwG L).keep 14)) (cwS k g n f p sum i) = 
  bif decide (i < ↑n) then 
  bif decide (0 ≤ i) then 
  bif decide (i < ↑n) then 
  bif decide (0 + i.toNat < n) then 
  bif p (0 + i.toNat) != sum then none
  else 
  bif decide (0 ≤ i) then 
  bif decide (i < ↑n) then 
  bif decide (0 + i.toNat < n) then some { sl := slots 155 [(5, AV.c (.sl 1 0 n)), (15, AV.c (.sl 2 0 n)), (16, I64 (w64 (sum + f (0 + i.toNat)))), (17, I64 (w64 (i + 1)))], h := [c0 k g, o1 n f, o1 n p] }
  else none
  else none
  else none
  else none
  else none
  else none
  else none := by kernel_rfl
theorem cw_rndX {L k : Nat} {g : Nat → Int} {n : Nat} {f p : Nat → Int} {sum i : Int} : rndX (arun (cwG L) 1 46 (bodyOf Try.f20 0)) (cwS k g n f p sum i) = 
  bif decide (i < ↑n) then 
  bif decide (0 ≤ i) then 
  bif decide (i < ↑n) then 
  bif decide (0 + i.toNat < n) then 
  bif p (0 + i.toNat) != sum then none
  else 
  bif decide (0 ≤ i) then 
  bif decide (i < ↑n) then 
  bif decide (0 + i.toNat < n) then none
  else none
  else none
  else none
  else none
  else none
  else none
  else some (Ex.exit 0, { sl := slots 155 [(5, AV.c (.sl 1 0 n)), (15, AV.c (.sl 2 0 n)), (16, I64 sum), (17, I64 i), (106, I64 i), (107, AV.c (.sl 1 0 n)), (108, I64 ↑n), (109, Bo false)], h := [c0 k g, o1 n f, o1 n p] }) := by kernel_rfl
theorem cw_rnd2 {L k : Nat} {g : Nat → Int} {n : Nat} {f p q : Nat → Int} {sum i : Int} : rnd (arun (cwG L) 1 43 (bodyOf Try.f20 1)) (canon (cwG L).T 1 ((cwG L).keep 23)) (cwS2 k g n f p q sum i) = 
  bif decide (i < ↑n) then 
  bif decide (0 ≤ i) then 
  bif decide (i < ↑n) then 
  bif decide (0 + i.toNat < n) then 
  bif decide (0 ≤ i) then 
  bif decide (i < ↑n) then 
  bif decide (0 + i.toNat < n) then 
  bif decide (0 ≤ i) then 
  bif decide (i < ↑n) then 
  bif decide (0 + i.toNat < n) then 
  bif q (0 + i.toNat) != w64 (w64 (sum - p (0 + i.toNat)) - f (0 + i.toNat)) then none
  else some { sl := slots 155 [(5, AV.c (.sl 1 0 n)), (15, AV.c (.sl 2 0 n)), (16, I64 sum), (18, AV.c (.sl 3 0 n)), (19, I64 (w64 (i + 1)))], h := [c0 k g, o1 n f, o1 n p, o1 n q] }
  else none
  else none
  else none
  else none
  else none
  else none
  else none
  else none
  else none
  else none := by kernel_rfl
theorem cw_rndX2 {L k : Nat} {g : Nat → Int} {n : Nat} {f p q : Nat → Int} {sum i : Int} : rndX (arun (cwG L) 1 43 (bodyOf Try.f20 1)) (cwS2 k g n f p q sum i) = 
  bif decide (i < ↑n) then 
  bif decide (0 ≤ i) then 
  bif decide (i < ↑n) then 
  bif decide (0 + i.toNat < n) then 
  bif decide (0 ≤ i) then 
  bif decide (i < ↑n) then 
  bif decide (0 + i.toNat < n) then 
  bif decide (0 ≤ i) then 
  bif decide (i < ↑n) then 
  bif decide (0 + i.toNat < n) then 
  bif q (0 + i.toNat) != w64 (w64 (sum - p (0 + i.toNat)) - f (0 + i.toNat)) then none
  else none
  else none
  else none
  else none
  else none
  else none
  else none
  else none
  else none
  else none
  else some (Ex.exit 2, { sl := slots 155 [(5, AV.c (.sl 1 0 n)), (15, AV.c (.sl 2 0 n)), (16, I64 sum), (18, AV.c (.sl 3 0 n)), (19, I64 i), (132, I64 i), (133, AV.c (.sl 1 0 n)), (134, I64 ↑n), (135, Bo false)], h := [c0 k g, o1 n f, o1 n p, o1 n q] }) := by kernel_rfl
def cwE (k : Nat) (g : Nat → Int) (n : Nat) (f p : Nat → Int) (sum i : Int) : St := ⟨slots 155 [(5, .c (.sl 1 0 n)), (15, .c (.sl 2 0 n)), (16, I64 sum), (17, I64 i), (106, I64 i), (107, .c (.sl 1 0 n)), (108, I64 n), (109, Bo false)], [c0 k g, o1 n f, o1 n p]⟩
def cwE2 (k : Nat) (g : Nat → Int) (n : Nat) (f p q : Nat → Int) (sum i : Int) : St := ⟨slots 155 [(5, .c (.sl 1 0 n)), (15, .c (.sl 2 0 n)), (16, I64 sum), (18, .c (.sl 3 0 n)), (19, I64 i), (132, I64 i), (133, .c (.sl 1 0 n)), (134, I64 n), (135, Bo false)], [c0 k g, o1 n f, o1 n p, o1 n q]⟩
def pF (f : Nat → Int) (n : Nat) (whole : Int) (rev : Bool) : Nat → Int := fun i => if i < n then ln f 0 whole rev i else 0
theorem cw_loop {L k : Nat} {g : Nat → Int} {n : Nat} {f : Nat → Int} (hn : n ≤ 60) (hL : n < L) :
    (iter (arun (cwG L) 1 46 (bodyOf Try.f20 0)) (canon (cwG L).T 1 ((cwG L).keep 14)) L (cwS k g n f (pF f n 0 false) 0 0)).eval = some (.exit 0, cwE k g n f (pF f n 0 false) (atS f 0 n) n) := by
  refine iter_upto (fun i => cwS k g n f (pF f n 0 false) (atS f 0 i) i) (N := n) (by simp) ?_ L 0 (Nat.zero_le _) (by omega) ?_
  · refine rndX_ok ?_
    rw [cw_rndX]
    simp [cwE]
  · intro j _ hj
    refine rnd_ok ?_
    rw [cw_rnd]
    have h1 : (j : Int) < n := by omega
    have h3 : w64 ((j : Int) + 1) = ((j + 1 : Nat) : Int) := by rw [w64_id (by omega) (by omega)]; omega
    have h5 : decide ((0 : Int) ≤ (j : Int)) = true := by simp
    have h6 : (pF f n 0 false j != atS f 0 j) = false := by simp [pF, hj, ln]
    have h7 : atS f 0 (j + 1) = w64 (atS f 0 j + f j) := by simp [atS]
    simp only [h1, h3, h5, hj, h6, h7, decide_true, cond_true, cond_false, Int.toNat_natCast, Nat.zero_add]
    rfl
theorem cw_loop2 {L k : Nat} {g : Nat → Int} {n : Nat} {f : Nat → Int} (hn : n ≤ 60) (hL : n < L) :
    (iter (arun (cwG L) 1 43 (bodyOf Try.f20 1)) (canon (cwG L).T 1 ((cwG L).keep 23)) L (cwS2 k g n f (pF f n 0 false) (pF f n (atS f 0 n) true) (atS f 0 n) 0)).eval =
      some (.exit 2, cwE2 k g n f (pF f n 0 false) (pF f n (atS f 0 n) true) (atS f 0 n) n) := by
  refine iter_upto (fun i => cwS2 k g n f (pF f n 0 false) (pF f n (atS f 0 n) true) (atS f 0 n) i) (N := n) (by simp) ?_ L 0 (Nat.zero_le _) (by omega) ?_
  · refine rndX_ok ?_
    rw [cw_rndX2]
    simp [cwE2]
  · intro j _ hj
    refine rnd_ok ?_
    rw [cw_rnd2]
    have h1 : (j : Int) < n := by omega
    have h3 : w64 ((j : Int) + 1) = ((j + 1 : Nat) : Int) := by rw [w64_id (by omega) (by omega)]; omega
    have h5 : decide ((0 : Int) ≤ (j : Int)) = true := by simp
    have h6 : (pF f n (atS f 0 n) true j != w64 (w64 (atS f 0 n - pF f n 0 false j) - f j)) = false := by simp [pF, hj, ln]
    simp only [h1, h3, h5, hj, h6, decide_true, cond_true, cond_false, Int.toNat_natCast, Nat.zero_add]
    rfl
def fW (g : Nat → Int) (n : Nat) : Nat → Int := fun j => if j < n then (g (0 + j)).tmod 1099511627776 else 0
noncomputable def cwT (k : Nat) (g : Nat → Int) (n : Nat) : Loops :=
  byReg 14 (told 46 (bodyOf Try.f20 0) (cwS k g n (fW g n) (pF (fW g n) n 0 false) 0 0) (.exit 0, cwE k g n (fW g n) (pF (fW g n) n 0 false) (atS (fW g n) 0 n) n))
    (told 43 (bodyOf Try.f20 1) (cwS2 k g n (fW g n) (pF (fW g n) n 0 false) (pF (fW g n) n (atS (fW g n) 0 n) true) (atS (fW g n) 0 n) 0) (.exit 2, cwE2 k g n (fW g n) (pF (fW g n) n 0 false) (pF (fW g n) n (atS (fW g n) 0 n) true) (atS (fW g n) 0 n) n))
end Go.Proofs.Ytcpahifgdppkbaa.QAI
