/- CrosLines: the second loop's round. -/
import Derived.Test.YtcpahifgdppkbaaL1
set_option linter.unusedVariables false
set_option linter.unusedSimpArgs false
namespace Go.Proofs.Ytcpahifgdppkbaa.QAI
open Go Go.RowKit
set_option maxRecDepth 100000
theorem cl_rnd20 {L k n : Nat} {g f p q : Nat → Int} {sum : Int} : rnd (arun (clG L) 1 50 (bodyOf Try.f18 1)) (canon (clG L).T 1 ((clG L).keep 12)) (clS2 k g n f p q sum (Int.ofNat 0)) = 
  bif decide (Int.ofNat 0 < (n : Int)) then 
  bif decide ((0 : Int) < (n : Int)) then 
  bif decide (0 + Int.toNat 0 < n) then 
  bif p (0 + Int.toNat 0) != 0 then none
  else 
  bif decide ((0 : Int) < (n : Int)) then 
  bif decide (0 + Int.toNat 0 < n) then 
  bif decide ((0 : Int) < (n : Int)) then 
  bif decide (0 + Int.toNat 0 < n) then 
  bif w64 (q (0 + Int.toNat 0) + f (0 + Int.toNat 0)) != sum then none
  else 
  bif w64 (Int.ofNat 0 + 1) == (n : Int) then 
  bif decide (Int.ofNat 0 < (n : Int)) then 
  bif decide (0 + (Int.ofNat 0).toNat < n) then 
  bif q (0 + (Int.ofNat 0).toNat) != 0 then none
  else some { sl := slots 136 [(0, AV.c (.sl 1 0 n)), (3, I64 sum), (5, AV.c (.sl 2 0 n)), (6, AV.c (.sl 3 0 n)), (7, I64 (w64 (Int.ofNat 0 + 1)))], h := [c0 k g, b1 n f, b1 n p, b1 n q] }
  else none
  else none
  else some { sl := slots 136 [(0, AV.c (.sl 1 0 n)), (3, I64 sum), (5, AV.c (.sl 2 0 n)), (6, AV.c (.sl 3 0 n)), (7, I64 (w64 (Int.ofNat 0 + 1)))], h := [c0 k g, b1 n f, b1 n p, b1 n q] }
  else none
  else none
  else none
  else none
  else none
  else none
  else none := by kernel_rfl
theorem cl_rnd21 {L k n j : Nat} {g f p q : Nat → Int} {sum : Int} : rnd (arun (clG L) 1 50 (bodyOf Try.f18 1)) (canon (clG L).T 1 ((clG L).keep 12)) (clS2 k g n f p q sum (Int.ofNat (j + 1))) = 
  bif decide (Int.ofNat (j + 1) < (n : Int)) then 
  bif decide (Int.ofNat (j + 1) > 0) then 
  bif decide (Int.ofNat (j + 1) < (n : Int)) then 
  bif decide (0 + (Int.ofNat (j + 1)).toNat < n) then 
  bif decide (0 ≤ w64 (Int.ofNat (j + 1) - 1)) then 
  bif decide (w64 (Int.ofNat (j + 1) - 1) < (n : Int)) then 
  bif decide (0 + (w64 (Int.ofNat (j + 1) - 1)).toNat < n) then 
  bif decide (0 ≤ w64 (Int.ofNat (j + 1) - 1)) then 
  bif decide (w64 (Int.ofNat (j + 1) - 1) < (n : Int)) then 
  bif decide (0 + (w64 (Int.ofNat (j + 1) - 1)).toNat < n) then 
  bif p (0 + (Int.ofNat (j + 1)).toNat) != w64 (p (0 + (w64 (Int.ofNat (j + 1) - 1)).toNat) + f (0 + (w64 (Int.ofNat (j + 1) - 1)).toNat)) then none
  else 
  bif decide (Int.ofNat (j + 1) < (n : Int)) then 
  bif decide (0 + (Int.ofNat (j + 1)).toNat < n) then 
  bif decide (Int.ofNat (j + 1) < (n : Int)) then 
  bif decide (0 + (Int.ofNat (j + 1)).toNat < n) then 
  bif decide (0 ≤ w64 (Int.ofNat (j + 1) - 1)) then 
  bif decide (w64 (Int.ofNat (j + 1) - 1) < (n : Int)) then 
  bif decide (0 + (w64 (Int.ofNat (j + 1) - 1)).toNat < n) then 
  bif w64 (q (0 + (Int.ofNat (j + 1)).toNat) + f (0 + (Int.ofNat (j + 1)).toNat)) != q (0 + (w64 (Int.ofNat (j + 1) - 1)).toNat) then none
  else 
  bif w64 (Int.ofNat (j + 1) + 1) == (n : Int) then 
  bif decide (Int.ofNat (j + 1) < (n : Int)) then 
  bif decide (0 + (Int.ofNat (j + 1)).toNat < n) then 
  bif q (0 + (Int.ofNat (j + 1)).toNat) != 0 then none
  else some { sl := slots 136 [(0, AV.c (.sl 1 0 n)), (3, I64 sum), (5, AV.c (.sl 2 0 n)), (6, AV.c (.sl 3 0 n)), (7, I64 (w64 (Int.ofNat (j + 1) + 1)))], h := [c0 k g, b1 n f, b1 n p, b1 n q] }
  else none
  else none
  else some { sl := slots 136 [(0, AV.c (.sl 1 0 n)), (3, I64 sum), (5, AV.c (.sl 2 0 n)), (6, AV.c (.sl 3 0 n)), (7, I64 (w64 (Int.ofNat (j + 1) + 1)))], h := [c0 k g, b1 n f, b1 n p, b1 n q] }
  else none
  else none
  else none
  else none
  else none
  else none
  else none
  else none
  else none
  else none
  else none
  else none
  else none
  else none
  else none
  else 
  bif w64 (Int.ofNat (j + 1) + 1) == (n : Int) then 
  bif decide (Int.ofNat (j + 1) < (n : Int)) then 
  bif decide (0 + (Int.ofNat (j + 1)).toNat < n) then 
  bif q (0 + (Int.ofNat (j + 1)).toNat) != 0 then none
  else some { sl := slots 136 [(0, AV.c (.sl 1 0 n)), (3, I64 sum), (5, AV.c (.sl 2 0 n)), (6, AV.c (.sl 3 0 n)), (7, I64 (w64 (Int.ofNat (j + 1) + 1)))], h := [c0 k g, b1 n f, b1 n p, b1 n q] }
  else none
  else none
  else some { sl := slots 136 [(0, AV.c (.sl 1 0 n)), (3, I64 sum), (5, AV.c (.sl 2 0 n)), (6, AV.c (.sl 3 0 n)), (7, I64 (w64 (Int.ofNat (j + 1) + 1)))], h := [c0 k g, b1 n f, b1 n p, b1 n q] }
  else none := by kernel_rfl
theorem cl_rndX0 {L k n : Nat} {g f p q : Nat → Int} {sum : Int} : rndX (arun (clG L) 1 50 (bodyOf Try.f18 1)) (clS2 k g n f p q sum (Int.ofNat 0)) = 
  bif decide (Int.ofNat 0 < (n : Int)) then 
  bif decide ((0 : Int) < (n : Int)) then 
  bif decide (0 + Int.toNat 0 < n) then 
  bif p (0 + Int.toNat 0) != 0 then none
  else 
  bif decide ((0 : Int) < (n : Int)) then 
  bif decide (0 + Int.toNat 0 < n) then 
  bif decide ((0 : Int) < (n : Int)) then 
  bif decide (0 + Int.toNat 0 < n) then 
  bif w64 (q (0 + Int.toNat 0) + f (0 + Int.toNat 0)) != sum then none
  else 
  bif w64 (Int.ofNat 0 + 1) == (n : Int) then 
  bif decide (Int.ofNat 0 < (n : Int)) then 
  bif decide (0 + (Int.ofNat 0).toNat < n) then 
  bif q (0 + (Int.ofNat 0).toNat) != 0 then none
  else none
  else none
  else none
  else none
  else none
  else none
  else none
  else none
  else none
  else none
  else some (Ex.exit 2, { sl := slots 136 [(0, AV.c (.sl 1 0 n)), (3, I64 sum), (5, AV.c (.sl 2 0 n)), (6, AV.c (.sl 3 0 n)), (7, I64 (Int.ofNat 0)), (53, I64 (Int.ofNat 0)), (54, AV.c (.sl 1 0 n)), (55, I64 (n : Int)), (56, Bo false)], h := [c0 k g, b1 n f, b1 n p, b1 n q] }) := by kernel_rfl
theorem cl_rndX1 {L k n j : Nat} {g f p q : Nat → Int} {sum : Int} : rndX (arun (clG L) 1 50 (bodyOf Try.f18 1)) (clS2 k g n f p q sum (Int.ofNat (j + 1))) = 
  bif decide (Int.ofNat (j + 1) < (n : Int)) then 
  bif decide (Int.ofNat (j + 1) > 0) then 
  bif decide (Int.ofNat (j + 1) < (n : Int)) then 
  bif decide (0 + (Int.ofNat (j + 1)).toNat < n) then 
  bif decide (0 ≤ w64 (Int.ofNat (j + 1) - 1)) then 
  bif decide (w64 (Int.ofNat (j + 1) - 1) < (n : Int)) then 
  bif decide (0 + (w64 (Int.ofNat (j + 1) - 1)).toNat < n) then 
  bif decide (0 ≤ w64 (Int.ofNat (j + 1) - 1)) then 
  bif decide (w64 (Int.ofNat (j + 1) - 1) < (n : Int)) then 
  bif decide (0 + (w64 (Int.ofNat (j + 1) - 1)).toNat < n) then 
  bif p (0 + (Int.ofNat (j + 1)).toNat) != w64 (p (0 + (w64 (Int.ofNat (j + 1) - 1)).toNat) + f (0 + (w64 (Int.ofNat (j + 1) - 1)).toNat)) then none
  else 
  bif decide (Int.ofNat (j + 1) < (n : Int)) then 
  bif decide (0 + (Int.ofNat (j + 1)).toNat < n) then 
  bif decide (Int.ofNat (j + 1) < (n : Int)) then 
  bif decide (0 + (Int.ofNat (j + 1)).toNat < n) then 
  bif decide (0 ≤ w64 (Int.ofNat (j + 1) - 1)) then 
  bif decide (w64 (Int.ofNat (j + 1) - 1) < (n : Int)) then 
  bif decide (0 + (w64 (Int.ofNat (j + 1) - 1)).toNat < n) then 
  bif w64 (q (0 + (Int.ofNat (j + 1)).toNat) + f (0 + (Int.ofNat (j + 1)).toNat)) != q (0 + (w64 (Int.ofNat (j + 1) - 1)).toNat) then none
  else 
  bif w64 (Int.ofNat (j + 1) + 1) == (n : Int) then 
  bif decide (Int.ofNat (j + 1) < (n : Int)) then 
  bif decide (0 + (Int.ofNat (j + 1)).toNat < n) then 
  bif q (0 + (Int.ofNat (j + 1)).toNat) != 0 then none
  else none
  else none
  else none
  else none
  else none
  else none
  else none
  else none
  else none
  else none
  else none
  else none
  else none
  else none
  else none
  else none
  else none
  else none
  else none
  else 
  bif w64 (Int.ofNat (j + 1) + 1) == (n : Int) then 
  bif decide (Int.ofNat (j + 1) < (n : Int)) then 
  bif decide (0 + (Int.ofNat (j + 1)).toNat < n) then 
  bif q (0 + (Int.ofNat (j + 1)).toNat) != 0 then none
  else none
  else none
  else none
  else none
  else some (Ex.exit 2, { sl := slots 136 [(0, AV.c (.sl 1 0 n)), (3, I64 sum), (5, AV.c (.sl 2 0 n)), (6, AV.c (.sl 3 0 n)), (7, I64 (Int.ofNat (j + 1))), (53, I64 (Int.ofNat (j + 1))), (54, AV.c (.sl 1 0 n)), (55, I64 (n : Int)), (56, Bo false)], h := [c0 k g, b1 n f, b1 n p, b1 n q] }) := by kernel_rfl
end Go.Proofs.Ytcpahifgdppkbaa.QAI
