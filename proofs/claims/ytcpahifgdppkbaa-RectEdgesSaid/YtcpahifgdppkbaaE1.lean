/- RectEdges: the walk. -/
import Derived.Test.YtcpahifgdppkbaaR2
import Derived.Test.YtcpahifgdppkbaaR4
import Derived.Test.YtcpahifgdppkbaaA18
set_option linter.unusedVariables false
set_option linter.unusedSimpArgs false
namespace Go.Proofs.Ytcpahifgdppkbaa.QAI
open Go Go.RowKit
set_option maxRecDepth 100000
noncomputable def reG (L : Nat) : Ctx2 := GK rK3 (fun k => if k = 4 then [(1,none),(3,none),(4,none)] else if k = 7 then [(1,none),(3,none),(4,none),(5,none)] else []) L
def reH (a b c d : Int) : AHeap := [some ⟨44, true, .one [i64 a, i64 b, i64 c, i64 d]⟩]
def reO (a b c d n x : Int) : St := ⟨slots 73 [(1, .c (.ptr 0 0 0)), (3, I64 n), (4, I64 x)], reH a b c d⟩
def reS (a b c d n x y : Int) : St := ⟨slots 73 [(1, .c (.ptr 0 0 0)), (3, I64 n), (4, I64 x), (5, I64 y)], reH a b c d⟩
noncomputable def reI (L : Nat) (S : St) : Tr (Ex × St) := roundT (arun (reG L) 0 47 (bodyOf Try.f8 1)) (canon (reG L).T 0 ((reG L).keep 7)) S
theorem re_in {L : Nat} {a b c d n x y : Int} : (reI L (reS a b c d n x y)).go [] =
  some
    ([decide (y < (13 : Int)), hasB a b c d x y], Ex.normal,
      {
        sl :=
          slots 73
            [(1, AV.c (AC.ptr 0 0 0)), (3, I64 (w64 (n + (1 : Int)))),
              (4, I64 x), (5, I64 (w64 (y + (1 : Int))))],
        h := [some { t := 44, own := true, c := Cont.one [i64 a, i64 b, i64 c, i64 d] }] }) := by kernel_rfl
theorem re_out {L : Nat} {a b c d n x y : Int} : (reI L (reS a b c d n x y)).go [true, false] =
  some
    ([decide (y < (13 : Int)), !hasB a b c d x y], Ex.normal,
      {
        sl :=
          slots 73
            [(1, AV.c (AC.ptr 0 0 0)), (3, I64 n), (4, I64 x),
              (5, I64 (w64 (y + (1 : Int))))],
        h := [some { t := 44, own := true, c := Cont.one [i64 a, i64 b, i64 c, i64 d] }] }) := by kernel_rfl
def re_endr (a : Int) (b : Int) (c : Int) (d : Int) (n : Int) (x : Int) (y : Int) : Ex × St := (Ex.exit 2,
      {
        sl :=
          slots 73
            [(1, AV.c (AC.ptr 0 0 0)), (3, I64 n), (4, I64 x),
              (5, I64 y), (12, I64 y), (13, Bo false)],
        h := [some { t := 44, own := true, c := Cont.one [i64 a, i64 b, i64 c, i64 d] }] })
theorem re_end {L : Nat} {a b c d n x y : Int} : (reI L (reS a b c d n x y)).go [false] =
  some
    ([!decide (y < (13 : Int))], re_endr a b c d n x y) := by kernel_rfl
noncomputable def reT (L : Nat) (a b c d n x n' : Int) : Loops := told 47 (bodyOf Try.f8 1) (reS a b c d n x (-4)) (re_endr a b c d n' x 13)
noncomputable def reX (L : Nat) (l : Loops) (S : St) : Tr (Ex × St) := roundT (lrun (reG L) l 0 53 (bodyOf Try.f8 0)) (canon (reG L).T 0 ((reG L).keep 4)) S
theorem rx_go {L : Nat} {a b c d n x n' : Int} : (reX L (reT L a b c d n x n') (reO a b c d n x)).go [] =
  some
    ([decide (x < (13 : Int)), yes (was 47 (bodyOf Try.f8 1) (reS a b c d n x (-4)))], Ex.normal,
      {
        sl :=
          slots 73
            [(1, AV.c (AC.ptr 0 0 0)), (3, I64 n'),
              (4, I64 (w64 (x + (1 : Int))))],
        h := [some { t := 44, own := true, c := Cont.one [i64 a, i64 b, i64 c, i64 d] }] }) := by kernel_rfl
def rx_endr (a : Int) (b : Int) (c : Int) (d : Int) (n : Int) (x : Int) : Ex × St := (Ex.exit 0,
      {
        sl :=
          slots 73
            [(1, AV.c (AC.ptr 0 0 0)), (3, I64 n), (4, I64 x),
              (8, I64 x), (9, Bo false)],
        h := [some { t := 44, own := true, c := Cont.one [i64 a, i64 b, i64 c, i64 d] }] })
theorem rx_end {L : Nat} {a b c d n x n' : Int} : (reX L (reT L a b c d n x n') (reO a b c d n x)).go [false] =
  some
    ([!decide (x < (13 : Int))], rx_endr a b c d n x) := by kernel_rfl
noncomputable def reW (L : Nat) (a b c d n : Int) : Tr (AV × AHeap) := lfun (reG L) (told 53 (bodyOf Try.f8 0) (reO (tX true a) (tX true b) (tW true c) (tW true d) 0 (-4)) (rx_endr (tX true a) (tX true b) (tW true c) (tW true d) n 13)) 60 Try.f8 [Rv a b c d] []
theorem re_w1 {L : Nat} {a b c d n : Int} : (reW L a b c d n).go [] =
  some
    ([yes (was 53 (bodyOf Try.f8 0) (reO (tX true a) (tX true b) (tW true c) (tW true d) 0 (-4))), n == w64 (tW true c * tW true d), true, true, true, true, true, true, true, true, true,
        decide (tW true c > (0 : Int)), true, true, true, true, true, true,
        hasB (tX true a) (tX true b) (tW true c) (tW true d) (tX true a) (tX true b) == decide (tW true d > (0 : Int)),
        true, true, true, true, true, true, true, true, true, true,
        !hasB (tX true a) (tX true b) (tW true c) (tW true d) (w64 (tX true a + tW true c)) (tX true b), true, true,
        true, true, true, true, true, true, true, true,
        !hasB (tX true a) (tX true b) (tW true c) (tW true d) (tX true a) (w64 (tX true b + tW true d)), true],
      Bo true, []) := by kernel_rfl
theorem re_w2 {L : Nat} {a b c d n : Int} : (reW L a b c d n).go [true, true, true, true, true, true, true, true, true, true, true, false, false, false, true, false] =
  some
    ([yes (was 53 (bodyOf Try.f8 0) (reO (tX true a) (tX true b) (tW true c) (tW true d) 0 (-4))), n == w64 (tW true c * tW true d), true, true, true, true, true, true, true, true, true,
        !decide (tW true c > (0 : Int)), true, true, true, true, true, true,
        hasB (tX true a) (tX true b) (tW true c) (tW true d) (tX true a) (tX true b) == false, true, true, true, true,
        true, true, true, true, true, true,
        !hasB (tX true a) (tX true b) (tW true c) (tW true d) (w64 (tX true a + tW true c)) (tX true b), true, true,
        true, true, true, true, true, true, true, true,
        !hasB (tX true a) (tX true b) (tW true c) (tW true d) (tX true a) (w64 (tX true b + tW true d)), true],
      Bo true, []) := by kernel_rfl
theorem rx_endN {L : Nat} {a b c d n x : Int} : (reX L (fun _ _ _ => .fail) (reO a b c d n x)).go [false] =
  some
    ([!decide (x < (13 : Int))], Ex.exit 0,
      {
        sl :=
          slots 73
            [(1, AV.c (AC.ptr 0 0 0)), (3, I64 n), (4, I64 x),
              (8, I64 x), (9, Bo false)],
        h := [some { t := 44, own := true, c := Cont.one [i64 a, i64 b, i64 c, i64 d] }] }) := by kernel_rfl
end Go.Proofs.Ytcpahifgdppkbaa.QAI
