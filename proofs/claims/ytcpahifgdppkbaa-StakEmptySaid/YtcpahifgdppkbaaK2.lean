/- StakEmpty: the walk. -/
import Derived.Test.YtcpahifgdppkbaaK1
import Derived.Test.YtcpahifgdppkbaaZ2
import Derived.Test.YtcpahifgdppkbaaA23
set_option linter.unusedVariables false
set_option linter.unusedSimpArgs false
namespace Go.Proofs.Ytcpahifgdppkbaa.QAI
open Go Go.RowKit
set_option maxRecDepth 100000
abbrev seK1 : List (Nat × Option TypeId) := [(0,none),(2,none),(3,none),(15,none),(16,some 61),(17,none)]
abbrev seK2 : List (Nat × Option TypeId) := [(15,none),(16,some 61),(18,none),(19,none),(20,none)]
noncomputable def seG : Ctx2 := GT KS (fun k => if k = 11 then seK1 else if k = 18 then seK2 else []) 0 [70]
theorem seG_ok : XOk seG := GT_ok KS_ok _ _ _
def rowC (n : Nat) (f : Nat → List Value) : Option ABlk := some ⟨61, true, .row 6 n f⟩
def seS1 (k : Nat) (g : Nat → Bx) (top bottom : Bool) (m : Nat) (T : Nat → Bx) (na : Nat) (fa : Nat → List Value) (i : Int) : St :=
  ⟨slots 152 [(0, .c (.sl 1 0 m)), (2, Bo top), (3, Bo bottom), (15, I64 0), (16, .c (.sl 2 0 na)), (17, I64 i)], [rowX false k g, rowX true m T, rowC na fa]⟩
def seS2 (k : Nat) (g : Nat → Bx) (m : Nat) (B : Nat → Bx) (x : Nat → Int) (s : Sm) (sum i : Int) : St :=
  ⟨slots 152 [(15, I64 sum), (16, .c (.sl 1 0 m)), (18, .c (.sl 2 0 m)), (19, .c (.ptr 3 0 0)), (20, I64 i)], [rowX false k g, rowX true m B, some ⟨2, true, .row 1 m fun j => e1 (x j)⟩, some ⟨63, true, .one [i64 s.tp, i64 s.tn, i64 s.bp, i64 s.bn, bo s.th, i64 s.h]⟩]⟩
theorem se1_go {k : Nat} {g : Nat → Bx} {top bottom : Bool} {m : Nat} {T : Nat → Bx} {na : Nat} {fa : Nat → List Value} {i : Int} : (rT seG nol 1 47 (bodyOf Try.f16 0) seK1 seK1 (seS1 k g top bottom m T na fa i)).go [] =
  some
    ([decide (i < ↑m), decide ((0 : Int) ≤ i), decide (i < ↑m), decide (0 + i.toNat < m), decide (na = na),
        true, decide ((na + 1) * 48 ≤ maxCells)],
      Ex.normal,
      {
        sl :=
          slots 152
            [(0, AV.c (AC.sl 1 0 m)), (2, Bo top), (3, Bo bottom),
              (15, I64 (0 : Int)), (16, AV.c (AC.sl 2 0 (na + 1))),
              (17, I64 (w64 (i + (1 : Int))))],
        h :=
          [some
              { t := 61, own := false,
                c :=
                  Cont.row 6 k fun i =>
                    [Value.int IntKind.i64 (g i).h, Value.int IntKind.i64 (g i).tp, Value.int IntKind.i64 (g i).tn,
                      Value.int IntKind.i64 (g i).bp, Value.int IntKind.i64 (g i).bn, Value.bool (g i).th] },
            some
              { t := 61, own := true,
                c :=
                  Cont.row 6 m fun i =>
                    [Value.int IntKind.i64 (T i).h, Value.int IntKind.i64 (T i).tp, Value.int IntKind.i64 (T i).tn,
                      Value.int IntKind.i64 (T i).bp, Value.int IntKind.i64 (T i).bn, Value.bool (T i).th] },
            some
              { t := 61, own := true,
                c :=
                  Cont.row 6 (na + 1) fun k =>
                    Decidable.rec (fun h => fa k)
                      (fun h =>
                        [Value.int IntKind.i64 (T (0 + i.toNat)).h, Value.int IntKind.i64 (0 : Int),
                          Value.int IntKind.i64 (0 : Int), Value.int IntKind.i64 (0 : Int),
                          Value.int IntKind.i64 (0 : Int), Value.bool false])
                      (instDecidableEqNat k na) }] }) := by kernel_rfl
theorem se1_ex {k : Nat} {g : Nat → Bx} {top bottom : Bool} {m : Nat} {T : Nat → Bx} {na : Nat} {fa : Nat → List Value} {i : Int} : (rT seG nol 1 47 (bodyOf Try.f16 0) seK1 seK1 (seS1 k g top bottom m T na fa i)).go [false] =
  some
    ([!decide (i < ↑m)], Ex.exit 0,
      {
        sl :=
          slots 152
            [(0, AV.c (AC.sl 1 0 m)), (2, Bo top), (3, Bo bottom),
              (15, I64 (0 : Int)), (16, AV.c (AC.sl 2 0 na)), (17, I64 i)],
        h :=
          [some
              { t := 61, own := false,
                c :=
                  Cont.row 6 k fun i =>
                    [Value.int IntKind.i64 (g i).h, Value.int IntKind.i64 (g i).tp, Value.int IntKind.i64 (g i).tn,
                      Value.int IntKind.i64 (g i).bp, Value.int IntKind.i64 (g i).bn, Value.bool (g i).th] },
            some
              { t := 61, own := true,
                c :=
                  Cont.row 6 m fun i =>
                    [Value.int IntKind.i64 (T i).h, Value.int IntKind.i64 (T i).tp, Value.int IntKind.i64 (T i).tn,
                      Value.int IntKind.i64 (T i).bp, Value.int IntKind.i64 (T i).bn, Value.bool (T i).th] },
            some { t := 61, own := true, c := Cont.row 6 na fun k => fa k }] }) := by kernel_rfl
theorem se2_go {k : Nat} {g : Nat → Bx} {m : Nat} {B : Nat → Bx} {x : Nat → Int} {s : Sm} {sum i : Int} : (rT seG nol 1 44 (bodyOf Try.f16 1) seK2 seK2 (seS2 k g m B x s sum i)).go [true, true, true, true, false] =
  some
    ([decide (i < ↑m), decide ((0 : Int) ≤ i), decide (i < ↑m), decide (0 + i.toNat < m),
        !x (0 + i.toNat) != sum, decide ((0 : Int) ≤ i), decide (i < ↑m), decide (0 + i.toNat < m)],
      Ex.normal,
      {
        sl :=
          slots 152
            [(15, I64 (w64 (sum + (B (0 + i.toNat)).h))),
              (16, AV.c (AC.sl 1 0 m)), (18, AV.c (AC.sl 2 0 m)),
              (19, AV.c (AC.ptr 3 0 0)), (20, I64 (w64 (i + (1 : Int))))],
        h :=
          [some
              { t := 61, own := false,
                c :=
                  Cont.row 6 k fun i =>
                    [Value.int IntKind.i64 (g i).h, Value.int IntKind.i64 (g i).tp, Value.int IntKind.i64 (g i).tn,
                      Value.int IntKind.i64 (g i).bp, Value.int IntKind.i64 (g i).bn, Value.bool (g i).th] },
            some
              { t := 61, own := true,
                c :=
                  Cont.row 6 m fun i =>
                    [Value.int IntKind.i64 (B i).h, Value.int IntKind.i64 (B i).tp, Value.int IntKind.i64 (B i).tn,
                      Value.int IntKind.i64 (B i).bp, Value.int IntKind.i64 (B i).bn, Value.bool (B i).th] },
            some { t := 2, own := true, c := Cont.row 1 m fun j => [Value.int IntKind.i64 (x j)] },
            some
              { t := 63, own := true,
                c := Cont.one [i64 s.tp, i64 s.tn, i64 s.bp, i64 s.bn, AC.v (Value.bool s.th), i64 s.h] }] }) := by kernel_rfl
theorem se2_ex {k : Nat} {g : Nat → Bx} {m : Nat} {B : Nat → Bx} {x : Nat → Int} {s : Sm} {sum i : Int} : (rT seG nol 1 44 (bodyOf Try.f16 1) seK2 seK2 (seS2 k g m B x s sum i)).go [false] =
  some
    ([!decide (i < ↑m)], Ex.exit 2,
      {
        sl :=
          slots 152
            [(15, I64 sum), (16, AV.c (AC.sl 1 0 m)),
              (18, AV.c (AC.sl 2 0 m)),
              (19, AV.c (AC.ptr 3 0 0)), (20, I64 i)],
        h :=
          [some
              { t := 61, own := false,
                c :=
                  Cont.row 6 k fun i =>
                    [Value.int IntKind.i64 (g i).h, Value.int IntKind.i64 (g i).tp, Value.int IntKind.i64 (g i).tn,
                      Value.int IntKind.i64 (g i).bp, Value.int IntKind.i64 (g i).bn, Value.bool (g i).th] },
            some
              { t := 61, own := true,
                c :=
                  Cont.row 6 m fun i =>
                    [Value.int IntKind.i64 (B i).h, Value.int IntKind.i64 (B i).tp, Value.int IntKind.i64 (B i).tn,
                      Value.int IntKind.i64 (B i).bp, Value.int IntKind.i64 (B i).bn, Value.bool (B i).th] },
            some { t := 2, own := true, c := Cont.row 1 m fun j => [Value.int IntKind.i64 (x j)] },
            some
              { t := 63, own := true,
                c := Cont.one [i64 s.tp, i64 s.tn, i64 s.bp, i64 s.bn, AC.v (Value.bool s.th), i64 s.h] }] }) := by kernel_rfl
end Go.Proofs.Ytcpahifgdppkbaa.QAI
