/- Lines that are placed: a line's walk. -/
import Derived.Test.YtcpahifgdppkbaaQWhitRows9
section
set_option linter.unusedVariables false
set_option linter.unusedSimpArgs false
namespace Go.Proofs.Ytcpahifgdppkbaa.QAI
open Go Go.RowKit
set_option maxRecDepth 100000
def rowPc (n : Nat) (P : Nat → Pc) : Option ABlk := some ⟨112, true, .row 8 n fun j => encC (P j)⟩
noncomputable def KL1 : Known := [(51, upF), (135, hdF)]
theorem KL1_ok : KnownOk KL1 := consK upF_ok (by kernel_rfl) (consK hdF_ok (by kernel_rfl) nilK)
abbrev lp1K : List (Nat × Option TypeId) := [(0,none),(1,none),(3,none),(4,none),(5,none),(14,none),(15,none),(30,none),(31,none),(32,none)]
abbrev lp2K : List (Nat × Option TypeId) := [(0,none),(1,none),(3,none),(4,none),(5,none),(14,none),(15,none),(19,some 112),(54,none),(55,none),(56,none)]
noncomputable def lpG : Ctx2 := GT KL1 (fun k => if k = 4 then lp1K else if k = 11 then lp2K else []) 0 []
theorem lpG_ok : XOk lpG := GT_ok KL1_ok _ _ _
def lp1S (own : Bool) (k n : Nat) (R : Nat → Rn) (own2 : Bool) (o c m : Nat) (L : Nat → Gl) (x y nn up dn i : Int) : St :=
  ⟨slots 131 [(0, .c (.sl 0 0 k)), (1, .c (.sl 1 o c)), (3, I64 x), (4, I64 y), (5, I64 nn), (14, I64 up), (15, I64 dn), (30, .c (.sl 1 o c)), (31, I64 c), (32, I64 i)], [rowRn own n R, rowGo own2 m L]⟩
def lp2S (own : Bool) (k n : Nat) (R : Nat → Rn) (own2 : Bool) (o c m : Nat) (L : Nat → Gl) (x y nn up dn : Int) (np : Nat) (P : Nat → Pc) (i : Int) : St :=
  ⟨slots 131 [(0, .c (.sl 0 0 k)), (1, .c (.sl 1 o c)), (3, I64 x), (4, I64 y), (5, I64 nn), (14, I64 up), (15, I64 dn), (19, .c (.sl 2 0 np)), (54, .c (.sl 1 o c)), (55, I64 c), (56, I64 i)], [rowRn own n R, rowGo own2 m L, rowPc np P]⟩
theorem lp1_go {own : Bool} {k n : Nat} {R : Nat → Rn} {own2 : Bool} {o c m : Nat} {L : Nat → Gl} {x y nn up dn i : Int} : (rT lpG nol 2 53 (bodyOf Try.f134 0) lp1K lp1K (lp1S own k n R own2 o c m L x y nn up dn i)).go [] =
  some
    ([decide (i < ((c : Nat) : Int)), decide ((0 : Int) ≤ i), decide (i < ((c : Nat) : Int)), decide (o + i.toNat < m),
        decide ((0 : Int) ≤ (L (o + i.toNat)).r), decide ((L (o + i.toNat)).r < ((k : Nat) : Int)),
        decide (0 + (L (o + i.toNat)).r.toNat < n),
        yes
          ((0 : Int) ≤ hd (R (0 + (L (o + i.toNat)).r.toNat)).l ∧
            hd (R (0 + (L (o + i.toNat)).r.toNat)).l ≤ (4611686018427387904 : Int)),
        yes
          ((0 : Int) ≤ hd (R (0 + (L (o + i.toNat)).r.toNat)).l ∧
            hd (R (0 + (L (o + i.toNat)).r.toNat)).l ≤ (4611686018427387904 : Int))],
      Ex.normal,
      {
        sl :=
          slots 131
            [(0, AV.c (AC.sl 0 0 k)), (1, AV.c (AC.sl 1 o c)),
              (3, I64 x), (4, I64 y), (5, I64 nn),
              (14, I64 (mxI (upL (hd (R (0 + (L (o + i.toNat)).r.toNat)).l)) up)),
              (15,
                I64
                  (mxI
                    (w64
                      (hd (R (0 + (L (o + i.toNat)).r.toNat)).l -
                        upL (hd (R (0 + (L (o + i.toNat)).r.toNat)).l)))
                    dn)),
              (30, AV.c (AC.sl 1 o c)), (31, I64 ((c : Nat) : Int)), (32, I64 (w64 (i + (1 : Int))))],
        h :=
          [some
              { t := 83, own := own,
                c :=
                  Cont.row 4 n fun j =>
                    [Value.int IntKind.i64 (R j).n, Value.string (R j).s, Value.int IntKind.i64 (R j).v,
                      Value.int IntKind.i64 (R j).l] },
            some
              { t := 87, own := own2,
                c :=
                  Cont.row 4 m fun j =>
                    [Value.int IntKind.i64 (L j).k, Value.int IntKind.i64 (L j).r, Value.int IntKind.i64 (L j).a,
                      Value.int IntKind.i64 (L j).w] }] }) := by kernel_rfl
theorem lp1_e {own : Bool} {k n : Nat} {R : Nat → Rn} {own2 : Bool} {o c m : Nat} {L : Nat → Gl} {x y nn up dn i : Int} : (rT lpG nol 2 53 (bodyOf Try.f134 0) lp1K lp1K (lp1S own k n R own2 o c m L x y nn up dn i)).go [false] =
  some
    ([!decide (i < ((c : Nat) : Int))], Ex.exit 0,
      {
        sl :=
          slots 131
            [(0, AV.c (AC.sl 0 0 k)), (1, AV.c (AC.sl 1 o c)),
              (3, I64 x), (4, I64 y), (5, I64 nn), (14, I64 up), (15, I64 dn),
              (30, AV.c (AC.sl 1 o c)), (31, I64 ((c : Nat) : Int)), (32, I64 i)],
        h :=
          [some
              { t := 83, own := own,
                c :=
                  Cont.row 4 n fun j =>
                    [Value.int IntKind.i64 (R j).n, Value.string (R j).s, Value.int IntKind.i64 (R j).v,
                      Value.int IntKind.i64 (R j).l] },
            some
              { t := 87, own := own2,
                c :=
                  Cont.row 4 m fun j =>
                    [Value.int IntKind.i64 (L j).k, Value.int IntKind.i64 (L j).r, Value.int IntKind.i64 (L j).a,
                      Value.int IntKind.i64 (L j).w] }] }) := by kernel_rfl
theorem lp2_n0 {own : Bool} {k n : Nat} {R : Nat → Rn} {own2 : Bool} {o c m : Nat} {L : Nat → Gl} {x y nn up dn : Int} {np : Nat} {P : Nat → Pc} {i : Int} : (rT lpG nol 2 51 (bodyOf Try.f134 1) lp2K lp2K (lp2S own k n R own2 o c m L x y nn up dn np P i)).go [] =
  some
    ([decide (i < ((c : Nat) : Int)), decide ((0 : Int) ≤ i), decide (i < ((c : Nat) : Int)), decide (o + i.toNat < m),
        decide ((0 : Int) ≤ (L (o + i.toNat)).r), decide ((L (o + i.toNat)).r < ((k : Nat) : Int)),
        decide (0 + (L (o + i.toNat)).r.toNat < n), i == (0 : Int), true, true, true, true, true, true, true,
        true, true, true,
        yes
          ((0 : Int) ≤ hd (R (0 + (L (o + i.toNat)).r.toNat)).l ∧
            hd (R (0 + (L (o + i.toNat)).r.toNat)).l ≤ (4611686018427387904 : Int)),
        decide (np = np), true, decide ((np + 1) * 64 ≤ maxCells),
        decide ((0 : Int) ≤ w64 (((np + 1 : Nat) : Int) - (1 : Int))),
        decide (w64 (((np + 1 : Nat) : Int) - (1 : Int)) < ((np + 1 : Nat) : Int)),
        decide (0 + (w64 (((np + 1 : Nat) : Int) - (1 : Int))).toNat < np + 1),
        decide (0 + (w64 (((np + 1 : Nat) : Int) - (1 : Int))).toNat < np + 1),
        decide (0 + (w64 (((np + 1 : Nat) : Int) - (1 : Int))).toNat < np + 1)],
      Ex.normal,
      {
        sl :=
          slots 131
            [(0, AV.c (AC.sl 0 0 k)), (1, AV.c (AC.sl 1 o c)),
              (3, I64 (w64 (x + (L (o + i.toNat)).w))), (4, I64 y), (5, I64 nn),
              (14, I64 up), (15, I64 dn),
              (19, AV.c (AC.sl 2 0 (np + 1))), (54, AV.c (AC.sl 1 o c)),
              (55, I64 ((c : Nat) : Int)), (56, I64 (w64 (i + (1 : Int))))],
        h :=
          [some
              { t := 83, own := own,
                c :=
                  Cont.row 4 n fun j =>
                    [Value.int IntKind.i64 (R j).n, Value.string (R j).s, Value.int IntKind.i64 (R j).v,
                      Value.int IntKind.i64 (R j).l] },
            some
              { t := 87, own := own2,
                c :=
                  Cont.row 4 m fun j =>
                    [Value.int IntKind.i64 (L j).k, Value.int IntKind.i64 (L j).r, Value.int IntKind.i64 (L j).a,
                      Value.int IntKind.i64 (L j).w] },
            some
              { t := 112, own := true,
                c :=
                  Cont.row 8 (np + 1) fun k =>
                    [Value.int IntKind.i64
                        (bif decide (k = 0 + (w64 (((np + 1 : Nat) : Int) - (1 : Int))).toNat) then
                          bif
                              decide
                                (0 + (w64 (((np + 1 : Nat) : Int) - (1 : Int))).toNat =
                                  0 + (w64 (((np + 1 : Nat) : Int) - (1 : Int))).toNat) then
                            bif decide (0 + (w64 (((np + 1 : Nat) : Int) - (1 : Int))).toNat = np) then
                              (R (0 + (L (o + i.toNat)).r.toNat)).n
                            else (P (0 + (w64 (((np + 1 : Nat) : Int) - (1 : Int))).toNat)).n
                          else
                            bif decide (0 + (w64 (((np + 1 : Nat) : Int) - (1 : Int))).toNat = np) then
                              (R (0 + (L (o + i.toNat)).r.toNat)).n
                            else (P (0 + (w64 (((np + 1 : Nat) : Int) - (1 : Int))).toNat)).n
                        else
                          bif decide (k = 0 + (w64 (((np + 1 : Nat) : Int) - (1 : Int))).toNat) then
                            bif decide (0 + (w64 (((np + 1 : Nat) : Int) - (1 : Int))).toNat = np) then
                              (R (0 + (L (o + i.toNat)).r.toNat)).n
                            else (P (0 + (w64 (((np + 1 : Nat) : Int) - (1 : Int))).toNat)).n
                          else bif decide (k = np) then (R (0 + (L (o + i.toNat)).r.toNat)).n else (P k).n),
                      Value.int IntKind.i64
                        (bif decide (k = 0 + (w64 (((np + 1 : Nat) : Int) - (1 : Int))).toNat) then
                          bif
                              decide
                                (0 + (w64 (((np + 1 : Nat) : Int) - (1 : Int))).toNat =
                                  0 + (w64 (((np + 1 : Nat) : Int) - (1 : Int))).toNat) then
                            bif decide (0 + (w64 (((np + 1 : Nat) : Int) - (1 : Int))).toNat = np) then x
                            else (P (0 + (w64 (((np + 1 : Nat) : Int) - (1 : Int))).toNat)).x
                          else
                            bif decide (0 + (w64 (((np + 1 : Nat) : Int) - (1 : Int))).toNat = np) then x
                            else (P (0 + (w64 (((np + 1 : Nat) : Int) - (1 : Int))).toNat)).x
                        else
                          bif decide (k = 0 + (w64 (((np + 1 : Nat) : Int) - (1 : Int))).toNat) then
                            bif decide (0 + (w64 (((np + 1 : Nat) : Int) - (1 : Int))).toNat = np) then x
                            else (P (0 + (w64 (((np + 1 : Nat) : Int) - (1 : Int))).toNat)).x
                          else bif decide (k = np) then x else (P k).x),
                      Value.int IntKind.i64
                        (bif decide (k = 0 + (w64 (((np + 1 : Nat) : Int) - (1 : Int))).toNat) then
                          bif
                              decide
                                (0 + (w64 (((np + 1 : Nat) : Int) - (1 : Int))).toNat =
                                  0 + (w64 (((np + 1 : Nat) : Int) - (1 : Int))).toNat) then
                            bif decide (0 + (w64 (((np + 1 : Nat) : Int) - (1 : Int))).toNat = np) then
                              w64 (w64 (y + up) - upL (hd (R (0 + (L (o + i.toNat)).r.toNat)).l))
                            else (P (0 + (w64 (((np + 1 : Nat) : Int) - (1 : Int))).toNat)).y
                          else
                            bif decide (0 + (w64 (((np + 1 : Nat) : Int) - (1 : Int))).toNat = np) then
                              w64 (w64 (y + up) - upL (hd (R (0 + (L (o + i.toNat)).r.toNat)).l))
                            else (P (0 + (w64 (((np + 1 : Nat) : Int) - (1 : Int))).toNat)).y
                        else
                          bif decide (k = 0 + (w64 (((np + 1 : Nat) : Int) - (1 : Int))).toNat) then
                            bif decide (0 + (w64 (((np + 1 : Nat) : Int) - (1 : Int))).toNat = np) then
                              w64 (w64 (y + up) - upL (hd (R (0 + (L (o + i.toNat)).r.toNat)).l))
                            else (P (0 + (w64 (((np + 1 : Nat) : Int) - (1 : Int))).toNat)).y
                          else
                            bif decide (k = np) then
                              w64 (w64 (y + up) - upL (hd (R (0 + (L (o + i.toNat)).r.toNat)).l))
                            else (P k).y),
                      Value.int IntKind.i64
                        (bif decide (k = 0 + (w64 (((np + 1 : Nat) : Int) - (1 : Int))).toNat) then
                          w64
                            ((bif
                                  decide
                                    (0 + (w64 (((np + 1 : Nat) : Int) - (1 : Int))).toNat =
                                      0 + (w64 (((np + 1 : Nat) : Int) - (1 : Int))).toNat) then
                                bif decide (0 + (w64 (((np + 1 : Nat) : Int) - (1 : Int))).toNat = np) then (0 : Int)
                                else (P (0 + (w64 (((np + 1 : Nat) : Int) - (1 : Int))).toNat)).w
                              else
                                bif decide (0 + (w64 (((np + 1 : Nat) : Int) - (1 : Int))).toNat = np) then (0 : Int)
                                else (P (0 + (w64 (((np + 1 : Nat) : Int) - (1 : Int))).toNat)).w) +
                              (L (o + i.toNat)).w)
                        else
                          bif decide (k = 0 + (w64 (((np + 1 : Nat) : Int) - (1 : Int))).toNat) then
                            bif decide (0 + (w64 (((np + 1 : Nat) : Int) - (1 : Int))).toNat = np) then (0 : Int)
                            else (P (0 + (w64 (((np + 1 : Nat) : Int) - (1 : Int))).toNat)).w
                          else bif decide (k = np) then (0 : Int) else (P k).w),
                      Value.int IntKind.i64
                        (bif decide (k = 0 + (w64 (((np + 1 : Nat) : Int) - (1 : Int))).toNat) then
                          bif
                              decide
                                (0 + (w64 (((np + 1 : Nat) : Int) - (1 : Int))).toNat =
                                  0 + (w64 (((np + 1 : Nat) : Int) - (1 : Int))).toNat) then
                            bif decide (0 + (w64 (((np + 1 : Nat) : Int) - (1 : Int))).toNat = np) then
                              hd (R (0 + (L (o + i.toNat)).r.toNat)).l
                            else (P (0 + (w64 (((np + 1 : Nat) : Int) - (1 : Int))).toNat)).h
                          else
                            bif decide (0 + (w64 (((np + 1 : Nat) : Int) - (1 : Int))).toNat = np) then
                              hd (R (0 + (L (o + i.toNat)).r.toNat)).l
                            else (P (0 + (w64 (((np + 1 : Nat) : Int) - (1 : Int))).toNat)).h
                        else
                          bif decide (k = 0 + (w64 (((np + 1 : Nat) : Int) - (1 : Int))).toNat) then
                            bif decide (0 + (w64 (((np + 1 : Nat) : Int) - (1 : Int))).toNat = np) then
                              hd (R (0 + (L (o + i.toNat)).r.toNat)).l
                            else (P (0 + (w64 (((np + 1 : Nat) : Int) - (1 : Int))).toNat)).h
                          else bif decide (k = np) then hd (R (0 + (L (o + i.toNat)).r.toNat)).l else (P k).h),
                      Value.int IntKind.i64
                        (bif decide (k = 0 + (w64 (((np + 1 : Nat) : Int) - (1 : Int))).toNat) then
                          bif
                              decide
                                (0 + (w64 (((np + 1 : Nat) : Int) - (1 : Int))).toNat =
                                  0 + (w64 (((np + 1 : Nat) : Int) - (1 : Int))).toNat) then
                            bif decide (0 + (w64 (((np + 1 : Nat) : Int) - (1 : Int))).toNat = np) then
                              (L (o + i.toNat)).a
                            else (P (0 + (w64 (((np + 1 : Nat) : Int) - (1 : Int))).toNat)).f
                          else
                            bif decide (0 + (w64 (((np + 1 : Nat) : Int) - (1 : Int))).toNat = np) then
                              (L (o + i.toNat)).a
                            else (P (0 + (w64 (((np + 1 : Nat) : Int) - (1 : Int))).toNat)).f
                        else
                          bif decide (k = 0 + (w64 (((np + 1 : Nat) : Int) - (1 : Int))).toNat) then
                            bif decide (0 + (w64 (((np + 1 : Nat) : Int) - (1 : Int))).toNat = np) then
                              (L (o + i.toNat)).a
                            else (P (0 + (w64 (((np + 1 : Nat) : Int) - (1 : Int))).toNat)).f
                          else bif decide (k = np) then (L (o + i.toNat)).a else (P k).f),
                      Value.int IntKind.i64
                        (bif decide (k = 0 + (w64 (((np + 1 : Nat) : Int) - (1 : Int))).toNat) then
                          bif
                              decide
                                (0 + (w64 (((np + 1 : Nat) : Int) - (1 : Int))).toNat =
                                  0 + (w64 (((np + 1 : Nat) : Int) - (1 : Int))).toNat) then
                            w64 ((L (o + i.toNat)).a + (1 : Int))
                          else
                            bif decide (0 + (w64 (((np + 1 : Nat) : Int) - (1 : Int))).toNat = np) then (0 : Int)
                            else (P (0 + (w64 (((np + 1 : Nat) : Int) - (1 : Int))).toNat)).t
                        else
                          bif decide (k = 0 + (w64 (((np + 1 : Nat) : Int) - (1 : Int))).toNat) then
                            w64 ((L (o + i.toNat)).a + (1 : Int))
                          else bif decide (k = np) then (0 : Int) else (P k).t),
                      Value.int IntKind.i64
                        (bif decide (k = 0 + (w64 (((np + 1 : Nat) : Int) - (1 : Int))).toNat) then
                          bif
                              decide
                                (0 + (w64 (((np + 1 : Nat) : Int) - (1 : Int))).toNat =
                                  0 + (w64 (((np + 1 : Nat) : Int) - (1 : Int))).toNat) then
                            bif decide (0 + (w64 (((np + 1 : Nat) : Int) - (1 : Int))).toNat = np) then nn
                            else (P (0 + (w64 (((np + 1 : Nat) : Int) - (1 : Int))).toNat)).l
                          else
                            bif decide (0 + (w64 (((np + 1 : Nat) : Int) - (1 : Int))).toNat = np) then nn
                            else (P (0 + (w64 (((np + 1 : Nat) : Int) - (1 : Int))).toNat)).l
                        else
                          bif decide (k = 0 + (w64 (((np + 1 : Nat) : Int) - (1 : Int))).toNat) then
                            bif decide (0 + (w64 (((np + 1 : Nat) : Int) - (1 : Int))).toNat = np) then nn
                            else (P (0 + (w64 (((np + 1 : Nat) : Int) - (1 : Int))).toNat)).l
                          else bif decide (k = np) then nn else (P k).l)] }] }) := by kernel_rfl
theorem lp2_n1 {own : Bool} {k n : Nat} {R : Nat → Rn} {own2 : Bool} {o c m : Nat} {L : Nat → Gl} {x y nn up dn : Int} {np : Nat} {P : Nat → Pc} {i : Int} : (rT lpG nol 2 51 (bodyOf Try.f134 1) lp2K lp2K (lp2S own k n R own2 o c m L x y nn up dn np P i)).go [true, true, true, true, true, true, true, false, false, false, false, true, true, false, false, true, false, false, false, false] =
  some
    ([decide (i < ((c : Nat) : Int)), decide ((0 : Int) ≤ i), decide (i < ((c : Nat) : Int)), decide (o + i.toNat < m),
        decide ((0 : Int) ≤ (L (o + i.toNat)).r), decide ((L (o + i.toNat)).r < ((k : Nat) : Int)),
        decide (0 + (L (o + i.toNat)).r.toNat < n), !i == (0 : Int), true, true, true,
        decide ((0 : Int) ≤ w64 (i - (1 : Int))), decide (w64 (i - (1 : Int)) < ((c : Nat) : Int)), true, true,
        decide (o + (w64 (i - (1 : Int))).toNat < m), true, true, true, true,
        (L (o + (w64 (i - (1 : Int))).toNat)).r != (L (o + i.toNat)).r,
        yes
          ((0 : Int) ≤ hd (R (0 + (L (o + i.toNat)).r.toNat)).l ∧
            hd (R (0 + (L (o + i.toNat)).r.toNat)).l ≤ (4611686018427387904 : Int)),
        decide (np = np), true, decide ((np + 1) * 64 ≤ maxCells),
        decide ((0 : Int) ≤ w64 (((np + 1 : Nat) : Int) - (1 : Int))),
        decide (w64 (((np + 1 : Nat) : Int) - (1 : Int)) < ((np + 1 : Nat) : Int)),
        decide (0 + (w64 (((np + 1 : Nat) : Int) - (1 : Int))).toNat < np + 1),
        decide (0 + (w64 (((np + 1 : Nat) : Int) - (1 : Int))).toNat < np + 1),
        decide (0 + (w64 (((np + 1 : Nat) : Int) - (1 : Int))).toNat < np + 1)],
      Ex.normal,
      {
        sl :=
          slots 131
            [(0, AV.c (AC.sl 0 0 k)), (1, AV.c (AC.sl 1 o c)),
              (3, I64 (w64 (x + (L (o + i.toNat)).w))), (4, I64 y), (5, I64 nn),
              (14, I64 up), (15, I64 dn),
              (19, AV.c (AC.sl 2 0 (np + 1))), (54, AV.c (AC.sl 1 o c)),
              (55, I64 ((c : Nat) : Int)), (56, I64 (w64 (i + (1 : Int))))],
        h :=
          [some
              { t := 83, own := own,
                c :=
                  Cont.row 4 n fun j =>
                    [Value.int IntKind.i64 (R j).n, Value.string (R j).s, Value.int IntKind.i64 (R j).v,
                      Value.int IntKind.i64 (R j).l] },
            some
              { t := 87, own := own2,
                c :=
                  Cont.row 4 m fun j =>
                    [Value.int IntKind.i64 (L j).k, Value.int IntKind.i64 (L j).r, Value.int IntKind.i64 (L j).a,
                      Value.int IntKind.i64 (L j).w] },
            some
              { t := 112, own := true,
                c :=
                  Cont.row 8 (np + 1) fun k =>
                    [Value.int IntKind.i64
                        (bif decide (k = 0 + (w64 (((np + 1 : Nat) : Int) - (1 : Int))).toNat) then
                          bif
                              decide
                                (0 + (w64 (((np + 1 : Nat) : Int) - (1 : Int))).toNat =
                                  0 + (w64 (((np + 1 : Nat) : Int) - (1 : Int))).toNat) then
                            bif decide (0 + (w64 (((np + 1 : Nat) : Int) - (1 : Int))).toNat = np) then
                              (R (0 + (L (o + i.toNat)).r.toNat)).n
                            else (P (0 + (w64 (((np + 1 : Nat) : Int) - (1 : Int))).toNat)).n
                          else
                            bif decide (0 + (w64 (((np + 1 : Nat) : Int) - (1 : Int))).toNat = np) then
                              (R (0 + (L (o + i.toNat)).r.toNat)).n
                            else (P (0 + (w64 (((np + 1 : Nat) : Int) - (1 : Int))).toNat)).n
                        else
                          bif decide (k = 0 + (w64 (((np + 1 : Nat) : Int) - (1 : Int))).toNat) then
                            bif decide (0 + (w64 (((np + 1 : Nat) : Int) - (1 : Int))).toNat = np) then
                              (R (0 + (L (o + i.toNat)).r.toNat)).n
                            else (P (0 + (w64 (((np + 1 : Nat) : Int) - (1 : Int))).toNat)).n
                          else bif decide (k = np) then (R (0 + (L (o + i.toNat)).r.toNat)).n else (P k).n),
                      Value.int IntKind.i64
                        (bif decide (k = 0 + (w64 (((np + 1 : Nat) : Int) - (1 : Int))).toNat) then
                          bif
                              decide
                                (0 + (w64 (((np + 1 : Nat) : Int) - (1 : Int))).toNat =
                                  0 + (w64 (((np + 1 : Nat) : Int) - (1 : Int))).toNat) then
                            bif decide (0 + (w64 (((np + 1 : Nat) : Int) - (1 : Int))).toNat = np) then x
                            else (P (0 + (w64 (((np + 1 : Nat) : Int) - (1 : Int))).toNat)).x
                          else
                            bif decide (0 + (w64 (((np + 1 : Nat) : Int) - (1 : Int))).toNat = np) then x
                            else (P (0 + (w64 (((np + 1 : Nat) : Int) - (1 : Int))).toNat)).x
                        else
                          bif decide (k = 0 + (w64 (((np + 1 : Nat) : Int) - (1 : Int))).toNat) then
                            bif decide (0 + (w64 (((np + 1 : Nat) : Int) - (1 : Int))).toNat = np) then x
                            else (P (0 + (w64 (((np + 1 : Nat) : Int) - (1 : Int))).toNat)).x
                          else bif decide (k = np) then x else (P k).x),
                      Value.int IntKind.i64
                        (bif decide (k = 0 + (w64 (((np + 1 : Nat) : Int) - (1 : Int))).toNat) then
                          bif
                              decide
                                (0 + (w64 (((np + 1 : Nat) : Int) - (1 : Int))).toNat =
                                  0 + (w64 (((np + 1 : Nat) : Int) - (1 : Int))).toNat) then
                            bif decide (0 + (w64 (((np + 1 : Nat) : Int) - (1 : Int))).toNat = np) then
                              w64 (w64 (y + up) - upL (hd (R (0 + (L (o + i.toNat)).r.toNat)).l))
                            else (P (0 + (w64 (((np + 1 : Nat) : Int) - (1 : Int))).toNat)).y
                          else
                            bif decide (0 + (w64 (((np + 1 : Nat) : Int) - (1 : Int))).toNat = np) then
                              w64 (w64 (y + up) - upL (hd (R (0 + (L (o + i.toNat)).r.toNat)).l))
                            else (P (0 + (w64 (((np + 1 : Nat) : Int) - (1 : Int))).toNat)).y
                        else
                          bif decide (k = 0 + (w64 (((np + 1 : Nat) : Int) - (1 : Int))).toNat) then
                            bif decide (0 + (w64 (((np + 1 : Nat) : Int) - (1 : Int))).toNat = np) then
                              w64 (w64 (y + up) - upL (hd (R (0 + (L (o + i.toNat)).r.toNat)).l))
                            else (P (0 + (w64 (((np + 1 : Nat) : Int) - (1 : Int))).toNat)).y
                          else
                            bif decide (k = np) then
                              w64 (w64 (y + up) - upL (hd (R (0 + (L (o + i.toNat)).r.toNat)).l))
                            else (P k).y),
                      Value.int IntKind.i64
                        (bif decide (k = 0 + (w64 (((np + 1 : Nat) : Int) - (1 : Int))).toNat) then
                          w64
                            ((bif
                                  decide
                                    (0 + (w64 (((np + 1 : Nat) : Int) - (1 : Int))).toNat =
                                      0 + (w64 (((np + 1 : Nat) : Int) - (1 : Int))).toNat) then
                                bif decide (0 + (w64 (((np + 1 : Nat) : Int) - (1 : Int))).toNat = np) then (0 : Int)
                                else (P (0 + (w64 (((np + 1 : Nat) : Int) - (1 : Int))).toNat)).w
                              else
                                bif decide (0 + (w64 (((np + 1 : Nat) : Int) - (1 : Int))).toNat = np) then (0 : Int)
                                else (P (0 + (w64 (((np + 1 : Nat) : Int) - (1 : Int))).toNat)).w) +
                              (L (o + i.toNat)).w)
                        else
                          bif decide (k = 0 + (w64 (((np + 1 : Nat) : Int) - (1 : Int))).toNat) then
                            bif decide (0 + (w64 (((np + 1 : Nat) : Int) - (1 : Int))).toNat = np) then (0 : Int)
                            else (P (0 + (w64 (((np + 1 : Nat) : Int) - (1 : Int))).toNat)).w
                          else bif decide (k = np) then (0 : Int) else (P k).w),
                      Value.int IntKind.i64
                        (bif decide (k = 0 + (w64 (((np + 1 : Nat) : Int) - (1 : Int))).toNat) then
                          bif
                              decide
                                (0 + (w64 (((np + 1 : Nat) : Int) - (1 : Int))).toNat =
                                  0 + (w64 (((np + 1 : Nat) : Int) - (1 : Int))).toNat) then
                            bif decide (0 + (w64 (((np + 1 : Nat) : Int) - (1 : Int))).toNat = np) then
                              hd (R (0 + (L (o + i.toNat)).r.toNat)).l
                            else (P (0 + (w64 (((np + 1 : Nat) : Int) - (1 : Int))).toNat)).h
                          else
                            bif decide (0 + (w64 (((np + 1 : Nat) : Int) - (1 : Int))).toNat = np) then
                              hd (R (0 + (L (o + i.toNat)).r.toNat)).l
                            else (P (0 + (w64 (((np + 1 : Nat) : Int) - (1 : Int))).toNat)).h
                        else
                          bif decide (k = 0 + (w64 (((np + 1 : Nat) : Int) - (1 : Int))).toNat) then
                            bif decide (0 + (w64 (((np + 1 : Nat) : Int) - (1 : Int))).toNat = np) then
                              hd (R (0 + (L (o + i.toNat)).r.toNat)).l
                            else (P (0 + (w64 (((np + 1 : Nat) : Int) - (1 : Int))).toNat)).h
                          else bif decide (k = np) then hd (R (0 + (L (o + i.toNat)).r.toNat)).l else (P k).h),
                      Value.int IntKind.i64
                        (bif decide (k = 0 + (w64 (((np + 1 : Nat) : Int) - (1 : Int))).toNat) then
                          bif
                              decide
                                (0 + (w64 (((np + 1 : Nat) : Int) - (1 : Int))).toNat =
                                  0 + (w64 (((np + 1 : Nat) : Int) - (1 : Int))).toNat) then
                            bif decide (0 + (w64 (((np + 1 : Nat) : Int) - (1 : Int))).toNat = np) then
                              (L (o + i.toNat)).a
                            else (P (0 + (w64 (((np + 1 : Nat) : Int) - (1 : Int))).toNat)).f
                          else
                            bif decide (0 + (w64 (((np + 1 : Nat) : Int) - (1 : Int))).toNat = np) then
                              (L (o + i.toNat)).a
                            else (P (0 + (w64 (((np + 1 : Nat) : Int) - (1 : Int))).toNat)).f
                        else
                          bif decide (k = 0 + (w64 (((np + 1 : Nat) : Int) - (1 : Int))).toNat) then
                            bif decide (0 + (w64 (((np + 1 : Nat) : Int) - (1 : Int))).toNat = np) then
                              (L (o + i.toNat)).a
                            else (P (0 + (w64 (((np + 1 : Nat) : Int) - (1 : Int))).toNat)).f
                          else bif decide (k = np) then (L (o + i.toNat)).a else (P k).f),
                      Value.int IntKind.i64
                        (bif decide (k = 0 + (w64 (((np + 1 : Nat) : Int) - (1 : Int))).toNat) then
                          bif
                              decide
                                (0 + (w64 (((np + 1 : Nat) : Int) - (1 : Int))).toNat =
                                  0 + (w64 (((np + 1 : Nat) : Int) - (1 : Int))).toNat) then
                            w64 ((L (o + i.toNat)).a + (1 : Int))
                          else
                            bif decide (0 + (w64 (((np + 1 : Nat) : Int) - (1 : Int))).toNat = np) then (0 : Int)
                            else (P (0 + (w64 (((np + 1 : Nat) : Int) - (1 : Int))).toNat)).t
                        else
                          bif decide (k = 0 + (w64 (((np + 1 : Nat) : Int) - (1 : Int))).toNat) then
                            w64 ((L (o + i.toNat)).a + (1 : Int))
                          else bif decide (k = np) then (0 : Int) else (P k).t),
                      Value.int IntKind.i64
                        (bif decide (k = 0 + (w64 (((np + 1 : Nat) : Int) - (1 : Int))).toNat) then
                          bif
                              decide
                                (0 + (w64 (((np + 1 : Nat) : Int) - (1 : Int))).toNat =
                                  0 + (w64 (((np + 1 : Nat) : Int) - (1 : Int))).toNat) then
                            bif decide (0 + (w64 (((np + 1 : Nat) : Int) - (1 : Int))).toNat = np) then nn
                            else (P (0 + (w64 (((np + 1 : Nat) : Int) - (1 : Int))).toNat)).l
                          else
                            bif decide (0 + (w64 (((np + 1 : Nat) : Int) - (1 : Int))).toNat = np) then nn
                            else (P (0 + (w64 (((np + 1 : Nat) : Int) - (1 : Int))).toNat)).l
                        else
                          bif decide (k = 0 + (w64 (((np + 1 : Nat) : Int) - (1 : Int))).toNat) then
                            bif decide (0 + (w64 (((np + 1 : Nat) : Int) - (1 : Int))).toNat = np) then nn
                            else (P (0 + (w64 (((np + 1 : Nat) : Int) - (1 : Int))).toNat)).l
                          else bif decide (k = np) then nn else (P k).l)] }] }) := by kernel_rfl
theorem lp2_x {own : Bool} {k n : Nat} {R : Nat → Rn} {own2 : Bool} {o c m : Nat} {L : Nat → Gl} {x y nn up dn : Int} {np : Nat} {P : Nat → Pc} {i : Int} : (rT lpG nol 2 51 (bodyOf Try.f134 1) lp2K lp2K (lp2S own k n R own2 o c m L x y nn up dn np P i)).go [true, true, true, true, true, true, true, false, false, false, false, true, true, false, false, true, false, false, false, false, false] =
  some
    ([decide (i < ((c : Nat) : Int)), decide ((0 : Int) ≤ i), decide (i < ((c : Nat) : Int)), decide (o + i.toNat < m),
        decide ((0 : Int) ≤ (L (o + i.toNat)).r), decide ((L (o + i.toNat)).r < ((k : Nat) : Int)),
        decide (0 + (L (o + i.toNat)).r.toNat < n), !i == (0 : Int), true, true, true,
        decide ((0 : Int) ≤ w64 (i - (1 : Int))), decide (w64 (i - (1 : Int)) < ((c : Nat) : Int)), true, true,
        decide (o + (w64 (i - (1 : Int))).toNat < m), true, true, true, true,
        !(L (o + (w64 (i - (1 : Int))).toNat)).r != (L (o + i.toNat)).r, decide ((0 : Int) ≤ w64 (((np : Nat) : Int) - (1 : Int))),
        decide (w64 (((np : Nat) : Int) - (1 : Int)) < ((np : Nat) : Int)), decide (0 + (w64 (((np : Nat) : Int) - (1 : Int))).toNat < np),
        decide (0 + (w64 (((np : Nat) : Int) - (1 : Int))).toNat < np),
        decide (0 + (w64 (((np : Nat) : Int) - (1 : Int))).toNat < np)],
      Ex.normal,
      {
        sl :=
          slots 131
            [(0, AV.c (AC.sl 0 0 k)), (1, AV.c (AC.sl 1 o c)),
              (3, I64 (w64 (x + (L (o + i.toNat)).w))), (4, I64 y), (5, I64 nn),
              (14, I64 up), (15, I64 dn), (19, AV.c (AC.sl 2 0 np)),
              (54, AV.c (AC.sl 1 o c)), (55, I64 ((c : Nat) : Int)), (56, I64 (w64 (i + (1 : Int))))],
        h :=
          [some
              { t := 83, own := own,
                c :=
                  Cont.row 4 n fun j =>
                    [Value.int IntKind.i64 (R j).n, Value.string (R j).s, Value.int IntKind.i64 (R j).v,
                      Value.int IntKind.i64 (R j).l] },
            some
              { t := 87, own := own2,
                c :=
                  Cont.row 4 m fun j =>
                    [Value.int IntKind.i64 (L j).k, Value.int IntKind.i64 (L j).r, Value.int IntKind.i64 (L j).a,
                      Value.int IntKind.i64 (L j).w] },
            some
              { t := 112, own := true,
                c :=
                  Cont.row 8 np fun k =>
                    [Value.int IntKind.i64
                        (bif decide (k = 0 + (w64 (((np : Nat) : Int) - (1 : Int))).toNat) then
                          bif
                              decide
                                (0 + (w64 (((np : Nat) : Int) - (1 : Int))).toNat =
                                  0 + (w64 (((np : Nat) : Int) - (1 : Int))).toNat) then
                            (P (0 + (w64 (((np : Nat) : Int) - (1 : Int))).toNat)).n
                          else (P (0 + (w64 (((np : Nat) : Int) - (1 : Int))).toNat)).n
                        else
                          bif decide (k = 0 + (w64 (((np : Nat) : Int) - (1 : Int))).toNat) then
                            (P (0 + (w64 (((np : Nat) : Int) - (1 : Int))).toNat)).n
                          else (P k).n),
                      Value.int IntKind.i64
                        (bif decide (k = 0 + (w64 (((np : Nat) : Int) - (1 : Int))).toNat) then
                          bif
                              decide
                                (0 + (w64 (((np : Nat) : Int) - (1 : Int))).toNat =
                                  0 + (w64 (((np : Nat) : Int) - (1 : Int))).toNat) then
                            (P (0 + (w64 (((np : Nat) : Int) - (1 : Int))).toNat)).x
                          else (P (0 + (w64 (((np : Nat) : Int) - (1 : Int))).toNat)).x
                        else
                          bif decide (k = 0 + (w64 (((np : Nat) : Int) - (1 : Int))).toNat) then
                            (P (0 + (w64 (((np : Nat) : Int) - (1 : Int))).toNat)).x
                          else (P k).x),
                      Value.int IntKind.i64
                        (bif decide (k = 0 + (w64 (((np : Nat) : Int) - (1 : Int))).toNat) then
                          bif
                              decide
                                (0 + (w64 (((np : Nat) : Int) - (1 : Int))).toNat =
                                  0 + (w64 (((np : Nat) : Int) - (1 : Int))).toNat) then
                            (P (0 + (w64 (((np : Nat) : Int) - (1 : Int))).toNat)).y
                          else (P (0 + (w64 (((np : Nat) : Int) - (1 : Int))).toNat)).y
                        else
                          bif decide (k = 0 + (w64 (((np : Nat) : Int) - (1 : Int))).toNat) then
                            (P (0 + (w64 (((np : Nat) : Int) - (1 : Int))).toNat)).y
                          else (P k).y),
                      Value.int IntKind.i64
                        (bif decide (k = 0 + (w64 (((np : Nat) : Int) - (1 : Int))).toNat) then
                          w64
                            ((bif
                                  decide
                                    (0 + (w64 (((np : Nat) : Int) - (1 : Int))).toNat =
                                      0 + (w64 (((np : Nat) : Int) - (1 : Int))).toNat) then
                                (P (0 + (w64 (((np : Nat) : Int) - (1 : Int))).toNat)).w
                              else (P (0 + (w64 (((np : Nat) : Int) - (1 : Int))).toNat)).w) +
                              (L (o + i.toNat)).w)
                        else
                          bif decide (k = 0 + (w64 (((np : Nat) : Int) - (1 : Int))).toNat) then
                            (P (0 + (w64 (((np : Nat) : Int) - (1 : Int))).toNat)).w
                          else (P k).w),
                      Value.int IntKind.i64
                        (bif decide (k = 0 + (w64 (((np : Nat) : Int) - (1 : Int))).toNat) then
                          bif
                              decide
                                (0 + (w64 (((np : Nat) : Int) - (1 : Int))).toNat =
                                  0 + (w64 (((np : Nat) : Int) - (1 : Int))).toNat) then
                            (P (0 + (w64 (((np : Nat) : Int) - (1 : Int))).toNat)).h
                          else (P (0 + (w64 (((np : Nat) : Int) - (1 : Int))).toNat)).h
                        else
                          bif decide (k = 0 + (w64 (((np : Nat) : Int) - (1 : Int))).toNat) then
                            (P (0 + (w64 (((np : Nat) : Int) - (1 : Int))).toNat)).h
                          else (P k).h),
                      Value.int IntKind.i64
                        (bif decide (k = 0 + (w64 (((np : Nat) : Int) - (1 : Int))).toNat) then
                          bif
                              decide
                                (0 + (w64 (((np : Nat) : Int) - (1 : Int))).toNat =
                                  0 + (w64 (((np : Nat) : Int) - (1 : Int))).toNat) then
                            (P (0 + (w64 (((np : Nat) : Int) - (1 : Int))).toNat)).f
                          else (P (0 + (w64 (((np : Nat) : Int) - (1 : Int))).toNat)).f
                        else
                          bif decide (k = 0 + (w64 (((np : Nat) : Int) - (1 : Int))).toNat) then
                            (P (0 + (w64 (((np : Nat) : Int) - (1 : Int))).toNat)).f
                          else (P k).f),
                      Value.int IntKind.i64
                        (bif decide (k = 0 + (w64 (((np : Nat) : Int) - (1 : Int))).toNat) then
                          bif
                              decide
                                (0 + (w64 (((np : Nat) : Int) - (1 : Int))).toNat =
                                  0 + (w64 (((np : Nat) : Int) - (1 : Int))).toNat) then
                            w64 ((L (o + i.toNat)).a + (1 : Int))
                          else (P (0 + (w64 (((np : Nat) : Int) - (1 : Int))).toNat)).t
                        else
                          bif decide (k = 0 + (w64 (((np : Nat) : Int) - (1 : Int))).toNat) then
                            w64 ((L (o + i.toNat)).a + (1 : Int))
                          else (P k).t),
                      Value.int IntKind.i64
                        (bif decide (k = 0 + (w64 (((np : Nat) : Int) - (1 : Int))).toNat) then
                          bif
                              decide
                                (0 + (w64 (((np : Nat) : Int) - (1 : Int))).toNat =
                                  0 + (w64 (((np : Nat) : Int) - (1 : Int))).toNat) then
                            (P (0 + (w64 (((np : Nat) : Int) - (1 : Int))).toNat)).l
                          else (P (0 + (w64 (((np : Nat) : Int) - (1 : Int))).toNat)).l
                        else
                          bif decide (k = 0 + (w64 (((np : Nat) : Int) - (1 : Int))).toNat) then
                            (P (0 + (w64 (((np : Nat) : Int) - (1 : Int))).toNat)).l
                          else (P k).l)] }] }) := by kernel_rfl
theorem lp2_e {own : Bool} {k n : Nat} {R : Nat → Rn} {own2 : Bool} {o c m : Nat} {L : Nat → Gl} {x y nn up dn : Int} {np : Nat} {P : Nat → Pc} {i : Int} : (rT lpG nol 2 51 (bodyOf Try.f134 1) lp2K lp2K (lp2S own k n R own2 o c m L x y nn up dn np P i)).go [false] =
  some
    ([!decide (i < ((c : Nat) : Int))], Ex.exit 2,
      {
        sl :=
          slots 131
            [(0, AV.c (AC.sl 0 0 k)), (1, AV.c (AC.sl 1 o c)),
              (3, I64 x), (4, I64 y), (5, I64 nn), (14, I64 up), (15, I64 dn),
              (19, AV.c (AC.sl 2 0 np)), (54, AV.c (AC.sl 1 o c)),
              (55, I64 ((c : Nat) : Int)), (56, I64 i)],
        h :=
          [some
              { t := 83, own := own,
                c :=
                  Cont.row 4 n fun j =>
                    [Value.int IntKind.i64 (R j).n, Value.string (R j).s, Value.int IntKind.i64 (R j).v,
                      Value.int IntKind.i64 (R j).l] },
            some
              { t := 87, own := own2,
                c :=
                  Cont.row 4 m fun j =>
                    [Value.int IntKind.i64 (L j).k, Value.int IntKind.i64 (L j).r, Value.int IntKind.i64 (L j).a,
                      Value.int IntKind.i64 (L j).w] },
            some
              { t := 112, own := true,
                c :=
                  Cont.row 8 np fun j =>
                    [Value.int IntKind.i64 (P j).n, Value.int IntKind.i64 (P j).x, Value.int IntKind.i64 (P j).y,
                      Value.int IntKind.i64 (P j).w, Value.int IntKind.i64 (P j).h, Value.int IntKind.i64 (P j).f,
                      Value.int IntKind.i64 (P j).t, Value.int IntKind.i64 (P j).l] }] }) := by kernel_rfl
noncomputable def lpV (own : Bool) (k n : Nat) (R : Nat → Rn) (own2 : Bool) (o c m : Nat) (L : Nat → Gl) (s x y nn up dn z x' z' : Int) (np : Nat) (P : Nat → Pc) : Loops :=
  byReg 4 (tell (bodyOf Try.f134 0) (lp1S own k n R own2 o c m L x y nn (upL s) (w64 (s - upL s)) 0) (.exit 0, lp1S own k n R own2 o c m L x y nn up dn z))
    (tell (bodyOf Try.f134 1) (lp2S own k n R own2 o c m L x y nn up dn 0 (fun _ => zPc) 0) (.exit 2, lp2S own k n R own2 o c m L x' y nn up dn np P z'))
theorem lp_w {own : Bool} {k n : Nat} {R : Nat → Rn} {own2 : Bool} {o c m : Nat} {L : Nat → Gl} {s x y nn up dn z x' z' : Int} {np : Nat} {P : Nat → Pc} : (lfun lpG (lpV own k n R own2 o c m L s x y nn up dn z x' z' np P) 60 Try.f134 [.c (.sl 0 0 k), .c (.sl 1 o c), I64 s, I64 x, I64 y, I64 nn] [rowRn own n R, rowGo own2 m L]).go [] =
  some
    ([yes ((0 : Int) ≤ s ∧ s ≤ (4611686018427387904 : Int)), yes (wasS (bodyOf Try.f134 0) (lp1S own k n R own2 o c m L x y nn (upL s) (w64 (s - upL s)) 0)), yes (wasS (bodyOf Try.f134 1) (lp2S own k n R own2 o c m L x y nn up dn 0 (fun _ => zPc) 0))],
      AV.tup [AV.c (AC.sl 2 0 np), I64 (w64 (up + dn))],
      [some
          { t := 83, own := own,
            c :=
              Cont.row 4 n fun j =>
                [Value.int IntKind.i64 (R j).n, Value.string (R j).s, Value.int IntKind.i64 (R j).v,
                  Value.int IntKind.i64 (R j).l] },
        some
          { t := 87, own := own2,
            c :=
              Cont.row 4 m fun j =>
                [Value.int IntKind.i64 (L j).k, Value.int IntKind.i64 (L j).r, Value.int IntKind.i64 (L j).a,
                  Value.int IntKind.i64 (L j).w] },
        some
          { t := 112, own := true,
            c :=
              Cont.row 8 np fun j =>
                [Value.int IntKind.i64 (P j).n, Value.int IntKind.i64 (P j).x, Value.int IntKind.i64 (P j).y,
                  Value.int IntKind.i64 (P j).w, Value.int IntKind.i64 (P j).h, Value.int IntKind.i64 (P j).f,
                  Value.int IntKind.i64 (P j).t, Value.int IntKind.i64 (P j).l] }]) := by kernel_rfl
end Go.Proofs.Ytcpahifgdppkbaa.QAI
end
section
/- Lines that are placed: what a line's walk comes to. -/
set_option linter.unusedVariables false
set_option linter.unusedSimpArgs false
namespace Go.Proofs.Ytcpahifgdppkbaa.QAI
open Go Go.RowKit
set_option maxRecDepth 100000
theorem pcAt_app (l : List Pc) (p : Pc) (q : Nat) : pcAt (l ++ [p]) q = bif decide (q = l.length) then p else pcAt l q := by
  unfold pcAt
  simp only [List.getD_eq_getElem?_getD]
  rcases Nat.lt_trichotomy q l.length with h | h | h
  · rw [List.getElem?_append_left h, decide_eq_false (by omega)]; rfl
  · subst h; simp
  · rw [List.getElem?_eq_none (by simp; omega), List.getElem?_eq_none (by omega), decide_eq_false (by omega)]; rfl
theorem pcAt_last (f : Pc → Pc) (l : List Pc) (h : 0 < l.length) (q : Nat) : pcAt (mapLast f l) q = bif decide (q = l.length - 1) then f (pcAt l q) else pcAt l q := by
  obtain ⟨k, x, rfl⟩ := snoc h
  rw [mapLast_app, pcAt_app, pcAt_app]
  simp only [List.length_append, List.length_singleton, Nat.add_sub_cancel]
  cases decide (q = k.length) <;> rfl
def LnOk (k n : Nat) (R : Nat → Rn) (o c m : Nat) (L : Nat → Gl) (s x y : Int) : Prop :=
  k ≤ n ∧ o + c ≤ m ∧ m < 2 ^ 30 ∧ (0 ≤ s ∧ s ≤ 1073741824) ∧ (0 ≤ x ∧ x ≤ 1152921504606846976) ∧ (0 ≤ y ∧ y ≤ 2305843009213693952) ∧ WOk L ∧
  ∀ j, j < c → 0 ≤ (L (o + j)).r ∧ (L (o + j)).r < k ∧ 0 ≤ (L (o + j)).a ∧ (L (o + j)).a < 1099511627776
section
variable {own : Bool} {k n : Nat} {R : Nat → Rn} {own2 : Bool} {o c m : Nat} {L : Nat → Gl} {s x y nn : Int}
theorem lp1_loop (h : LnOk k n R o c m L s x y) :
    CodeSem lpG 2 (.loop (bodyOf Try.f134 0)) (lp1S own k n R own2 o c m L x y nn (upL s) (w64 (s - upL s)) 0) (.exit 0, lp1S own k n R own2 o c m L x y nn (udN R L s o c).1 (udN R L s o c).2 c) := by
  obtain ⟨h1, h2, h3, ⟨s1, s2⟩, hx, hy, hL, hj⟩ := h
  have e0 : w64 (s - upL s) = s - upL s := by have := upL_b s1; rw [w64_id (by omega) (by omega)]
  rw [e0]
  refine loop_of (fun j => lp1S own k n R own2 o c m L x y nn (udN R L s o j).1 (udN R L s o j).2 j) c (by simp) ?_ fun j hjc => ?_
  · exact rT_sem lpG_ok noLoopsS (rT_go lp1_e ⟨by simp, trivial⟩)
  · have e3 := succ64 (j := j) (by omega)
    obtain ⟨r1, r2, a1, a2⟩ := hj j hjc
    have hb := hd_b (R (L (o + j)).r.toNat).l
    have hu := upL_b hb.1
    have e4 : w64 (hd (R (L (o + j)).r.toNat).l - upL (hd (R (L (o + j)).r.toNat).l)) = hd (R (L (o + j)).r.toNat).l - upL (hd (R (L (o + j)).r.toNat).l) := w64_id (by omega) (by omega)
    refine rT_sem lpG_ok noLoopsS ((rT_go lp1_go ?_).trans ?_)
    · try simp only [Int.toNat_natCast, Nat.zero_add, e3, e4]
      repeat' (first | exact AllT.nil | refine AllT.cons ?_ ?_)
      all_goals first | (with_reducible rfl) | (with_reducible assumption) | exact yes_of ⟨by omega, by omega⟩ | exact yes_of ⟨rfl, rfl⟩ | exact decide_eq_true (by omega) | exact beq_iff_eq.2 (by omega) | (simp; done) | (simp; omega)
    · try simp only [Int.toNat_natCast, Nat.zero_add, e3, e4]
      rfl
def lp2M (own : Bool) (k n : Nat) (R : Nat → Rn) (own2 : Bool) (o c m : Nat) (L : Nat → Gl) (x y nn up dn : Int) (np : Nat) (f : Nat → List Value) (i : Int) : St :=
  ⟨slots 131 [(0, .c (.sl 0 0 k)), (1, .c (.sl 1 o c)), (3, I64 x), (4, I64 y), (5, I64 nn), (14, I64 up), (15, I64 dn), (19, .c (.sl 2 0 np)), (54, .c (.sl 1 o c)), (55, I64 c), (56, I64 i)], [rowRn own n R, rowGo own2 m L, some ⟨112, true, .row 8 np f⟩]⟩
theorem lp2_loop (h : LnOk k n R o c m L s x y) {up dn : Int} (hup : 0 ≤ up ∧ up ≤ 1073741824) :
    CodeSem lpG 2 (.loop (bodyOf Try.f134 1)) (lp2S own k n R own2 o c m L x y nn up dn 0 (fun _ => zPc) 0)
      (.exit 2, lp2S own k n R own2 o c m L (x + sw L o c) y nn up dn (pcs R L o x (y + up) nn c).length (pcAt (pcs R L o x (y + up) nn c)) c) := by
  obtain ⟨h1, h2, h3, hs, hx, hy, hL, hj⟩ := h
  have e0 : x + sw L o 0 = x := by simp [sw]
  have key := loop_of (G := lpG) (n0 := 2) (b := bodyOf Try.f134 1) (fun j => lp2S own k n R own2 o c m L (x + sw L o j) y nn up dn (pcs R L o x (y + up) nn j).length (pcAt (pcs R L o x (y + up) nn j)) j) c (e := .exit 2) (Se := lp2S own k n R own2 o c m L (x + sw L o c) y nn up dn (pcs R L o x (y + up) nn c).length (pcAt (pcs R L o x (y + up) nn c)) c) (by simp) ?_ fun j hjc => ?_
  · rw [e0] at key
    exact key
  · exact rT_sem lpG_ok noLoopsS (rT_go lp2_e ⟨by simp, trivial⟩)
  · have e3 := succ64 (j := j) (by omega)
    obtain ⟨r1, r2, a1, a2⟩ := hj j hjc
    have hb := hd_b (R (L (o + j)).r.toNat).l
    have hu := upL_b hb.1
    have hsw := sw_b hL o j
    have hwj := hL (o + j)
    have hlen := (gps_ok L o j).len
    have hpl := pcs_len R L o x (y + up) nn j
    have e4 : w64 (x + sw L o j + (L (o + j)).w) = x + sw L o (j + 1) := by rw [w64_id (by omega) (by omega)]; simp only [sw]; omega
    have e5 : w64 (y + up) = y + up := w64_id (by omega) (by omega)
    have e6 : w64 (y + up - upL (hd (R (L (o + j)).r.toNat).l)) = y + up - upL (hd (R (L (o + j)).r.toNat).l) := w64_id (by omega) (by omega)
    have e7 : w64 ((L (o + j)).a + 1) = (L (o + j)).a + 1 := w64_id (by omega) (by omega)
    have e8 : w64 (0 + (L (o + j)).w) = (L (o + j)).w := by rw [Int.zero_add, w64_id (by omega) (by omega)]
    cases hn : newAt L o j
    · -- the run goes on
      have hjn : j ≠ 0 := by simp only [newAt, Bool.or_eq_false_iff, decide_eq_false_iff_not] at hn; exact hn.1
      have hr : (L (o + j - 1)).r = (L (o + j)).r := by simp only [newAt, Bool.or_eq_false_iff, Bool.not_eq_false', beq_iff_eq] at hn; exact hn.2
      have hne : 0 < (pcs R L o x (y + up) nn j).length := by rw [hpl]; exact (gps_ok L o j).ne (by omega)
      rw [pcs_ext hn, mapLast_len]
      have hP := pcAt_last (extP (L (o + j))) _ hne
      have hwl : ∀ q, q = (pcs R L o x (y + up) nn j).length - 1 → 0 ≤ (pcAt (pcs R L o x (y + up) nn j) q).w ∧ (pcAt (pcs R L o x (y + up) nn j) q).w ≤ 1048576 * j := by
        intro q hq
        obtain ⟨l, ab, hab⟩ := snoc (show 0 < (gps L o j).length by rw [← hpl]; exact hne)
        have ok := gps_ok L o j
        have hl : q = l.length := by rw [hq, hpl, hab]; simp
        have e : pcs R L o x (y + up) nn j = l.map (pcOf R L o x (y + up) nn) ++ [pcOf R L o x (y + up) nn ab] := by unfold pcs; rw [hab, List.map_append]; rfl
        rw [e, pcAt_app, hl, decide_eq_true (by simp)]
        rw [hab] at ok
        have o1 := ok.lo l.length (by simp)
        have o2 := ok.hi' l.length (by simp)
        rw [gAt_eq rfl] at o1 o2
        have := sw_b hL ab.1 (ab.2 - ab.1)
        simp only [cond_true, pcOf]
        omega
      generalize pcs R L o x (y + up) nn j = l at hne hP hwl hlen hpl ⊢
      have i1 : w64 ((j : Int) - 1) = ((j - 1 : Nat) : Int) := by rw [w64_id (by omega) (by omega)]; omega
      have i2 : o + (j - 1) = o + j - 1 := by omega
      have i3 : w64 ((l.length : Int) - 1) = ((l.length - 1 : Nat) : Int) := by rw [w64_id (by omega) (by omega)]; omega
      have hwq := hwl (l.length - 1) rfl
      have e9 : w64 ((pcAt l (l.length - 1)).w + (L (o + j)).w) = (pcAt l (l.length - 1)).w + (L (o + j)).w := w64_id (by omega) (by omega)
      have hb1 : ((j : Int) == 0) = false := by simpa using hjn
      have hb2 : (!((j : Int) == 0)) = true := by rw [hb1]; rfl
      have hb3 : (!((L (o + j - 1)).r != (L (o + j)).r)) = true := by rw [hr]; simp
      have dd : decide (l.length - 1 = l.length - 1) = true := decide_eq_true rfl
      refine rT_sem lpG_ok noLoopsS ((rT_go lp2_x ?_).trans ?_)
      · try simp only [Int.toNat_natCast, Nat.zero_add, e3, e4, e7, e9, i1, i2, i3, dd, cond_true]
        repeat' (first | exact AllT.nil | refine AllT.cons ?_ ?_)
        all_goals first | (with_reducible rfl) | (with_reducible assumption) | exact yes_of ⟨rfl, rfl⟩ | exact decide_eq_true (by omega) | exact beq_iff_eq.2 (by omega) | (simp; done) | (simp; omega)
      · try simp only [Int.toNat_natCast, Nat.zero_add, e3, e4, e7, e9, i1, i2, i3, dd, cond_true]
        refine congrArg (fun f => some (Ex.normal, lp2M own k n R own2 o c m L (x + sw L o (j + 1)) y nn up dn l.length f ((j + 1 : Nat) : Int))) (funext fun q => ?_)
        rw [hP q]
        by_cases hq : q = l.length - 1
        · subst hq
          simp only [decide_true, cond_true, extP, encC, e9]
          try rfl
        · simp only [decide_eq_false hq, cond_false, encC]
          try rfl
    · rw [pcs_new hn]
      simp only [List.length_append, List.length_singleton]
      have hP := pcAt_app (pcs R L o x (y + up) nn j) ⟨(R (L (o + j)).r.toNat).n, x + sw L o j, y + up - upL (hR R (L (o + j))), (L (o + j)).w, hR R (L (o + j)), (L (o + j)).a, (L (o + j)).a + 1, nn⟩
      generalize pcs R L o x (y + up) nn j = l at hP hlen hpl ⊢
      have i3 : w64 (((l.length + 1 : Nat) : Int) - 1) = (l.length : Int) := by rw [w64_id (by omega) (by omega)]; omega
      have dd : decide (l.length = l.length) = true := decide_eq_true rfl
      have hcell : decide ((l.length + 1) * 64 ≤ maxCells) = true := decide_eq_true (by unfold maxCells; omega)
      by_cases hj0 : j = 0
      · have hb1 : ((j : Int) == 0) = true := by simpa using hj0
        refine rT_sem lpG_ok noLoopsS ((rT_go lp2_n0 ?_).trans ?_)
        · try simp only [Int.toNat_natCast, Nat.zero_add, e3, e4, e5, e6, e7, e8, i3, dd, cond_true]
          repeat' (first | exact AllT.nil | refine AllT.cons ?_ ?_)
          all_goals first | (with_reducible rfl) | (with_reducible assumption) | exact yes_of ⟨by omega, by omega⟩ | exact yes_of ⟨rfl, rfl⟩ | exact decide_eq_true (by omega) | exact beq_iff_eq.2 (by omega) | (simp; done) | (simp; omega)
        · try simp only [Int.toNat_natCast, Nat.zero_add, e3, e4, e5, e6, e7, e8, i3, dd, cond_true]
          refine congrArg (fun f => some (Ex.normal, lp2M own k n R own2 o c m L (x + sw L o (j + 1)) y nn up dn (l.length + 1) f ((j + 1 : Nat) : Int))) (funext fun q => ?_)
          rw [hP q]
          by_cases hq : q = l.length
          · subst hq
            simp only [decide_true, cond_true, encC, e8]
            try rfl
          · simp only [decide_eq_false hq, cond_false, encC]
            try rfl
      · have i1 : w64 ((j : Int) - 1) = ((j - 1 : Nat) : Int) := by rw [w64_id (by omega) (by omega)]; omega
        have i2 : o + (j - 1) = o + j - 1 := by omega
        have hb1 : ((j : Int) == 0) = false := by simpa using hj0
        have hb2 : (!((j : Int) == 0)) = true := by rw [hb1]; rfl
        have hr : ((L (o + j - 1)).r != (L (o + j)).r) = true := by
          simp only [newAt, hj0, decide_false, Bool.false_or] at hn
          exact hn
        refine rT_sem lpG_ok noLoopsS ((rT_go lp2_n1 ?_).trans ?_)
        · try simp only [Int.toNat_natCast, Nat.zero_add, e3, e4, e5, e6, e7, e8, i1, i2, i3, dd, cond_true]
          repeat' (first | exact AllT.nil | refine AllT.cons ?_ ?_)
          all_goals first | (with_reducible rfl) | (with_reducible assumption) | exact yes_of ⟨by omega, by omega⟩ | exact yes_of ⟨rfl, rfl⟩ | exact decide_eq_true (by omega) | exact beq_iff_eq.2 (by omega) | (simp; done) | (simp; omega)
        · try simp only [Int.toNat_natCast, Nat.zero_add, e3, e4, e5, e6, e7, e8, i1, i2, i3, dd, cond_true]
          refine congrArg (fun f => some (Ex.normal, lp2M own k n R own2 o c m L (x + sw L o (j + 1)) y nn up dn (l.length + 1) f ((j + 1 : Nat) : Int))) (funext fun q => ?_)
          rw [hP q]
          by_cases hq : q = l.length
          · subst hq
            simp only [decide_true, cond_true, encC, e8]
            try rfl
          · simp only [decide_eq_false hq, cond_false, encC]
            try rfl
end
noncomputable def lineRF : Spec := fun args h => match args, h with
  | [.c (.sl 0 0 k), .c (.sl 1 o c), .c (.v (.int .i64 s)), .c (.v (.int .i64 x)), .c (.v (.int .i64 y)), .c (.v (.int .i64 nn))], [some ⟨83, own, .row 4 n q⟩, some ⟨87, own2, .row 4 m g⟩] =>
    .need (yes (LnOk k n (fun j => decN (q j)) o c m (fun j => decG (g j)) s x y ∧ (q = fun j => encN (decN (q j))) ∧ g = fun j => encG (decG (g j))))
      (.ret (.tup [.c (.sl 2 0 (pcs (fun j => decN (q j)) (fun j => decG (g j)) o x (y + (udN (fun j => decN (q j)) (fun j => decG (g j)) s o c).1) nn c).length), I64 ((udN (fun j => decN (q j)) (fun j => decG (g j)) s o c).1 + (udN (fun j => decN (q j)) (fun j => decG (g j)) s o c).2)],
        [some ⟨83, own, .row 4 n q⟩, some ⟨87, own2, .row 4 m g⟩, rowPc (pcs (fun j => decN (q j)) (fun j => decG (g j)) o x (y + (udN (fun j => decN (q j)) (fun j => decG (g j)) s o c).1) nn c).length (pcAt (pcs (fun j => decN (q j)) (fun j => decG (g j)) o x (y + (udN (fun j => decN (q j)) (fun j => decG (g j)) s o c).1) nn c))]))
  | _, _ => .fail
theorem lineRF_ok : SpecOk Try.prog 134 lineRF := by
  refine knownS KL1_ok Try.func134 fun args h r he => ?_
  unfold lineRF at he
  split at he
  · rename_i k o c s x y nn own n q own2 m g
    obtain ⟨⟨h1, h2, h3⟩, he⟩ := Tr.eval_ask.1 he
    cases he
    have e1 : some ⟨83, own, .row 4 n q⟩ = rowRn own n fun j => decN (q j) := by rw [rowRn, ← h2]
    have e2 : some ⟨87, own2, .row 4 m g⟩ = rowGo own2 m fun j => decG (g j) := by rw [rowGo, ← h3]
    rw [e1, e2]
    generalize (fun j => decN (q j)) = R at h1 ⊢
    generalize (fun j => decG (g j)) = L at h1 ⊢
    have hs := h1.2.2.2.1
    have hu := udN_b (R := R) (L := L) (o := o) hs.1 hs.2 c
    have l1 := lp1_loop (own := own) (own2 := own2) (nn := nn) h1
    have l2 := lp2_loop (own := own) (own2 := own2) (nn := nn) h1 (up := (udN R L s o c).1) (dn := (udN R L s o c).2) ⟨hu.1, hu.2.1⟩
    have e3 : w64 ((udN R L s o c).1 + (udN R L s o c).2) = (udN R L s o c).1 + (udN R L s o c).2 := w64_id (by omega) (by omega)
    refine ⟨_, [], 60, _, byReg_sem (r := 4) (tell_ok l1) (tell_ok l2), (Tr.go_eval lp_w ?_).trans ?_⟩
    · refine ⟨yes_of ⟨hs.1, by omega⟩, yes_of ⟨rfl, rfl⟩, yes_of ⟨rfl, rfl⟩, trivial⟩
    · rw [e3]
      rfl
  · cases he
end Go.Proofs.Ytcpahifgdppkbaa.QAI
end
section
/- Lines that are placed: the walks of all lines. -/
set_option linter.unusedVariables false
set_option linter.unusedSimpArgs false
namespace Go.Proofs.Ytcpahifgdppkbaa.QAI
open Go Go.RowKit
set_option maxRecDepth 100000
noncomputable def KP1 : Known := [(82, glF), (87, linesF), (134, lineRF), (135, hdF), (136, stF)]
theorem KP1_ok : KnownOk KP1 := consK glF_ok (by kernel_rfl) (consK linesF_ok (by kernel_rfl) (consK lineRF_ok (by kernel_rfl) (consK hdF_ok (by kernel_rfl) (consK stF_ok (by kernel_rfl) nilK))))
abbrev plK : List (Nat × Option TypeId) := [(1,none),(2,none),(3,none),(4,none),(12,none),(13,some 112),(14,none),(24,none),(25,none),(26,none)]
noncomputable def plG : Ctx2 := GT KP1 (fun k => if k = 5 then plK else []) 0 []
theorem plG_ok : XOk plG := GT_ok KP1_ok _ _ _
def plS (own : Bool) (k n : Nat) (R : Nat → Rn) (A st al : Int) (ng : Nat) (L : Nat → Gl) (c : Nat) (S : Nat → Sp) (np : Nat) (P : Nat → Pc) (y i : Int) : St :=
  ⟨slots 60 [(1, .c (.sl 0 0 k)), (2, I64 A), (3, I64 st), (4, I64 al), (12, .c (.sl 1 0 ng)), (13, .c (.sl 2 0 np)), (14, I64 y), (24, .c (.sl 3 0 c)), (25, I64 c), (26, I64 i)], [rowRn own n R, rowGl ng L, rowPc np P, rowSp c S]⟩
theorem pl_go {own : Bool} {k n : Nat} {R : Nat → Rn} {A st al : Int} {ng : Nat} {L : Nat → Gl} {c : Nat} {S : Nat → Sp} {np : Nat} {P : Nat → Pc} {y i : Int} : (rT plG nol 1 52 (bodyOf Try.f96 0) plK plK (plS own k n R A st al ng L c S np P y i)).go [] =
  some ([decide (i < ((c : Nat) : Int)), decide ((0 : Int) ≤ i), decide (i < ((c : Nat) : Int)), decide (0 + i.toNat < c), decInt (S (0 + i.toNat)).f (S (0 + i.toNat)).t ng, yes ((-1152921504606846976 : Int) ≤ A ∧ A ≤ (1152921504606846976 : Int) ∧ (0 : Int) ≤ (S (0 + i.toNat)).w ∧ (S (0 + i.toNat)).w ≤ (1152921504606846976 : Int)), yes (LnOk k n R (0 + (S (0 + i.toNat)).f.toNat) ((S (0 + i.toNat)).t.toNat - (S (0 + i.toNat)).f.toNat) ng L (hd st) (stA A (S (0 + i.toNat)).w al) y ∧ ((fun j => encN (R j)) = fun j => encN (decN (encN (R j)))) ∧ (fun j => encG (L j)) = fun j => encG (decG (encG (L j)))), decide (np = np), decide (0 + (pcs R L (0 + (S (0 + i.toNat)).f.toNat) (stA A (S (0 + i.toNat)).w al) (y + (udN R L (hd st) (0 + (S (0 + i.toNat)).f.toNat) ((S (0 + i.toNat)).t.toNat - (S (0 + i.toNat)).f.toNat)).fst) i ((S (0 + i.toNat)).t.toNat - (S (0 + i.toNat)).f.toNat)).length ≤ (pcs R L (0 + (S (0 + i.toNat)).f.toNat) (stA A (S (0 + i.toNat)).w al) (y + (udN R L (hd st) (0 + (S (0 + i.toNat)).f.toNat) ((S (0 + i.toNat)).t.toNat - (S (0 + i.toNat)).f.toNat)).fst) i ((S (0 + i.toNat)).t.toNat - (S (0 + i.toNat)).f.toNat)).length), decide ((np + (pcs R L (0 + (S (0 + i.toNat)).f.toNat) (stA A (S (0 + i.toNat)).w al) (y + (udN R L (hd st) (0 + (S (0 + i.toNat)).f.toNat) ((S (0 + i.toNat)).t.toNat - (S (0 + i.toNat)).f.toNat)).fst) i ((S (0 + i.toNat)).t.toNat - (S (0 + i.toNat)).f.toNat)).length) * 64 ≤ maxCells)], Ex.normal, { sl := slots 60 [(1, AV.c (AC.sl 0 0 k)), (2, I64 A), (3, I64 st), (4, I64 al), (12, AV.c (AC.sl 1 0 ng)), (13, AV.c (AC.sl 2 0 (np + (pcs R L (0 + (S (0 + i.toNat)).f.toNat) (stA A (S (0 + i.toNat)).w al) (y + (udN R L (hd st) (0 + (S (0 + i.toNat)).f.toNat) ((S (0 + i.toNat)).t.toNat - (S (0 + i.toNat)).f.toNat)).fst) i ((S (0 + i.toNat)).t.toNat - (S (0 + i.toNat)).f.toNat)).length))), (14, I64 (w64 (y + ((udN R L (hd st) (0 + (S (0 + i.toNat)).f.toNat) ((S (0 + i.toNat)).t.toNat - (S (0 + i.toNat)).f.toNat)).fst + (udN R L (hd st) (0 + (S (0 + i.toNat)).f.toNat) ((S (0 + i.toNat)).t.toNat - (S (0 + i.toNat)).f.toNat)).snd)))), (24, AV.c (AC.sl 3 0 c)), (25, I64 ((c : Nat) : Int)), (26, I64 (w64 (i + (1 : Int))))], h := [some { t := 83, own := own, c := Cont.row 4 n fun j => [Value.int IntKind.i64 (R j).n, Value.string (R j).s, Value.int IntKind.i64 (R j).v, Value.int IntKind.i64 (R j).l] }, some { t := 87, own := true, c := Cont.row 4 ng fun j => [Value.int IntKind.i64 (L j).k, Value.int IntKind.i64 (L j).r, Value.int IntKind.i64 (L j).a, Value.int IntKind.i64 (L j).w] }, some { t := 112, own := true, c := Cont.row 8 (np + (pcs R L (0 + (S (0 + i.toNat)).f.toNat) (stA A (S (0 + i.toNat)).w al) (y + (udN R L (hd st) (0 + (S (0 + i.toNat)).f.toNat) ((S (0 + i.toNat)).t.toNat - (S (0 + i.toNat)).f.toNat)).fst) i ((S (0 + i.toNat)).t.toNat - (S (0 + i.toNat)).f.toNat)).length) fun k => Decidable.rec (fun h => if k < np + (pcs R L (0 + (S (0 + i.toNat)).f.toNat) (stA A (S (0 + i.toNat)).w al) (y + (udN R L (hd st) (0 + (S (0 + i.toNat)).f.toNat) ((S (0 + i.toNat)).t.toNat - (S (0 + i.toNat)).f.toNat)).fst) i ((S (0 + i.toNat)).t.toNat - (S (0 + i.toNat)).f.toNat)).length then encC (pcAt (pcs R L (0 + (S (0 + i.toNat)).f.toNat) (stA A (S (0 + i.toNat)).w al) (y + (udN R L (hd st) (0 + (S (0 + i.toNat)).f.toNat) ((S (0 + i.toNat)).t.toNat - (S (0 + i.toNat)).f.toNat)).fst) i ((S (0 + i.toNat)).t.toNat - (S (0 + i.toNat)).f.toNat)) (0 + (k - np))) else [Value.int IntKind.i64 (0 : Int), Value.int IntKind.i64 (0 : Int), Value.int IntKind.i64 (0 : Int), Value.int IntKind.i64 (0 : Int), Value.int IntKind.i64 (0 : Int), Value.int IntKind.i64 (0 : Int), Value.int IntKind.i64 (0 : Int), Value.int IntKind.i64 (0 : Int)]) (fun h => encC (P k)) (k.decLt np) }, some { t := 98, own := true, c := Cont.row 3 c fun j => [Value.int IntKind.i64 (S j).f, Value.int IntKind.i64 (S j).t, Value.int IntKind.i64 (S j).w] }] }) := by kernel_rfl
theorem pl_e {own : Bool} {k n : Nat} {R : Nat → Rn} {A st al : Int} {ng : Nat} {L : Nat → Gl} {c : Nat} {S : Nat → Sp} {np : Nat} {P : Nat → Pc} {y i : Int} : (rT plG nol 1 52 (bodyOf Try.f96 0) plK plK (plS own k n R A st al ng L c S np P y i)).go [false] =
  some ([!decide (i < ((c : Nat) : Int))], Ex.exit 0, { sl := slots 60 [(1, AV.c (AC.sl 0 0 k)), (2, I64 A), (3, I64 st), (4, I64 al), (12, AV.c (AC.sl 1 0 ng)), (13, AV.c (AC.sl 2 0 np)), (14, I64 y), (24, AV.c (AC.sl 3 0 c)), (25, I64 ((c : Nat) : Int)), (26, I64 i)], h := [some { t := 83, own := own, c := Cont.row 4 n fun j => [Value.int IntKind.i64 (R j).n, Value.string (R j).s, Value.int IntKind.i64 (R j).v, Value.int IntKind.i64 (R j).l] }, some { t := 87, own := true, c := Cont.row 4 ng fun j => [Value.int IntKind.i64 (L j).k, Value.int IntKind.i64 (L j).r, Value.int IntKind.i64 (L j).a, Value.int IntKind.i64 (L j).w] }, some { t := 112, own := true, c := Cont.row 8 np fun j => [Value.int IntKind.i64 (P j).n, Value.int IntKind.i64 (P j).x, Value.int IntKind.i64 (P j).y, Value.int IntKind.i64 (P j).w, Value.int IntKind.i64 (P j).h, Value.int IntKind.i64 (P j).f, Value.int IntKind.i64 (P j).t, Value.int IntKind.i64 (P j).l] }, some { t := 98, own := true, c := Cont.row 3 c fun j => [Value.int IntKind.i64 (S j).f, Value.int IntKind.i64 (S j).t, Value.int IntKind.i64 (S j).w] }] }) := by kernel_rfl
theorem pl_w {own : Bool} {k n : Nat} {R : Nat → Rn} {A st al : Int} {a : Nat → Int} {np : Nat} {P : Nat → Pc} {y i : Int} : (lfun plG (tell (bodyOf Try.f96 0) (plS own k n R A st al (glyphs (Mt a) (fun i => R (0 + i)) k).length (at_ (glyphs (Mt a) (fun i => R (0 + i)) k)) (lnC (glyphs (Mt a) (fun i => R (0 + i)) k).length (at_ (glyphs (Mt a) (fun i => R (0 + i)) k)) A) (spAt (lns (glyphs (Mt a) (fun i => R (0 + i)) k).length (at_ (glyphs (Mt a) (fun i => R (0 + i)) k)) A)) 0 (fun _ => zPc) 0 0) (.exit 0, plS own k n R A st al (glyphs (Mt a) (fun i => R (0 + i)) k).length (at_ (glyphs (Mt a) (fun i => R (0 + i)) k)) (lnC (glyphs (Mt a) (fun i => R (0 + i)) k).length (at_ (glyphs (Mt a) (fun i => R (0 + i)) k)) A) (spAt (lns (glyphs (Mt a) (fun i => R (0 + i)) k).length (at_ (glyphs (Mt a) (fun i => R (0 + i)) k)) A)) np P y i)) 60 Try.f96 [aA a, .c (.sl 0 0 k), I64 A, I64 st, I64 al] [rowRn own n R]).go [] =
  some ([true, yes (0 + k ≤ n ∧ k < 2 ^ 40 ∧ lenR (fun i => decN (encN (R (0 + i)))) k < 2 ^ 39 ∧ ((fun k => Value.int IntKind.i64 (a k)) = fun k => Value.int IntKind.i64 (a k)) ∧ (fun j => encN (R j)) = fun j => encN (decN (encN (R j)))), yes ((glyphs (Mt fun k => a k) (fun i => decN (encN (R (0 + i)))) k).length ≤ (glyphs (Mt fun k => a k) (fun i => decN (encN (R (0 + i)))) k).length ∧ (glyphs (Mt fun k => a k) (fun i => decN (encN (R (0 + i)))) k).length < 2 ^ 30 ∧ ((fun j => encG (at_ (glyphs (Mt fun k => a k) (fun i => decN (encN (R (0 + i)))) k) j)) = fun j => encG (decG (encG (at_ (glyphs (Mt fun k => a k) (fun i => decN (encN (R (0 + i)))) k) j)))) ∧ WOk fun j => decG (encG (at_ (glyphs (Mt fun k => a k) (fun i => decN (encN (R (0 + i)))) k) j))), yes (wasS (bodyOf Try.f96 0) (plS own k n R A st al (glyphs (Mt a) (fun i => R (0 + i)) k).length (at_ (glyphs (Mt a) (fun i => R (0 + i)) k)) (lnC (glyphs (Mt a) (fun i => R (0 + i)) k).length (at_ (glyphs (Mt a) (fun i => R (0 + i)) k)) A) (spAt (lns (glyphs (Mt a) (fun i => R (0 + i)) k).length (at_ (glyphs (Mt a) (fun i => R (0 + i)) k)) A)) 0 (fun _ => zPc) 0 0))], AV.tup [AV.c (AC.sl 1 0 np), I64 y], [some { t := 83, own := own, c := Cont.row 4 n fun j => [Value.int IntKind.i64 (R j).n, Value.string (R j).s, Value.int IntKind.i64 (R j).v, Value.int IntKind.i64 (R j).l] }, some { t := 112, own := true, c := Cont.row 8 np fun j => [Value.int IntKind.i64 (P j).n, Value.int IntKind.i64 (P j).x, Value.int IntKind.i64 (P j).y, Value.int IntKind.i64 (P j).w, Value.int IntKind.i64 (P j).h, Value.int IntKind.i64 (P j).f, Value.int IntKind.i64 (P j).t, Value.int IntKind.i64 (P j).l] }]) := by kernel_rfl
noncomputable def KP2 : Known := [(86, glF), (93, linesF), (137, hdF), (52, upF), (138, suF)]
theorem KP2_ok : KnownOk KP2 := consK rgF_ok (by kernel_rfl) (consK rlinesF_ok (by kernel_rfl) (consK rhdF_ok (by kernel_rfl) (consK rupF_ok (by kernel_rfl) (consK suF_ok (by kernel_rfl) nilK))))
abbrev rpK : List (Nat × Option TypeId) := [(1,none),(2,none),(4,none),(12,none),(13,none),(14,some 112),(15,none),(16,none),(17,none)]
abbrev rpK1 : List (Nat × Option TypeId) := [(1,none),(2,none),(4,none),(12,none),(13,none),(14,some 112),(15,none),(16,none),(17,none),(18,none),(19,none),(20,none)]
abbrev rpK2 : List (Nat × Option TypeId) := [(1,none),(2,none),(4,none),(12,none),(13,none),(14,some 112),(15,none),(16,none),(17,none),(18,none),(19,none),(22,none),(24,none)]
abbrev rpK3 : List (Nat × Option TypeId) := [(1,none),(2,none),(4,none),(12,none),(13,none),(14,some 112),(15,none),(16,none),(17,none),(18,none),(19,none),(22,none),(24,none),(25,none)]
noncomputable def rpG : Ctx2 := GT KP2 (fun k => if k = 7 then rpK else if k = 11 then rpK1 else if k = 22 then rpK2 else if k = 24 then rpK3 else []) 0 []
theorem rpG_ok : XOk rpG := GT_ok KP2_ok _ _ _
def rpO (own : Bool) (k n : Nat) (R : Nat → Rn) (A al : Int) (ng : Nat) (L : Nat → Gl) (c : Nat) (S : Nat → Sp) (np : Nat) (P : Nat → Pc) (y s i : Int) : St := ⟨slots 201 [(1, .c (.sl 0 0 k)), (2, I64 A), (4, I64 al), (12, .c (.sl 1 0 ng)), (13, .c (.sl 2 0 c)), (14, .c (.sl 3 0 np)), (15, I64 y), (16, I64 s), (17, I64 i)], [rowRn own n R, rowGl ng L, rowSp c S, rowPc np P]⟩
def rp1S (own : Bool) (k n : Nat) (R : Nat → Rn) (A al : Int) (ng : Nat) (L : Nat → Gl) (c : Nat) (S : Nat → Sp) (np : Nat) (P : Nat → Pc) (y s i : Int) (up dn ii : Int) : St := ⟨slots 201 [(1, .c (.sl 0 0 k)), (2, I64 A), (4, I64 al), (12, .c (.sl 1 0 ng)), (13, .c (.sl 2 0 c)), (14, .c (.sl 3 0 np)), (15, I64 y), (16, I64 s), (17, I64 i), (18, I64 up), (19, I64 dn), (20, I64 ii)], [rowRn own n R, rowGl ng L, rowSp c S, rowPc np P]⟩
def rp2S (own : Bool) (k n : Nat) (R : Nat → Rn) (A al : Int) (ng : Nat) (L : Nat → Gl) (c : Nat) (S : Nat → Sp) (np : Nat) (P : Nat → Pc) (y s i : Int) (up dn x a : Int) : St := ⟨slots 201 [(1, .c (.sl 0 0 k)), (2, I64 A), (4, I64 al), (12, .c (.sl 1 0 ng)), (13, .c (.sl 2 0 c)), (14, .c (.sl 3 0 np)), (15, I64 y), (16, I64 s), (17, I64 i), (18, I64 up), (19, I64 dn), (22, I64 x), (24, I64 a)], [rowRn own n R, rowGl ng L, rowSp c S, rowPc np P]⟩
def rp3S (own : Bool) (k n : Nat) (R : Nat → Rn) (A al : Int) (ng : Nat) (L : Nat → Gl) (c : Nat) (S : Nat → Sp) (np : Nat) (P : Nat → Pc) (y s i : Int) (up dn x a b : Int) : St := ⟨slots 201 [(1, .c (.sl 0 0 k)), (2, I64 A), (4, I64 al), (12, .c (.sl 1 0 ng)), (13, .c (.sl 2 0 c)), (14, .c (.sl 3 0 np)), (15, I64 y), (16, I64 s), (17, I64 i), (18, I64 up), (19, I64 dn), (22, I64 x), (24, I64 a), (25, I64 b)], [rowRn own n R, rowGl ng L, rowSp c S, rowPc np P]⟩
theorem rp3_go {own : Bool} {k n : Nat} {R : Nat → Rn} {A al : Int} {ng : Nat} {L : Nat → Gl} {c : Nat} {S : Nat → Sp} {np : Nat} {P : Nat → Pc} {y s i : Int} {up dn x a b : Int} : (rT rpG nol 1 33 (bodyOf Try.f98 3) rpK3 rpK3 (rp3S own k n R A al ng L c S np P y s i up dn x a b)).go [] =
  some ([decide ((0 : Int) ≤ i), decide (i < ((c : Nat) : Int)), decide (0 + i.toNat < c), decide (b < (S (0 + i.toNat)).t), true, true, decide ((0 : Int) ≤ b), decide (b < ((ng : Nat) : Int)), true, true, decide (0 + b.toNat < ng), true, true, true, decide ((0 : Int) ≤ a), decide (a < ((ng : Nat) : Int)), true, true, decide (0 + a.toNat < ng), true, true, (L (0 + b.toNat)).r == (L (0 + a.toNat)).r], Ex.normal, { sl := slots 201 [(1, AV.c (AC.sl 0 0 k)), (2, I64 A), (4, I64 al), (12, AV.c (AC.sl 1 0 ng)), (13, AV.c (AC.sl 2 0 c)), (14, AV.c (AC.sl 3 0 np)), (15, I64 y), (16, I64 s), (17, I64 i), (18, I64 up), (19, I64 dn), (22, I64 x), (24, I64 a), (25, I64 (w64 (b + (1 : Int))))], h := [some { t := 83, own := own, c := Cont.row 4 n fun j => [Value.int IntKind.i64 (R j).n, Value.string (R j).s, Value.int IntKind.i64 (R j).v, Value.int IntKind.i64 (R j).l] }, some { t := 87, own := true, c := Cont.row 4 ng fun j => [Value.int IntKind.i64 (L j).k, Value.int IntKind.i64 (L j).r, Value.int IntKind.i64 (L j).a, Value.int IntKind.i64 (L j).w] }, some { t := 98, own := true, c := Cont.row 3 c fun j => [Value.int IntKind.i64 (S j).f, Value.int IntKind.i64 (S j).t, Value.int IntKind.i64 (S j).w] }, some { t := 112, own := true, c := Cont.row 8 np fun j => [Value.int IntKind.i64 (P j).n, Value.int IntKind.i64 (P j).x, Value.int IntKind.i64 (P j).y, Value.int IntKind.i64 (P j).w, Value.int IntKind.i64 (P j).h, Value.int IntKind.i64 (P j).f, Value.int IntKind.i64 (P j).t, Value.int IntKind.i64 (P j).l] }] }) := by kernel_rfl
theorem rp3_e1 {own : Bool} {k n : Nat} {R : Nat → Rn} {A al : Int} {ng : Nat} {L : Nat → Gl} {c : Nat} {S : Nat → Sp} {np : Nat} {P : Nat → Pc} {y s i : Int} {up dn x a b : Int} : (rT rpG nol 1 33 (bodyOf Try.f98 3) rpK3 rpK3 (rp3S own k n R A al ng L c S np P y s i up dn x a b)).go [true, true, true, false, false, false, false, false, false, false, false, false, false, false, false, false] =
  some ([decide ((0 : Int) ≤ i), decide (i < ((c : Nat) : Int)), decide (0 + i.toNat < c), !decide (b < (S (0 + i.toNat)).t), true, true, true, true, true, true, true, true, true, true, true, true], Ex.exit 6, { sl := slots 201 [(1, AV.c (AC.sl 0 0 k)), (2, I64 A), (4, I64 al), (12, AV.c (AC.sl 1 0 ng)), (13, AV.c (AC.sl 2 0 c)), (14, AV.c (AC.sl 3 0 np)), (15, I64 y), (16, I64 s), (17, I64 i), (18, I64 up), (19, I64 dn), (22, I64 x), (24, I64 a), (25, I64 b)], h := [some { t := 83, own := own, c := Cont.row 4 n fun j => [Value.int IntKind.i64 (R j).n, Value.string (R j).s, Value.int IntKind.i64 (R j).v, Value.int IntKind.i64 (R j).l] }, some { t := 87, own := true, c := Cont.row 4 ng fun j => [Value.int IntKind.i64 (L j).k, Value.int IntKind.i64 (L j).r, Value.int IntKind.i64 (L j).a, Value.int IntKind.i64 (L j).w] }, some { t := 98, own := true, c := Cont.row 3 c fun j => [Value.int IntKind.i64 (S j).f, Value.int IntKind.i64 (S j).t, Value.int IntKind.i64 (S j).w] }, some { t := 112, own := true, c := Cont.row 8 np fun j => [Value.int IntKind.i64 (P j).n, Value.int IntKind.i64 (P j).x, Value.int IntKind.i64 (P j).y, Value.int IntKind.i64 (P j).w, Value.int IntKind.i64 (P j).h, Value.int IntKind.i64 (P j).f, Value.int IntKind.i64 (P j).t, Value.int IntKind.i64 (P j).l] }] }) := by kernel_rfl
theorem rp3_e2 {own : Bool} {k n : Nat} {R : Nat → Rn} {A al : Int} {ng : Nat} {L : Nat → Gl} {c : Nat} {S : Nat → Sp} {np : Nat} {P : Nat → Pc} {y s i : Int} {up dn x a b : Int} : (rT rpG nol 1 33 (bodyOf Try.f98 3) rpK3 rpK3 (rp3S own k n R A al ng L c S np P y s i up dn x a b)).go [true, true, true, true, true, true, true, true, true, true, true, true, true, true, true, true, true, true, true, true, true, false] =
  some ([decide ((0 : Int) ≤ i), decide (i < ((c : Nat) : Int)), decide (0 + i.toNat < c), decide (b < (S (0 + i.toNat)).t), true, true, decide ((0 : Int) ≤ b), decide (b < ((ng : Nat) : Int)), true, true, decide (0 + b.toNat < ng), true, true, true, decide ((0 : Int) ≤ a), decide (a < ((ng : Nat) : Int)), true, true, decide (0 + a.toNat < ng), true, true, !(L (0 + b.toNat)).r == (L (0 + a.toNat)).r], Ex.exit 6, { sl := slots 201 [(1, AV.c (AC.sl 0 0 k)), (2, I64 A), (4, I64 al), (12, AV.c (AC.sl 1 0 ng)), (13, AV.c (AC.sl 2 0 c)), (14, AV.c (AC.sl 3 0 np)), (15, I64 y), (16, I64 s), (17, I64 i), (18, I64 up), (19, I64 dn), (22, I64 x), (24, I64 a), (25, I64 b)], h := [some { t := 83, own := own, c := Cont.row 4 n fun j => [Value.int IntKind.i64 (R j).n, Value.string (R j).s, Value.int IntKind.i64 (R j).v, Value.int IntKind.i64 (R j).l] }, some { t := 87, own := true, c := Cont.row 4 ng fun j => [Value.int IntKind.i64 (L j).k, Value.int IntKind.i64 (L j).r, Value.int IntKind.i64 (L j).a, Value.int IntKind.i64 (L j).w] }, some { t := 98, own := true, c := Cont.row 3 c fun j => [Value.int IntKind.i64 (S j).f, Value.int IntKind.i64 (S j).t, Value.int IntKind.i64 (S j).w] }, some { t := 112, own := true, c := Cont.row 8 np fun j => [Value.int IntKind.i64 (P j).n, Value.int IntKind.i64 (P j).x, Value.int IntKind.i64 (P j).y, Value.int IntKind.i64 (P j).w, Value.int IntKind.i64 (P j).h, Value.int IntKind.i64 (P j).f, Value.int IntKind.i64 (P j).t, Value.int IntKind.i64 (P j).l] }] }) := by kernel_rfl
theorem rp2_go {own : Bool} {k n : Nat} {R : Nat → Rn} {A al : Int} {ng : Nat} {L : Nat → Gl} {c : Nat} {S : Nat → Sp} {np : Nat} {P : Nat → Pc} {y s i : Int} {up dn x a b : Int} : (rT rpG (tell (bodyOf Try.f98 3) (rp3S own k n R A al ng L c S np P y s i up dn x a a) (.exit 6, rp3S own k n R A al ng L c S np P y s i up dn x a b)) 1 39 (bodyOf Try.f98 2) rpK2 rpK2 (rp2S own k n R A al ng L c S np P y s i up dn x a)).go [] =
  some ([decide ((0 : Int) ≤ i), decide (i < ((c : Nat) : Int)), decide (0 + i.toNat < c), decide (a < (S (0 + i.toNat)).t), yes (wasS (bodyOf Try.f98 3) (rp3S own k n R A al ng L c S np P y s i up dn x a a)), decide ((0 : Int) ≤ a), decide (a < ((ng : Nat) : Int)), decide (0 + a.toNat < ng), decide ((0 : Int) ≤ (L (0 + a.toNat)).r), decide ((L (0 + a.toNat)).r < ((k : Nat) : Int)), decide (0 + (L (0 + a.toNat)).r.toNat < n), decInt a b ng, yes (0 + a.toNat + (b.toNat - a.toNat) ≤ ng ∧ b.toNat - a.toNat < 2 ^ 40 ∧ ((fun j => encG (L j)) = fun j => encG (decG (encG (L j)))) ∧ WOk fun j => decG (encG (L j))), decide ((0 : Int) ≤ a), decide (a < ((ng : Nat) : Int)), decide (0 + a.toNat < ng), decide ((0 : Int) ≤ (L (0 + a.toNat)).r), decide ((L (0 + a.toNat)).r < ((k : Nat) : Int)), decide (0 + (L (0 + a.toNat)).r.toNat < n), decide ((0 : Int) ≤ a), decide (a < ((ng : Nat) : Int)), decide (0 + a.toNat < ng), decide ((0 : Int) ≤ w64 (b - (1 : Int))), decide (w64 (b - (1 : Int)) < ((ng : Nat) : Int)), decide (0 + (w64 (b - (1 : Int))).toNat < ng), yes ((0 : Int) ≤ hd (R (0 + (L (0 + a.toNat)).r.toNat)).l ∧ hd (R (0 + (L (0 + a.toNat)).r.toNat)).l ≤ (4611686018427387904 : Int)), decide (np = np), true, decide ((np + 1) * 64 ≤ maxCells)], Ex.normal, { sl := slots 201 [(1, AV.c (AC.sl 0 0 k)), (2, I64 A), (4, I64 al), (12, AV.c (AC.sl 1 0 ng)), (13, AV.c (AC.sl 2 0 c)), (14, AV.c (AC.sl 3 0 (np + 1))), (15, I64 y), (16, I64 s), (17, I64 i), (18, I64 up), (19, I64 dn), (22, I64 (w64 (x + sw L (0 + a.toNat) (b.toNat - a.toNat)))), (24, I64 b)], h := [some { t := 83, own := own, c := Cont.row 4 n fun j => [Value.int IntKind.i64 (R j).n, Value.string (R j).s, Value.int IntKind.i64 (R j).v, Value.int IntKind.i64 (R j).l] }, some { t := 87, own := true, c := Cont.row 4 ng fun j => [Value.int IntKind.i64 (L j).k, Value.int IntKind.i64 (L j).r, Value.int IntKind.i64 (L j).a, Value.int IntKind.i64 (L j).w] }, some { t := 98, own := true, c := Cont.row 3 c fun j => [Value.int IntKind.i64 (S j).f, Value.int IntKind.i64 (S j).t, Value.int IntKind.i64 (S j).w] }, some { t := 112, own := true, c := Cont.row 8 (np + 1) fun k => [Value.int IntKind.i64 (bif decide (k = np) then (R (0 + (L (0 + a.toNat)).r.toNat)).n else (P k).n), Value.int IntKind.i64 (bif decide (k = np) then x else (P k).x), Value.int IntKind.i64 (bif decide (k = np) then w64 (w64 (y + up) - upL (hd (R (0 + (L (0 + a.toNat)).r.toNat)).l)) else (P k).y), Value.int IntKind.i64 (bif decide (k = np) then sw L (0 + a.toNat) (b.toNat - a.toNat) else (P k).w), Value.int IntKind.i64 (bif decide (k = np) then hd (R (0 + (L (0 + a.toNat)).r.toNat)).l else (P k).h), Value.int IntKind.i64 (bif decide (k = np) then (L (0 + a.toNat)).a else (P k).f), Value.int IntKind.i64 (bif decide (k = np) then w64 ((L (0 + (w64 (b - (1 : Int))).toNat)).a + (1 : Int)) else (P k).t), Value.int IntKind.i64 (bif decide (k = np) then i else (P k).l)] }] }) := by kernel_rfl
theorem rp2_e {own : Bool} {k n : Nat} {R : Nat → Rn} {A al : Int} {ng : Nat} {L : Nat → Gl} {c : Nat} {S : Nat → Sp} {np : Nat} {P : Nat → Pc} {y s i : Int} {up dn x a : Int} : (rT rpG nol 1 39 (bodyOf Try.f98 2) rpK2 rpK2 (rp2S own k n R A al ng L c S np P y s i up dn x a)).go [true, true, true, false] =
  some ([decide ((0 : Int) ≤ i), decide (i < ((c : Nat) : Int)), decide (0 + i.toNat < c), !decide (a < (S (0 + i.toNat)).t)], Ex.exit 4, { sl := slots 201 [(1, AV.c (AC.sl 0 0 k)), (2, I64 A), (4, I64 al), (12, AV.c (AC.sl 1 0 ng)), (13, AV.c (AC.sl 2 0 c)), (14, AV.c (AC.sl 3 0 np)), (15, I64 y), (16, I64 s), (17, I64 i), (18, I64 up), (19, I64 dn), (22, I64 x), (24, I64 a)], h := [some { t := 83, own := own, c := Cont.row 4 n fun j => [Value.int IntKind.i64 (R j).n, Value.string (R j).s, Value.int IntKind.i64 (R j).v, Value.int IntKind.i64 (R j).l] }, some { t := 87, own := true, c := Cont.row 4 ng fun j => [Value.int IntKind.i64 (L j).k, Value.int IntKind.i64 (L j).r, Value.int IntKind.i64 (L j).a, Value.int IntKind.i64 (L j).w] }, some { t := 98, own := true, c := Cont.row 3 c fun j => [Value.int IntKind.i64 (S j).f, Value.int IntKind.i64 (S j).t, Value.int IntKind.i64 (S j).w] }, some { t := 112, own := true, c := Cont.row 8 np fun j => [Value.int IntKind.i64 (P j).n, Value.int IntKind.i64 (P j).x, Value.int IntKind.i64 (P j).y, Value.int IntKind.i64 (P j).w, Value.int IntKind.i64 (P j).h, Value.int IntKind.i64 (P j).f, Value.int IntKind.i64 (P j).t, Value.int IntKind.i64 (P j).l] }] }) := by kernel_rfl
theorem rp1_go {own : Bool} {k n : Nat} {R : Nat → Rn} {A al : Int} {ng : Nat} {L : Nat → Gl} {c : Nat} {S : Nat → Sp} {np : Nat} {P : Nat → Pc} {y s i : Int} {up dn ii : Int} : (rT rpG nol 1 42 (bodyOf Try.f98 1) rpK1 rpK1 (rp1S own k n R A al ng L c S np P y s i up dn ii)).go [] =
  some ([decide ((0 : Int) ≤ i), decide (i < ((c : Nat) : Int)), decide (0 + i.toNat < c), decide (ii < (S (0 + i.toNat)).t), decide ((0 : Int) ≤ ii), decide (ii < ((ng : Nat) : Int)), decide (0 + ii.toNat < ng), decide ((0 : Int) ≤ (L (0 + ii.toNat)).r), decide ((L (0 + ii.toNat)).r < ((k : Nat) : Int)), decide (0 + (L (0 + ii.toNat)).r.toNat < n), yes ((0 : Int) ≤ hd (R (0 + (L (0 + ii.toNat)).r.toNat)).l ∧ hd (R (0 + (L (0 + ii.toNat)).r.toNat)).l ≤ (4611686018427387904 : Int)), yes ((0 : Int) ≤ hd (R (0 + (L (0 + ii.toNat)).r.toNat)).l ∧ hd (R (0 + (L (0 + ii.toNat)).r.toNat)).l ≤ (4611686018427387904 : Int))], Ex.normal, { sl := slots 201 [(1, AV.c (AC.sl 0 0 k)), (2, I64 A), (4, I64 al), (12, AV.c (AC.sl 1 0 ng)), (13, AV.c (AC.sl 2 0 c)), (14, AV.c (AC.sl 3 0 np)), (15, I64 y), (16, I64 s), (17, I64 i), (18, I64 (mxI (upL (hd (R (0 + (L (0 + ii.toNat)).r.toNat)).l)) up)), (19, I64 (mxI (w64 (hd (R (0 + (L (0 + ii.toNat)).r.toNat)).l - upL (hd (R (0 + (L (0 + ii.toNat)).r.toNat)).l))) dn)), (20, I64 (w64 (ii + (1 : Int))))], h := [some { t := 83, own := own, c := Cont.row 4 n fun j => [Value.int IntKind.i64 (R j).n, Value.string (R j).s, Value.int IntKind.i64 (R j).v, Value.int IntKind.i64 (R j).l] }, some { t := 87, own := true, c := Cont.row 4 ng fun j => [Value.int IntKind.i64 (L j).k, Value.int IntKind.i64 (L j).r, Value.int IntKind.i64 (L j).a, Value.int IntKind.i64 (L j).w] }, some { t := 98, own := true, c := Cont.row 3 c fun j => [Value.int IntKind.i64 (S j).f, Value.int IntKind.i64 (S j).t, Value.int IntKind.i64 (S j).w] }, some { t := 112, own := true, c := Cont.row 8 np fun j => [Value.int IntKind.i64 (P j).n, Value.int IntKind.i64 (P j).x, Value.int IntKind.i64 (P j).y, Value.int IntKind.i64 (P j).w, Value.int IntKind.i64 (P j).h, Value.int IntKind.i64 (P j).f, Value.int IntKind.i64 (P j).t, Value.int IntKind.i64 (P j).l] }] }) := by kernel_rfl
theorem rp1_e {own : Bool} {k n : Nat} {R : Nat → Rn} {A al : Int} {ng : Nat} {L : Nat → Gl} {c : Nat} {S : Nat → Sp} {np : Nat} {P : Nat → Pc} {y s i : Int} {up dn ii : Int} : (rT rpG nol 1 42 (bodyOf Try.f98 1) rpK1 rpK1 (rp1S own k n R A al ng L c S np P y s i up dn ii)).go [true, true, true, false] =
  some ([decide ((0 : Int) ≤ i), decide (i < ((c : Nat) : Int)), decide (0 + i.toNat < c), !decide (ii < (S (0 + i.toNat)).t)], Ex.exit 2, { sl := slots 201 [(1, AV.c (AC.sl 0 0 k)), (2, I64 A), (4, I64 al), (12, AV.c (AC.sl 1 0 ng)), (13, AV.c (AC.sl 2 0 c)), (14, AV.c (AC.sl 3 0 np)), (15, I64 y), (16, I64 s), (17, I64 i), (18, I64 up), (19, I64 dn), (20, I64 ii)], h := [some { t := 83, own := own, c := Cont.row 4 n fun j => [Value.int IntKind.i64 (R j).n, Value.string (R j).s, Value.int IntKind.i64 (R j).v, Value.int IntKind.i64 (R j).l] }, some { t := 87, own := true, c := Cont.row 4 ng fun j => [Value.int IntKind.i64 (L j).k, Value.int IntKind.i64 (L j).r, Value.int IntKind.i64 (L j).a, Value.int IntKind.i64 (L j).w] }, some { t := 98, own := true, c := Cont.row 3 c fun j => [Value.int IntKind.i64 (S j).f, Value.int IntKind.i64 (S j).t, Value.int IntKind.i64 (S j).w] }, some { t := 112, own := true, c := Cont.row 8 np fun j => [Value.int IntKind.i64 (P j).n, Value.int IntKind.i64 (P j).x, Value.int IntKind.i64 (P j).y, Value.int IntKind.i64 (P j).w, Value.int IntKind.i64 (P j).h, Value.int IntKind.i64 (P j).f, Value.int IntKind.i64 (P j).t, Value.int IntKind.i64 (P j).l] }] }) := by kernel_rfl
theorem rpO_1 {own : Bool} {k n : Nat} {R : Nat → Rn} {A al : Int} {ng : Nat} {L : Nat → Gl} {c : Nat} {S : Nat → Sp} {np : Nat} {P : Nat → Pc} {y s i : Int} {U D z : Int} {np' : Nat} {P' : Nat → Pc} {x' z' : Int} : (rT rpG (byReg 11 (tell (bodyOf Try.f98 1) (rp1S own k n R A al ng L c S np P y s i (upL s) (w64 (s - upL s)) (S (0 + i.toNat)).f) (.exit 2, (rp1S own k n R A al ng L c S np P y s i U D z))) (tell (bodyOf Try.f98 2) (rp2S own k n R A al ng L c S np P y s i U D (w64 (A - (S (0 + i.toNat)).w)) (S (0 + i.toNat)).f) (.exit 4, (rp2S own k n R A al ng L c S np' P' y s i U D x' z')))) 1 50 (bodyOf Try.f98 0) rpK rpK (rpO own k n R A al ng L c S np P y s i)).go [] =
  some ([decide (i < ((c : Nat) : Int)), yes ((0 : Int) ≤ s ∧ s ≤ (4611686018427387904 : Int)), yes ((0 : Int) ≤ s ∧ s ≤ (4611686018427387904 : Int)), decide ((0 : Int) ≤ i), decide (i < ((c : Nat) : Int)), decide (0 + i.toNat < c), yes (wasS (bodyOf Try.f98 1) (rp1S own k n R A al ng L c S np P y s i (upL s) (w64 (s - upL s)) (S (0 + i.toNat)).f)), decide ((0 : Int) ≤ i), decide (i < ((c : Nat) : Int)), decide (0 + i.toNat < c), decide (w64 (A - (S (0 + i.toNat)).w) > (0 : Int)), true, true, al == (1 : Int), decide ((0 : Int) ≤ i), decide (i < ((c : Nat) : Int)), decide (0 + i.toNat < c), yes (wasS (bodyOf Try.f98 2) (rp2S own k n R A al ng L c S np P y s i U D (w64 (A - (S (0 + i.toNat)).w)) (S (0 + i.toNat)).f))], Ex.normal, { sl := slots 201 [(1, AV.c (AC.sl 0 0 k)), (2, I64 A), (4, I64 al), (12, AV.c (AC.sl 1 0 ng)), (13, AV.c (AC.sl 2 0 c)), (14, AV.c (AC.sl 3 0 np')), (15, I64 (w64 (w64 (y + U) + D))), (16, I64 s), (17, I64 (w64 (i + (1 : Int))))], h := [some { t := 83, own := own, c := Cont.row 4 n fun j => [Value.int IntKind.i64 (R j).n, Value.string (R j).s, Value.int IntKind.i64 (R j).v, Value.int IntKind.i64 (R j).l] }, some { t := 87, own := true, c := Cont.row 4 ng fun j => [Value.int IntKind.i64 (L j).k, Value.int IntKind.i64 (L j).r, Value.int IntKind.i64 (L j).a, Value.int IntKind.i64 (L j).w] }, some { t := 98, own := true, c := Cont.row 3 c fun j => [Value.int IntKind.i64 (S j).f, Value.int IntKind.i64 (S j).t, Value.int IntKind.i64 (S j).w] }, some { t := 112, own := true, c := Cont.row 8 np' fun j => [Value.int IntKind.i64 (P' j).n, Value.int IntKind.i64 (P' j).x, Value.int IntKind.i64 (P' j).y, Value.int IntKind.i64 (P' j).w, Value.int IntKind.i64 (P' j).h, Value.int IntKind.i64 (P' j).f, Value.int IntKind.i64 (P' j).t, Value.int IntKind.i64 (P' j).l] }] }) := by kernel_rfl
theorem rpO_2 {own : Bool} {k n : Nat} {R : Nat → Rn} {A al : Int} {ng : Nat} {L : Nat → Gl} {c : Nat} {S : Nat → Sp} {np : Nat} {P : Nat → Pc} {y s i : Int} {U D z : Int} {np' : Nat} {P' : Nat → Pc} {x' z' : Int} : (rT rpG (byReg 11 (tell (bodyOf Try.f98 1) (rp1S own k n R A al ng L c S np P y s i (upL s) (w64 (s - upL s)) (S (0 + i.toNat)).f) (.exit 2, (rp1S own k n R A al ng L c S np P y s i U D z))) (tell (bodyOf Try.f98 2) (rp2S own k n R A al ng L c S np P y s i U D (w64 ((w64 (A - (S (0 + i.toNat)).w)).tdiv 2)) (S (0 + i.toNat)).f) (.exit 4, (rp2S own k n R A al ng L c S np' P' y s i U D x' z')))) 1 50 (bodyOf Try.f98 0) rpK rpK (rpO own k n R A al ng L c S np P y s i)).go [true, true, true, true, true, true, true, true, true, true, true, true, true, false] =
  some ([decide (i < ((c : Nat) : Int)), yes ((0 : Int) ≤ s ∧ s ≤ (4611686018427387904 : Int)), yes ((0 : Int) ≤ s ∧ s ≤ (4611686018427387904 : Int)), decide ((0 : Int) ≤ i), decide (i < ((c : Nat) : Int)), decide (0 + i.toNat < c), yes (wasS (bodyOf Try.f98 1) (rp1S own k n R A al ng L c S np P y s i (upL s) (w64 (s - upL s)) (S (0 + i.toNat)).f)), decide ((0 : Int) ≤ i), decide (i < ((c : Nat) : Int)), decide (0 + i.toNat < c), decide (w64 (A - (S (0 + i.toNat)).w) > (0 : Int)), true, true, !al == (1 : Int), decide (w64 (A - (S (0 + i.toNat)).w) > (0 : Int)), true, true, al == (2 : Int), true, decide ((0 : Int) ≤ i), decide (i < ((c : Nat) : Int)), decide (0 + i.toNat < c), yes (wasS (bodyOf Try.f98 2) (rp2S own k n R A al ng L c S np P y s i U D (w64 ((w64 (A - (S (0 + i.toNat)).w)).tdiv 2)) (S (0 + i.toNat)).f))], Ex.normal, { sl := slots 201 [(1, AV.c (AC.sl 0 0 k)), (2, I64 A), (4, I64 al), (12, AV.c (AC.sl 1 0 ng)), (13, AV.c (AC.sl 2 0 c)), (14, AV.c (AC.sl 3 0 np')), (15, I64 (w64 (w64 (y + U) + D))), (16, I64 s), (17, I64 (w64 (i + (1 : Int))))], h := [some { t := 83, own := own, c := Cont.row 4 n fun j => [Value.int IntKind.i64 (R j).n, Value.string (R j).s, Value.int IntKind.i64 (R j).v, Value.int IntKind.i64 (R j).l] }, some { t := 87, own := true, c := Cont.row 4 ng fun j => [Value.int IntKind.i64 (L j).k, Value.int IntKind.i64 (L j).r, Value.int IntKind.i64 (L j).a, Value.int IntKind.i64 (L j).w] }, some { t := 98, own := true, c := Cont.row 3 c fun j => [Value.int IntKind.i64 (S j).f, Value.int IntKind.i64 (S j).t, Value.int IntKind.i64 (S j).w] }, some { t := 112, own := true, c := Cont.row 8 np' fun j => [Value.int IntKind.i64 (P' j).n, Value.int IntKind.i64 (P' j).x, Value.int IntKind.i64 (P' j).y, Value.int IntKind.i64 (P' j).w, Value.int IntKind.i64 (P' j).h, Value.int IntKind.i64 (P' j).f, Value.int IntKind.i64 (P' j).t, Value.int IntKind.i64 (P' j).l] }] }) := by kernel_rfl
theorem rpO_3 {own : Bool} {k n : Nat} {R : Nat → Rn} {A al : Int} {ng : Nat} {L : Nat → Gl} {c : Nat} {S : Nat → Sp} {np : Nat} {P : Nat → Pc} {y s i : Int} {U D z : Int} {np' : Nat} {P' : Nat → Pc} {x' z' : Int} : (rT rpG (byReg 11 (tell (bodyOf Try.f98 1) (rp1S own k n R A al ng L c S np P y s i (upL s) (w64 (s - upL s)) (S (0 + i.toNat)).f) (.exit 2, (rp1S own k n R A al ng L c S np P y s i U D z))) (tell (bodyOf Try.f98 2) (rp2S own k n R A al ng L c S np P y s i U D 0 (S (0 + i.toNat)).f) (.exit 4, (rp2S own k n R A al ng L c S np' P' y s i U D x' z')))) 1 50 (bodyOf Try.f98 0) rpK rpK (rpO own k n R A al ng L c S np P y s i)).go [true, true, true, true, true, true, true, true, true, true, true, true, true, false, true, true, true, false] =
  some ([decide (i < ((c : Nat) : Int)), yes ((0 : Int) ≤ s ∧ s ≤ (4611686018427387904 : Int)), yes ((0 : Int) ≤ s ∧ s ≤ (4611686018427387904 : Int)), decide ((0 : Int) ≤ i), decide (i < ((c : Nat) : Int)), decide (0 + i.toNat < c), yes (wasS (bodyOf Try.f98 1) (rp1S own k n R A al ng L c S np P y s i (upL s) (w64 (s - upL s)) (S (0 + i.toNat)).f)), decide ((0 : Int) ≤ i), decide (i < ((c : Nat) : Int)), decide (0 + i.toNat < c), decide (w64 (A - (S (0 + i.toNat)).w) > (0 : Int)), true, true, !al == (1 : Int), decide (w64 (A - (S (0 + i.toNat)).w) > (0 : Int)), true, true, !al == (2 : Int), decide ((0 : Int) ≤ i), decide (i < ((c : Nat) : Int)), decide (0 + i.toNat < c), yes (wasS (bodyOf Try.f98 2) (rp2S own k n R A al ng L c S np P y s i U D 0 (S (0 + i.toNat)).f))], Ex.normal, { sl := slots 201 [(1, AV.c (AC.sl 0 0 k)), (2, I64 A), (4, I64 al), (12, AV.c (AC.sl 1 0 ng)), (13, AV.c (AC.sl 2 0 c)), (14, AV.c (AC.sl 3 0 np')), (15, I64 (w64 (w64 (y + U) + D))), (16, I64 s), (17, I64 (w64 (i + (1 : Int))))], h := [some { t := 83, own := own, c := Cont.row 4 n fun j => [Value.int IntKind.i64 (R j).n, Value.string (R j).s, Value.int IntKind.i64 (R j).v, Value.int IntKind.i64 (R j).l] }, some { t := 87, own := true, c := Cont.row 4 ng fun j => [Value.int IntKind.i64 (L j).k, Value.int IntKind.i64 (L j).r, Value.int IntKind.i64 (L j).a, Value.int IntKind.i64 (L j).w] }, some { t := 98, own := true, c := Cont.row 3 c fun j => [Value.int IntKind.i64 (S j).f, Value.int IntKind.i64 (S j).t, Value.int IntKind.i64 (S j).w] }, some { t := 112, own := true, c := Cont.row 8 np' fun j => [Value.int IntKind.i64 (P' j).n, Value.int IntKind.i64 (P' j).x, Value.int IntKind.i64 (P' j).y, Value.int IntKind.i64 (P' j).w, Value.int IntKind.i64 (P' j).h, Value.int IntKind.i64 (P' j).f, Value.int IntKind.i64 (P' j).t, Value.int IntKind.i64 (P' j).l] }] }) := by kernel_rfl
theorem rpO_0 {own : Bool} {k n : Nat} {R : Nat → Rn} {A al : Int} {ng : Nat} {L : Nat → Gl} {c : Nat} {S : Nat → Sp} {np : Nat} {P : Nat → Pc} {y s i : Int} {U D z : Int} {np' : Nat} {P' : Nat → Pc} {x' z' : Int} : (rT rpG (byReg 11 (tell (bodyOf Try.f98 1) (rp1S own k n R A al ng L c S np P y s i (upL s) (w64 (s - upL s)) (S (0 + i.toNat)).f) (.exit 2, (rp1S own k n R A al ng L c S np P y s i U D z))) (tell (bodyOf Try.f98 2) (rp2S own k n R A al ng L c S np P y s i U D 0 (S (0 + i.toNat)).f) (.exit 4, (rp2S own k n R A al ng L c S np' P' y s i U D x' z')))) 1 50 (bodyOf Try.f98 0) rpK rpK (rpO own k n R A al ng L c S np P y s i)).go [true, true, true, true, true, true, true, true, true, true, false, false, false, false, false, false, false, false] =
  some ([decide (i < ((c : Nat) : Int)), yes ((0 : Int) ≤ s ∧ s ≤ (4611686018427387904 : Int)), yes ((0 : Int) ≤ s ∧ s ≤ (4611686018427387904 : Int)), decide ((0 : Int) ≤ i), decide (i < ((c : Nat) : Int)), decide (0 + i.toNat < c), yes (wasS (bodyOf Try.f98 1) (rp1S own k n R A al ng L c S np P y s i (upL s) (w64 (s - upL s)) (S (0 + i.toNat)).f)), decide ((0 : Int) ≤ i), decide (i < ((c : Nat) : Int)), decide (0 + i.toNat < c), !decide (w64 (A - (S (0 + i.toNat)).w) > (0 : Int)), true, true, true, !decide (w64 (A - (S (0 + i.toNat)).w) > (0 : Int)), true, true, true, decide ((0 : Int) ≤ i), decide (i < ((c : Nat) : Int)), decide (0 + i.toNat < c), yes (wasS (bodyOf Try.f98 2) (rp2S own k n R A al ng L c S np P y s i U D 0 (S (0 + i.toNat)).f))], Ex.normal, { sl := slots 201 [(1, AV.c (AC.sl 0 0 k)), (2, I64 A), (4, I64 al), (12, AV.c (AC.sl 1 0 ng)), (13, AV.c (AC.sl 2 0 c)), (14, AV.c (AC.sl 3 0 np')), (15, I64 (w64 (w64 (y + U) + D))), (16, I64 s), (17, I64 (w64 (i + (1 : Int))))], h := [some { t := 83, own := own, c := Cont.row 4 n fun j => [Value.int IntKind.i64 (R j).n, Value.string (R j).s, Value.int IntKind.i64 (R j).v, Value.int IntKind.i64 (R j).l] }, some { t := 87, own := true, c := Cont.row 4 ng fun j => [Value.int IntKind.i64 (L j).k, Value.int IntKind.i64 (L j).r, Value.int IntKind.i64 (L j).a, Value.int IntKind.i64 (L j).w] }, some { t := 98, own := true, c := Cont.row 3 c fun j => [Value.int IntKind.i64 (S j).f, Value.int IntKind.i64 (S j).t, Value.int IntKind.i64 (S j).w] }, some { t := 112, own := true, c := Cont.row 8 np' fun j => [Value.int IntKind.i64 (P' j).n, Value.int IntKind.i64 (P' j).x, Value.int IntKind.i64 (P' j).y, Value.int IntKind.i64 (P' j).w, Value.int IntKind.i64 (P' j).h, Value.int IntKind.i64 (P' j).f, Value.int IntKind.i64 (P' j).t, Value.int IntKind.i64 (P' j).l] }] }) := by kernel_rfl
theorem rpO_e {own : Bool} {k n : Nat} {R : Nat → Rn} {A al : Int} {ng : Nat} {L : Nat → Gl} {c : Nat} {S : Nat → Sp} {np : Nat} {P : Nat → Pc} {y s i : Int} : (rT rpG nol 1 50 (bodyOf Try.f98 0) rpK rpK (rpO own k n R A al ng L c S np P y s i)).go [false] =
  some ([!decide (i < ((c : Nat) : Int))], Ex.exit 0, { sl := slots 201 [(1, AV.c (AC.sl 0 0 k)), (2, I64 A), (4, I64 al), (12, AV.c (AC.sl 1 0 ng)), (13, AV.c (AC.sl 2 0 c)), (14, AV.c (AC.sl 3 0 np)), (15, I64 y), (16, I64 s), (17, I64 i)], h := [some { t := 83, own := own, c := Cont.row 4 n fun j => [Value.int IntKind.i64 (R j).n, Value.string (R j).s, Value.int IntKind.i64 (R j).v, Value.int IntKind.i64 (R j).l] }, some { t := 87, own := true, c := Cont.row 4 ng fun j => [Value.int IntKind.i64 (L j).k, Value.int IntKind.i64 (L j).r, Value.int IntKind.i64 (L j).a, Value.int IntKind.i64 (L j).w] }, some { t := 98, own := true, c := Cont.row 3 c fun j => [Value.int IntKind.i64 (S j).f, Value.int IntKind.i64 (S j).t, Value.int IntKind.i64 (S j).w] }, some { t := 112, own := true, c := Cont.row 8 np fun j => [Value.int IntKind.i64 (P j).n, Value.int IntKind.i64 (P j).x, Value.int IntKind.i64 (P j).y, Value.int IntKind.i64 (P j).w, Value.int IntKind.i64 (P j).h, Value.int IntKind.i64 (P j).f, Value.int IntKind.i64 (P j).t, Value.int IntKind.i64 (P j).l] }] }) := by kernel_rfl
theorem rp_w {own : Bool} {k n : Nat} {R : Nat → Rn} {A st al : Int} {a : Nat → Int} {np : Nat} {P : Nat → Pc} {y i : Int} : (lfun rpG (tell (bodyOf Try.f98 0) (rpO own k n R A al (glyphs (Mt a) (fun i => R (0 + i)) k).length (at_ (glyphs (Mt a) (fun i => R (0 + i)) k)) (lnC (glyphs (Mt a) (fun i => R (0 + i)) k).length (at_ (glyphs (Mt a) (fun i => R (0 + i)) k)) A) (spAt (lns (glyphs (Mt a) (fun i => R (0 + i)) k).length (at_ (glyphs (Mt a) (fun i => R (0 + i)) k)) A)) 0 (fun _ => zPc) 0 (hd st) 0) (.exit 0, (rpO own k n R A al (glyphs (Mt a) (fun i => R (0 + i)) k).length (at_ (glyphs (Mt a) (fun i => R (0 + i)) k)) (lnC (glyphs (Mt a) (fun i => R (0 + i)) k).length (at_ (glyphs (Mt a) (fun i => R (0 + i)) k)) A) (spAt (lns (glyphs (Mt a) (fun i => R (0 + i)) k).length (at_ (glyphs (Mt a) (fun i => R (0 + i)) k)) A)) np P y (hd st) i))) 60 Try.f98 [aA a, .c (.sl 0 0 k), I64 A, I64 st, I64 al] [rowRn own n R]).go [] =
  some
    ([true,
        yes
          (0 + k ≤ n ∧
            k < 2 ^ 40 ∧
              lenR (fun i => decN (encN (R (0 + i)))) k < 2 ^ 39 ∧
                ((fun k => Value.int IntKind.i64 (a k)) = fun k => Value.int IntKind.i64 (a k)) ∧
                  (fun j => encN (R j)) = fun j => encN (decN (encN (R j)))),
        yes
          ((glyphs (Mt fun k => a k) (fun i => decN (encN (R (0 + i)))) k).length ≤
              (glyphs (Mt fun k => a k) (fun i => decN (encN (R (0 + i)))) k).length ∧
            (glyphs (Mt fun k => a k) (fun i => decN (encN (R (0 + i)))) k).length < 2 ^ 30 ∧
              ((fun j => encG (at_ (glyphs (Mt fun k => a k) (fun i => decN (encN (R (0 + i)))) k) j)) =
                  fun j =>
                  encG (decG (encG (at_ (glyphs (Mt fun k => a k) (fun i => decN (encN (R (0 + i)))) k) j)))) ∧
                WOk fun j =>
                  decG (encG (at_ (glyphs (Mt fun k => a k) (fun i => decN (encN (R (0 + i)))) k) j))),
        yes (wasS (bodyOf Try.f98 0) (rpO own k n R A al (glyphs (Mt a) (fun i => R (0 + i)) k).length (at_ (glyphs (Mt a) (fun i => R (0 + i)) k)) (lnC (glyphs (Mt a) (fun i => R (0 + i)) k).length (at_ (glyphs (Mt a) (fun i => R (0 + i)) k)) A) (spAt (lns (glyphs (Mt a) (fun i => R (0 + i)) k).length (at_ (glyphs (Mt a) (fun i => R (0 + i)) k)) A)) 0 (fun _ => zPc) 0 (hd st) 0))],
      AV.tup [AV.c (AC.sl 1 0 np), I64 y],
      [some
          { t := 83, own := own,
            c :=
              Cont.row 4 n fun j =>
                [Value.int IntKind.i64 (R j).n, Value.string (R j).s, Value.int IntKind.i64 (R j).v,
                  Value.int IntKind.i64 (R j).l] },
        some
          { t := 112, own := true,
            c :=
              Cont.row 8 np fun j =>
                [Value.int IntKind.i64 (P j).n, Value.int IntKind.i64 (P j).x, Value.int IntKind.i64 (P j).y,
                  Value.int IntKind.i64 (P j).w, Value.int IntKind.i64 (P j).h, Value.int IntKind.i64 (P j).f,
                  Value.int IntKind.i64 (P j).t, Value.int IntKind.i64 (P j).l] }]) := by kernel_rfl
end Go.Proofs.Ytcpahifgdppkbaa.QAI
end
