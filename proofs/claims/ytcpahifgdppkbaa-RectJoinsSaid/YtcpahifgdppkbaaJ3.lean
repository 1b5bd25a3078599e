/- RectJoins: the whole. -/
import Derived.Test.YtcpahifgdppkbaaJ2
set_option linter.unusedVariables false
set_option linter.unusedSimpArgs false
namespace Go.Proofs.Ytcpahifgdppkbaa.QAI
open Go Go.RowKit
set_option maxRecDepth 100000
abbrev rowE (t : Nat → Rc) : Nat → List Value := fun j => encR (t j)
def jqB (k : Nat) (g : Nat → Rc) (m : Nat) (t : Nat → Rc) : St :=
  jqS k g m t (bX (rowE t) 0 m) (bY (rowE t) 0 m) (w64 (bX2 (rowE t) 0 m - bX (rowE t) 0 m)) (w64 (bY2 (rowE t) 0 m - bY (rowE t) 0 m)) false false false false 0
noncomputable def jqZ (k : Nat) (g : Nat → Rc) (m : Nat) (t : Nat → Rc) : Ex × St :=
  jq_er k g m t (bX (rowE t) 0 m) (bY (rowE t) 0 m) (w64 (bX2 (rowE t) 0 m - bX (rowE t) 0 m)) (w64 (bY2 (rowE t) 0 m - bY (rowE t) 0 m)) true true true true m
noncomputable def jwL (k : Nat) (g : Nat → Rc) (c : Int) (z : Bool) (m : Nat) (t : Nat → Rc) (bx b1 : Bool) (p q : AV) : Loops :=
  byReg 3 (jlT k g c z m t bx b1 p q) (told 48 (bodyOf Try.f9 1) (jqB k g m t) (jqZ k g m t))
theorem jw_2 {L k : Nat} {g : Nat → Rc} {c : Int} {z : Bool} {m : Nat} {t : Nat → Rc} {bx b1 : Bool} {p q : AV} : (lfun (rjnG L) (jwL k g c z m t bx b1 p q) 60 Try.f9 [.c (.sl 0 0 k), I64 c, Bo z] [rowR false k g]).go [true, false, true, true, true, true, true, true, true, true, true, true, true, true, true, true, true, true, true, true, true, false] =
  some
    ([yes (was 54 (bodyOf Try.f9 0) (jlI k g c z 0)), !↑m == (0 : Int), decide (↑m ≠ (0 : Int)), yes (rowOk (fun j => encR (t j)) 0 m m),
        decInt (0 : Int) (w64 ((and64 c (255 : Int)).tmod ↑m + (1 : Int))) m,
        decInt ((and64 c (255 : Int)).tmod ↑m) (↑m) m, true, decide ((0 : Int) < ↑m),
        decide (0 + Int.toNat (0 : Int) < m),
        yes
          (rowOk (fun j => encR (t j)) (0 + Int.toNat (0 : Int))
            ((w64 ((and64 c (255 : Int)).tmod ↑m + (1 : Int))).toNat - Int.toNat (0 : Int)) m),
        yes
          (([some
                (some
                  { t := 44, own := true,
                    c :=
                      Cont.row 4 m fun j =>
                        [Value.int IntKind.i64 (t j).x, Value.int IntKind.i64 (t j).y, Value.int IntKind.i64 (t j).w,
                          Value.int IntKind.i64 (t j).h] })] : List (Option (Option ABlk))) =
            [some
                (some
                  { t := 44, own := true,
                    c :=
                      Cont.row 4 m fun j =>
                        [Value.int IntKind.i64 (t j).x, Value.int IntKind.i64 (t j).y, Value.int IntKind.i64 (t j).w,
                          Value.int IntKind.i64 (t j).h] })]),
        true,
        decide (0 + ((and64 c (255 : Int)).tmod ↑m).toNat + (m - ((and64 c (255 : Int)).tmod ↑m).toNat) ≤ m),
        decide
          (((rowOf
                    ti44
                    (Cont.lst (4) []
                      [i64 (0 : Int), i64 (0 : Int), i64 (0 : Int), i64 (0 : Int)])).n +
                (m - ((and64 c (255 : Int)).tmod ↑m).toNat)) *
              ti44.bytes ≤
            maxCells),
        decide
          ((0 + (((m : Nat) : Int).toNat - ((and64 c (255 : Int)).tmod ↑m).toNat)) =
            (rowOf
                  ti44
                  (Cont.lst (4) [] [i64 (0 : Int), i64 (0 : Int), i64 (0 : Int), i64 (0 : Int)])).n +
              (m - ((and64 c (255 : Int)).tmod ↑m).toNat)),
        true,
        decide
          (((0 + (((m : Nat) : Int).toNat - ((and64 c (255 : Int)).tmod ↑m).toNat)) +
                1) *
              ti44.bytes ≤
            maxCells),
        yes
          (rowOk
            (updL
              (cat
                ti44.zero
                (fun i =>
                  [].getD i
                    ti44.zero)
                0 (fun j => encR (t j)) (0 + ((and64 c (255 : Int)).tmod ↑m).toNat)
                (((m : Nat) : Int).toNat - ((and64 c (255 : Int)).tmod ↑m).toNat))
              (0 + (((m : Nat) : Int).toNat - ((and64 c (255 : Int)).tmod ↑m).toNat))
              [[Value.int IntKind.i64 (t (0 + Int.toNat (0 : Int))).x,
                  Value.int IntKind.i64 (t (0 + Int.toNat (0 : Int))).y,
                  Value.int IntKind.i64 (t (0 + Int.toNat (0 : Int))).w,
                  Value.int IntKind.i64 (t (0 + Int.toNat (0 : Int))).h]])
            0
            ((rowOf
                  ti44
                  (Cont.row (4) (0 + (((m : Nat) : Int).toNat - ((and64 c (255 : Int)).tmod ↑m).toNat))
                    (cat
                      ti44.zero
                      (fun i =>
                        [].getD i
                          ti44.zero)
                      0 (fun j => encR (t j)) (0 + ((and64 c (255 : Int)).tmod ↑m).toNat)
                      (((m : Nat) : Int).toNat - ((and64 c (255 : Int)).tmod ↑m).toNat)))).n +
              1)
            (0 + (((m : Nat) : Int).toNat - ((and64 c (255 : Int)).tmod ↑m).toNat) + 1)),
        yes
          (([some
                (some
                  { t := 44, own := true,
                    c :=
                      Cont.row 4 (0 + (m - ((and64 c (255 : Int)).tmod ↑m).toNat) + 1) fun k =>
                        Decidable.rec
                          (fun h =>
                            cat
                              ti44.zero
                              (fun i =>
                                [].getD i
                                  ti44.zero)
                              0 (fun j => encR (t j)) (0 + ((and64 c (255 : Int)).tmod ↑m).toNat)
                              (((m : Nat) : Int).toNat - ((and64 c (255 : Int)).tmod ↑m).toNat) k)
                          (fun h =>
                            [Value.int IntKind.i64 (t (0 + Int.toNat (0 : Int))).x,
                              Value.int IntKind.i64 (t (0 + Int.toNat (0 : Int))).y,
                              Value.int IntKind.i64 (t (0 + Int.toNat (0 : Int))).w,
                              Value.int IntKind.i64 (t (0 + Int.toNat (0 : Int))).h])
                          (instDecidableEqNat k
                            (0 + (((m : Nat) : Int).toNat - ((and64 c (255 : Int)).tmod ↑m).toNat))) })] : List (Option (Option ABlk))) =
            [some
                (some
                  { t := 44, own := true,
                    c :=
                      Cont.row 4 (0 + (m - ((and64 c (255 : Int)).tmod ↑m).toNat) + 1) fun k =>
                        Decidable.rec
                          (fun h =>
                            cat
                              ti44.zero
                              (fun i =>
                                [].getD i
                                  ti44.zero)
                              0 (fun j => encR (t j)) (0 + ((and64 c (255 : Int)).tmod ↑m).toNat)
                              (((m : Nat) : Int).toNat - ((and64 c (255 : Int)).tmod ↑m).toNat) k)
                          (fun h =>
                            [Value.int IntKind.i64 (t (0 + Int.toNat (0 : Int))).x,
                              Value.int IntKind.i64 (t (0 + Int.toNat (0 : Int))).y,
                              Value.int IntKind.i64 (t (0 + Int.toNat (0 : Int))).w,
                              Value.int IntKind.i64 (t (0 + Int.toNat (0 : Int))).h])
                          (instDecidableEqNat k
                            (0 + (((m : Nat) : Int).toNat - ((and64 c (255 : Int)).tmod ↑m).toNat))) })]),
        yes
          ([i64 (0 : Int), i64 (0 : Int), i64 (0 : Int), i64 (0 : Int)] =
            [i64 (0 : Int), i64 (0 : Int), i64 (0 : Int), i64 (0 : Int)]),
        yes
          (([some
                (some
                  { t := 44, own := true,
                    c :=
                      Cont.lst 4
                        [[i64
                              (bX (fun j => encR (t j)) (0 + Int.toNat (0 : Int))
                                ((w64 ((and64 c (255 : Int)).tmod ↑m + (1 : Int))).toNat - Int.toNat (0 : Int))),
                            i64
                              (bY (fun j => encR (t j)) (0 + Int.toNat (0 : Int))
                                ((w64 ((and64 c (255 : Int)).tmod ↑m + (1 : Int))).toNat - Int.toNat (0 : Int))),
                            i64
                              (w64
                                (bX2 (fun j => encR (t j)) (0 + Int.toNat (0 : Int))
                                    ((w64 ((and64 c (255 : Int)).tmod ↑m + (1 : Int))).toNat - Int.toNat (0 : Int)) -
                                  bX (fun j => encR (t j)) (0 + Int.toNat (0 : Int))
                                    ((w64 ((and64 c (255 : Int)).tmod ↑m + (1 : Int))).toNat - Int.toNat (0 : Int)))),
                            i64
                              (w64
                                (bY2 (fun j => encR (t j)) (0 + Int.toNat (0 : Int))
                                    ((w64 ((and64 c (255 : Int)).tmod ↑m + (1 : Int))).toNat - Int.toNat (0 : Int)) -
                                  bY (fun j => encR (t j)) (0 + Int.toNat (0 : Int))
                                    ((w64 ((and64 c (255 : Int)).tmod ↑m + (1 : Int))).toNat - Int.toNat (0 : Int))))],
                          [i64
                              (bX
                                (updL
                                  (cat
                                    ti44.zero
                                    (fun i =>
                                      [].getD i
                                        ti44.zero)
                                    0 (fun j => encR (t j)) (0 + ((and64 c (255 : Int)).tmod ↑m).toNat)
                                    (((m : Nat) : Int).toNat - ((and64 c (255 : Int)).tmod ↑m).toNat))
                                  (0 + (((m : Nat) : Int).toNat - ((and64 c (255 : Int)).tmod ↑m).toNat))
                                  [[Value.int IntKind.i64 (t (0 + Int.toNat (0 : Int))).x,
                                      Value.int IntKind.i64 (t (0 + Int.toNat (0 : Int))).y,
                                      Value.int IntKind.i64 (t (0 + Int.toNat (0 : Int))).w,
                                      Value.int IntKind.i64 (t (0 + Int.toNat (0 : Int))).h]])
                                0
                                ((rowOf
                                      ti44
                                      (Cont.row (4)
                                        (0 + (((m : Nat) : Int).toNat - ((and64 c (255 : Int)).tmod ↑m).toNat))
                                        (cat
                                          ti44.zero
                                          (fun i =>
                                            [].getD i
                                              ti44.zero)
                                          0 (fun j => encR (t j))
                                          (0 + ((and64 c (255 : Int)).tmod ↑m).toNat)
                                          (((m : Nat) : Int).toNat - ((and64 c (255 : Int)).tmod ↑m).toNat)))).n +
                                  1)),
                            i64
                              (bY
                                (updL
                                  (cat
                                    ti44.zero
                                    (fun i =>
                                      [].getD i
                                        ti44.zero)
                                    0 (fun j => encR (t j)) (0 + ((and64 c (255 : Int)).tmod ↑m).toNat)
                                    (((m : Nat) : Int).toNat - ((and64 c (255 : Int)).tmod ↑m).toNat))
                                  (0 + (((m : Nat) : Int).toNat - ((and64 c (255 : Int)).tmod ↑m).toNat))
                                  [[Value.int IntKind.i64 (t (0 + Int.toNat (0 : Int))).x,
                                      Value.int IntKind.i64 (t (0 + Int.toNat (0 : Int))).y,
                                      Value.int IntKind.i64 (t (0 + Int.toNat (0 : Int))).w,
                                      Value.int IntKind.i64 (t (0 + Int.toNat (0 : Int))).h]])
                                0
                                ((rowOf
                                      ti44
                                      (Cont.row (4)
                                        (0 + (((m : Nat) : Int).toNat - ((and64 c (255 : Int)).tmod ↑m).toNat))
                                        (cat
                                          ti44.zero
                                          (fun i =>
                                            [].getD i
                                              ti44.zero)
                                          0 (fun j => encR (t j))
                                          (0 + ((and64 c (255 : Int)).tmod ↑m).toNat)
                                          (((m : Nat) : Int).toNat - ((and64 c (255 : Int)).tmod ↑m).toNat)))).n +
                                  1)),
                            i64
                              (w64
                                (bX2
                                    (updL
                                      (cat
                                        ti44.zero
                                        (fun i =>
                                          [].getD i
                                            ti44.zero)
                                        0 (fun j => encR (t j))
                                        (0 + ((and64 c (255 : Int)).tmod ↑m).toNat)
                                        (((m : Nat) : Int).toNat - ((and64 c (255 : Int)).tmod ↑m).toNat))
                                      (0 + (((m : Nat) : Int).toNat - ((and64 c (255 : Int)).tmod ↑m).toNat))
                                      [[Value.int IntKind.i64 (t (0 + Int.toNat (0 : Int))).x,
                                          Value.int IntKind.i64 (t (0 + Int.toNat (0 : Int))).y,
                                          Value.int IntKind.i64 (t (0 + Int.toNat (0 : Int))).w,
                                          Value.int IntKind.i64 (t (0 + Int.toNat (0 : Int))).h]])
                                    0
                                    ((rowOf
                                          ti44
                                          (Cont.row (4)
                                            (0 + (((m : Nat) : Int).toNat - ((and64 c (255 : Int)).tmod ↑m).toNat))
                                            (cat
                                              ti44.zero
                                              (fun i =>
                                                [].getD i
                                                  ti44.zero)
                                              0 (fun j => encR (t j))
                                              (0 + ((and64 c (255 : Int)).tmod ↑m).toNat)
                                              (((m : Nat) : Int).toNat - ((and64 c (255 : Int)).tmod ↑m).toNat)))).n +
                                      1) -
                                  bX
                                    (updL
                                      (cat
                                        ti44.zero
                                        (fun i =>
                                          [].getD i
                                            ti44.zero)
                                        0 (fun j => encR (t j))
                                        (0 + ((and64 c (255 : Int)).tmod ↑m).toNat)
                                        (((m : Nat) : Int).toNat - ((and64 c (255 : Int)).tmod ↑m).toNat))
                                      (0 + (((m : Nat) : Int).toNat - ((and64 c (255 : Int)).tmod ↑m).toNat))
                                      [[Value.int IntKind.i64 (t (0 + Int.toNat (0 : Int))).x,
                                          Value.int IntKind.i64 (t (0 + Int.toNat (0 : Int))).y,
                                          Value.int IntKind.i64 (t (0 + Int.toNat (0 : Int))).w,
                                          Value.int IntKind.i64 (t (0 + Int.toNat (0 : Int))).h]])
                                    0
                                    ((rowOf
                                          ti44
                                          (Cont.row (4)
                                            (0 + (((m : Nat) : Int).toNat - ((and64 c (255 : Int)).tmod ↑m).toNat))
                                            (cat
                                              ti44.zero
                                              (fun i =>
                                                [].getD i
                                                  ti44.zero)
                                              0 (fun j => encR (t j))
                                              (0 + ((and64 c (255 : Int)).tmod ↑m).toNat)
                                              (((m : Nat) : Int).toNat - ((and64 c (255 : Int)).tmod ↑m).toNat)))).n +
                                      1))),
                            i64
                              (w64
                                (bY2
                                    (updL
                                      (cat
                                        ti44.zero
                                        (fun i =>
                                          [].getD i
                                            ti44.zero)
                                        0 (fun j => encR (t j))
                                        (0 + ((and64 c (255 : Int)).tmod ↑m).toNat)
                                        (((m : Nat) : Int).toNat - ((and64 c (255 : Int)).tmod ↑m).toNat))
                                      (0 + (((m : Nat) : Int).toNat - ((and64 c (255 : Int)).tmod ↑m).toNat))
                                      [[Value.int IntKind.i64 (t (0 + Int.toNat (0 : Int))).x,
                                          Value.int IntKind.i64 (t (0 + Int.toNat (0 : Int))).y,
                                          Value.int IntKind.i64 (t (0 + Int.toNat (0 : Int))).w,
                                          Value.int IntKind.i64 (t (0 + Int.toNat (0 : Int))).h]])
                                    0
                                    ((rowOf
                                          ti44
                                          (Cont.row (4)
                                            (0 + (((m : Nat) : Int).toNat - ((and64 c (255 : Int)).tmod ↑m).toNat))
                                            (cat
                                              ti44.zero
                                              (fun i =>
                                                [].getD i
                                                  ti44.zero)
                                              0 (fun j => encR (t j))
                                              (0 + ((and64 c (255 : Int)).tmod ↑m).toNat)
                                              (((m : Nat) : Int).toNat - ((and64 c (255 : Int)).tmod ↑m).toNat)))).n +
                                      1) -
                                  bY
                                    (updL
                                      (cat
                                        ti44.zero
                                        (fun i =>
                                          [].getD i
                                            ti44.zero)
                                        0 (fun j => encR (t j))
                                        (0 + ((and64 c (255 : Int)).tmod ↑m).toNat)
                                        (((m : Nat) : Int).toNat - ((and64 c (255 : Int)).tmod ↑m).toNat))
                                      (0 + (((m : Nat) : Int).toNat - ((and64 c (255 : Int)).tmod ↑m).toNat))
                                      [[Value.int IntKind.i64 (t (0 + Int.toNat (0 : Int))).x,
                                          Value.int IntKind.i64 (t (0 + Int.toNat (0 : Int))).y,
                                          Value.int IntKind.i64 (t (0 + Int.toNat (0 : Int))).w,
                                          Value.int IntKind.i64 (t (0 + Int.toNat (0 : Int))).h]])
                                    0
                                    ((rowOf
                                          ti44
                                          (Cont.row (4)
                                            (0 + (((m : Nat) : Int).toNat - ((and64 c (255 : Int)).tmod ↑m).toNat))
                                            (cat
                                              ti44.zero
                                              (fun i =>
                                                [].getD i
                                                  ti44.zero)
                                              0 (fun j => encR (t j))
                                              (0 + ((and64 c (255 : Int)).tmod ↑m).toNat)
                                              (((m : Nat) : Int).toNat - ((and64 c (255 : Int)).tmod ↑m).toNat)))).n +
                                      1)))]]
                        [i64 (0 : Int), i64 (0 : Int), i64 (0 : Int), i64 (0 : Int)] })] : List (Option (Option ABlk))) =
            [some
                (some
                  { t := 44, own := true,
                    c :=
                      Cont.lst 4
                        [[i64
                              (bX (fun j => encR (t j)) (0 + Int.toNat (0 : Int))
                                ((w64 ((and64 c (255 : Int)).tmod ↑m + (1 : Int))).toNat - Int.toNat (0 : Int))),
                            i64
                              (bY (fun j => encR (t j)) (0 + Int.toNat (0 : Int))
                                ((w64 ((and64 c (255 : Int)).tmod ↑m + (1 : Int))).toNat - Int.toNat (0 : Int))),
                            i64
                              (w64
                                (bX2 (fun j => encR (t j)) (0 + Int.toNat (0 : Int))
                                    ((w64 ((and64 c (255 : Int)).tmod ↑m + (1 : Int))).toNat - Int.toNat (0 : Int)) -
                                  bX (fun j => encR (t j)) (0 + Int.toNat (0 : Int))
                                    ((w64 ((and64 c (255 : Int)).tmod ↑m + (1 : Int))).toNat - Int.toNat (0 : Int)))),
                            i64
                              (w64
                                (bY2 (fun j => encR (t j)) (0 + Int.toNat (0 : Int))
                                    ((w64 ((and64 c (255 : Int)).tmod ↑m + (1 : Int))).toNat - Int.toNat (0 : Int)) -
                                  bY (fun j => encR (t j)) (0 + Int.toNat (0 : Int))
                                    ((w64 ((and64 c (255 : Int)).tmod ↑m + (1 : Int))).toNat - Int.toNat (0 : Int))))],
                          [i64
                              (bX
                                (updL
                                  (cat
                                    ti44.zero
                                    (fun i =>
                                      [].getD i
                                        ti44.zero)
                                    0 (fun j => encR (t j)) (0 + ((and64 c (255 : Int)).tmod ↑m).toNat)
                                    (((m : Nat) : Int).toNat - ((and64 c (255 : Int)).tmod ↑m).toNat))
                                  (0 + (((m : Nat) : Int).toNat - ((and64 c (255 : Int)).tmod ↑m).toNat))
                                  [[Value.int IntKind.i64 (t (0 + Int.toNat (0 : Int))).x,
                                      Value.int IntKind.i64 (t (0 + Int.toNat (0 : Int))).y,
                                      Value.int IntKind.i64 (t (0 + Int.toNat (0 : Int))).w,
                                      Value.int IntKind.i64 (t (0 + Int.toNat (0 : Int))).h]])
                                0
                                ((rowOf
                                      ti44
                                      (Cont.row (4)
                                        (0 + (((m : Nat) : Int).toNat - ((and64 c (255 : Int)).tmod ↑m).toNat))
                                        (cat
                                          ti44.zero
                                          (fun i =>
                                            [].getD i
                                              ti44.zero)
                                          0 (fun j => encR (t j))
                                          (0 + ((and64 c (255 : Int)).tmod ↑m).toNat)
                                          (((m : Nat) : Int).toNat - ((and64 c (255 : Int)).tmod ↑m).toNat)))).n +
                                  1)),
                            i64
                              (bY
                                (updL
                                  (cat
                                    ti44.zero
                                    (fun i =>
                                      [].getD i
                                        ti44.zero)
                                    0 (fun j => encR (t j)) (0 + ((and64 c (255 : Int)).tmod ↑m).toNat)
                                    (((m : Nat) : Int).toNat - ((and64 c (255 : Int)).tmod ↑m).toNat))
                                  (0 + (((m : Nat) : Int).toNat - ((and64 c (255 : Int)).tmod ↑m).toNat))
                                  [[Value.int IntKind.i64 (t (0 + Int.toNat (0 : Int))).x,
                                      Value.int IntKind.i64 (t (0 + Int.toNat (0 : Int))).y,
                                      Value.int IntKind.i64 (t (0 + Int.toNat (0 : Int))).w,
                                      Value.int IntKind.i64 (t (0 + Int.toNat (0 : Int))).h]])
                                0
                                ((rowOf
                                      ti44
                                      (Cont.row (4)
                                        (0 + (((m : Nat) : Int).toNat - ((and64 c (255 : Int)).tmod ↑m).toNat))
                                        (cat
                                          ti44.zero
                                          (fun i =>
                                            [].getD i
                                              ti44.zero)
                                          0 (fun j => encR (t j))
                                          (0 + ((and64 c (255 : Int)).tmod ↑m).toNat)
                                          (((m : Nat) : Int).toNat - ((and64 c (255 : Int)).tmod ↑m).toNat)))).n +
                                  1)),
                            i64
                              (w64
                                (bX2
                                    (updL
                                      (cat
                                        ti44.zero
                                        (fun i =>
                                          [].getD i
                                            ti44.zero)
                                        0 (fun j => encR (t j))
                                        (0 + ((and64 c (255 : Int)).tmod ↑m).toNat)
                                        (((m : Nat) : Int).toNat - ((and64 c (255 : Int)).tmod ↑m).toNat))
                                      (0 + (((m : Nat) : Int).toNat - ((and64 c (255 : Int)).tmod ↑m).toNat))
                                      [[Value.int IntKind.i64 (t (0 + Int.toNat (0 : Int))).x,
                                          Value.int IntKind.i64 (t (0 + Int.toNat (0 : Int))).y,
                                          Value.int IntKind.i64 (t (0 + Int.toNat (0 : Int))).w,
                                          Value.int IntKind.i64 (t (0 + Int.toNat (0 : Int))).h]])
                                    0
                                    ((rowOf
                                          ti44
                                          (Cont.row (4)
                                            (0 + (((m : Nat) : Int).toNat - ((and64 c (255 : Int)).tmod ↑m).toNat))
                                            (cat
                                              ti44.zero
                                              (fun i =>
                                                [].getD i
                                                  ti44.zero)
                                              0 (fun j => encR (t j))
                                              (0 + ((and64 c (255 : Int)).tmod ↑m).toNat)
                                              (((m : Nat) : Int).toNat - ((and64 c (255 : Int)).tmod ↑m).toNat)))).n +
                                      1) -
                                  bX
                                    (updL
                                      (cat
                                        ti44.zero
                                        (fun i =>
                                          [].getD i
                                            ti44.zero)
                                        0 (fun j => encR (t j))
                                        (0 + ((and64 c (255 : Int)).tmod ↑m).toNat)
                                        (((m : Nat) : Int).toNat - ((and64 c (255 : Int)).tmod ↑m).toNat))
                                      (0 + (((m : Nat) : Int).toNat - ((and64 c (255 : Int)).tmod ↑m).toNat))
                                      [[Value.int IntKind.i64 (t (0 + Int.toNat (0 : Int))).x,
                                          Value.int IntKind.i64 (t (0 + Int.toNat (0 : Int))).y,
                                          Value.int IntKind.i64 (t (0 + Int.toNat (0 : Int))).w,
                                          Value.int IntKind.i64 (t (0 + Int.toNat (0 : Int))).h]])
                                    0
                                    ((rowOf
                                          ti44
                                          (Cont.row (4)
                                            (0 + (((m : Nat) : Int).toNat - ((and64 c (255 : Int)).tmod ↑m).toNat))
                                            (cat
                                              ti44.zero
                                              (fun i =>
                                                [].getD i
                                                  ti44.zero)
                                              0 (fun j => encR (t j))
                                              (0 + ((and64 c (255 : Int)).tmod ↑m).toNat)
                                              (((m : Nat) : Int).toNat - ((and64 c (255 : Int)).tmod ↑m).toNat)))).n +
                                      1))),
                            i64
                              (w64
                                (bY2
                                    (updL
                                      (cat
                                        ti44.zero
                                        (fun i =>
                                          [].getD i
                                            ti44.zero)
                                        0 (fun j => encR (t j))
                                        (0 + ((and64 c (255 : Int)).tmod ↑m).toNat)
                                        (((m : Nat) : Int).toNat - ((and64 c (255 : Int)).tmod ↑m).toNat))
                                      (0 + (((m : Nat) : Int).toNat - ((and64 c (255 : Int)).tmod ↑m).toNat))
                                      [[Value.int IntKind.i64 (t (0 + Int.toNat (0 : Int))).x,
                                          Value.int IntKind.i64 (t (0 + Int.toNat (0 : Int))).y,
                                          Value.int IntKind.i64 (t (0 + Int.toNat (0 : Int))).w,
                                          Value.int IntKind.i64 (t (0 + Int.toNat (0 : Int))).h]])
                                    0
                                    ((rowOf
                                          ti44
                                          (Cont.row (4)
                                            (0 + (((m : Nat) : Int).toNat - ((and64 c (255 : Int)).tmod ↑m).toNat))
                                            (cat
                                              ti44.zero
                                              (fun i =>
                                                [].getD i
                                                  ti44.zero)
                                              0 (fun j => encR (t j))
                                              (0 + ((and64 c (255 : Int)).tmod ↑m).toNat)
                                              (((m : Nat) : Int).toNat - ((and64 c (255 : Int)).tmod ↑m).toNat)))).n +
                                      1) -
                                  bY
                                    (updL
                                      (cat
                                        ti44.zero
                                        (fun i =>
                                          [].getD i
                                            ti44.zero)
                                        0 (fun j => encR (t j))
                                        (0 + ((and64 c (255 : Int)).tmod ↑m).toNat)
                                        (((m : Nat) : Int).toNat - ((and64 c (255 : Int)).tmod ↑m).toNat))
                                      (0 + (((m : Nat) : Int).toNat - ((and64 c (255 : Int)).tmod ↑m).toNat))
                                      [[Value.int IntKind.i64 (t (0 + Int.toNat (0 : Int))).x,
                                          Value.int IntKind.i64 (t (0 + Int.toNat (0 : Int))).y,
                                          Value.int IntKind.i64 (t (0 + Int.toNat (0 : Int))).w,
                                          Value.int IntKind.i64 (t (0 + Int.toNat (0 : Int))).h]])
                                    0
                                    ((rowOf
                                          ti44
                                          (Cont.row (4)
                                            (0 + (((m : Nat) : Int).toNat - ((and64 c (255 : Int)).tmod ↑m).toNat))
                                            (cat
                                              ti44.zero
                                              (fun i =>
                                                [].getD i
                                                  ti44.zero)
                                              0 (fun j => encR (t j))
                                              (0 + ((and64 c (255 : Int)).tmod ↑m).toNat)
                                              (((m : Nat) : Int).toNat - ((and64 c (255 : Int)).tmod ↑m).toNat)))).n +
                                      1)))]]
                        [i64 (0 : Int), i64 (0 : Int), i64 (0 : Int), i64 (0 : Int)] })]),
        !!(mnI
                  (bX
                    (updL
                      (cat
                        ti44.zero
                        (fun i =>
                          [].getD i
                            ti44.zero)
                        0 (fun j => encR (t j)) (0 + ((and64 c (255 : Int)).tmod ↑m).toNat)
                        (((m : Nat) : Int).toNat - ((and64 c (255 : Int)).tmod ↑m).toNat))
                      (0 + (((m : Nat) : Int).toNat - ((and64 c (255 : Int)).tmod ↑m).toNat))
                      [[Value.int IntKind.i64 (t (0 + Int.toNat (0 : Int))).x,
                          Value.int IntKind.i64 (t (0 + Int.toNat (0 : Int))).y,
                          Value.int IntKind.i64 (t (0 + Int.toNat (0 : Int))).w,
                          Value.int IntKind.i64 (t (0 + Int.toNat (0 : Int))).h]])
                    0
                    ((rowOf
                          ti44
                          (Cont.row (4)
                            (0 + (((m : Nat) : Int).toNat - ((and64 c (255 : Int)).tmod ↑m).toNat))
                            (cat
                              ti44.zero
                              (fun i =>
                                [].getD i
                                  ti44.zero)
                              0 (fun j => encR (t j)) (0 + ((and64 c (255 : Int)).tmod ↑m).toNat)
                              (((m : Nat) : Int).toNat - ((and64 c (255 : Int)).tmod ↑m).toNat)))).n +
                      1))
                  (bX (fun j => encR (t j)) (0 + Int.toNat (0 : Int))
                    ((w64 ((and64 c (255 : Int)).tmod ↑m + (1 : Int))).toNat - Int.toNat (0 : Int))) ==
                bX (fun j => encR (t j)) 0 m &&
              (mnI
                    (bY
                      (updL
                        (cat
                          ti44.zero
                          (fun i =>
                            [].getD i
                              ti44.zero)
                          0 (fun j => encR (t j)) (0 + ((and64 c (255 : Int)).tmod ↑m).toNat)
                          (((m : Nat) : Int).toNat - ((and64 c (255 : Int)).tmod ↑m).toNat))
                        (0 + (((m : Nat) : Int).toNat - ((and64 c (255 : Int)).tmod ↑m).toNat))
                        [[Value.int IntKind.i64 (t (0 + Int.toNat (0 : Int))).x,
                            Value.int IntKind.i64 (t (0 + Int.toNat (0 : Int))).y,
                            Value.int IntKind.i64 (t (0 + Int.toNat (0 : Int))).w,
                            Value.int IntKind.i64 (t (0 + Int.toNat (0 : Int))).h]])
                      0
                      ((rowOf
                            ti44
                            (Cont.row (4)
                              (0 + (((m : Nat) : Int).toNat - ((and64 c (255 : Int)).tmod ↑m).toNat))
                              (cat
                                ti44.zero
                                (fun i =>
                                  [].getD i
                                    ti44.zero)
                                0 (fun j => encR (t j)) (0 + ((and64 c (255 : Int)).tmod ↑m).toNat)
                                (((m : Nat) : Int).toNat - ((and64 c (255 : Int)).tmod ↑m).toNat)))).n +
                        1))
                    (bY (fun j => encR (t j)) (0 + Int.toNat (0 : Int))
                      ((w64 ((and64 c (255 : Int)).tmod ↑m + (1 : Int))).toNat - Int.toNat (0 : Int))) ==
                  bY (fun j => encR (t j)) 0 m &&
                (w64
                      (mxI
                          (w64
                            (bX
                                (updL
                                  (cat
                                    ti44.zero
                                    (fun i =>
                                      [].getD i
                                        ti44.zero)
                                    0 (fun j => encR (t j)) (0 + ((and64 c (255 : Int)).tmod ↑m).toNat)
                                    (((m : Nat) : Int).toNat - ((and64 c (255 : Int)).tmod ↑m).toNat))
                                  (0 + (((m : Nat) : Int).toNat - ((and64 c (255 : Int)).tmod ↑m).toNat))
                                  [[Value.int IntKind.i64 (t (0 + Int.toNat (0 : Int))).x,
                                      Value.int IntKind.i64 (t (0 + Int.toNat (0 : Int))).y,
                                      Value.int IntKind.i64 (t (0 + Int.toNat (0 : Int))).w,
                                      Value.int IntKind.i64 (t (0 + Int.toNat (0 : Int))).h]])
                                0
                                ((rowOf
                                      ti44
                                      (Cont.row (4)
                                        (0 + (((m : Nat) : Int).toNat - ((and64 c (255 : Int)).tmod ↑m).toNat))
                                        (cat
                                          ti44.zero
                                          (fun i =>
                                            [].getD i
                                              ti44.zero)
                                          0 (fun j => encR (t j))
                                          (0 + ((and64 c (255 : Int)).tmod ↑m).toNat)
                                          (((m : Nat) : Int).toNat - ((and64 c (255 : Int)).tmod ↑m).toNat)))).n +
                                  1) +
                              w64
                                (bX2
                                    (updL
                                      (cat
                                        ti44.zero
                                        (fun i =>
                                          [].getD i
                                            ti44.zero)
                                        0 (fun j => encR (t j))
                                        (0 + ((and64 c (255 : Int)).tmod ↑m).toNat)
                                        (((m : Nat) : Int).toNat - ((and64 c (255 : Int)).tmod ↑m).toNat))
                                      (0 + (((m : Nat) : Int).toNat - ((and64 c (255 : Int)).tmod ↑m).toNat))
                                      [[Value.int IntKind.i64 (t (0 + Int.toNat (0 : Int))).x,
                                          Value.int IntKind.i64 (t (0 + Int.toNat (0 : Int))).y,
                                          Value.int IntKind.i64 (t (0 + Int.toNat (0 : Int))).w,
                                          Value.int IntKind.i64 (t (0 + Int.toNat (0 : Int))).h]])
                                    0
                                    ((rowOf
                                          ti44
                                          (Cont.row (4)
                                            (0 + (((m : Nat) : Int).toNat - ((and64 c (255 : Int)).tmod ↑m).toNat))
                                            (cat
                                              ti44.zero
                                              (fun i =>
                                                [].getD i
                                                  ti44.zero)
                                              0 (fun j => encR (t j))
                                              (0 + ((and64 c (255 : Int)).tmod ↑m).toNat)
                                              (((m : Nat) : Int).toNat - ((and64 c (255 : Int)).tmod ↑m).toNat)))).n +
                                      1) -
                                  bX
                                    (updL
                                      (cat
                                        ti44.zero
                                        (fun i =>
                                          [].getD i
                                            ti44.zero)
                                        0 (fun j => encR (t j))
                                        (0 + ((and64 c (255 : Int)).tmod ↑m).toNat)
                                        (((m : Nat) : Int).toNat - ((and64 c (255 : Int)).tmod ↑m).toNat))
                                      (0 + (((m : Nat) : Int).toNat - ((and64 c (255 : Int)).tmod ↑m).toNat))
                                      [[Value.int IntKind.i64 (t (0 + Int.toNat (0 : Int))).x,
                                          Value.int IntKind.i64 (t (0 + Int.toNat (0 : Int))).y,
                                          Value.int IntKind.i64 (t (0 + Int.toNat (0 : Int))).w,
                                          Value.int IntKind.i64 (t (0 + Int.toNat (0 : Int))).h]])
                                    0
                                    ((rowOf
                                          ti44
                                          (Cont.row (4)
                                            (0 + (((m : Nat) : Int).toNat - ((and64 c (255 : Int)).tmod ↑m).toNat))
                                            (cat
                                              ti44.zero
                                              (fun i =>
                                                [].getD i
                                                  ti44.zero)
                                              0 (fun j => encR (t j))
                                              (0 + ((and64 c (255 : Int)).tmod ↑m).toNat)
                                              (((m : Nat) : Int).toNat - ((and64 c (255 : Int)).tmod ↑m).toNat)))).n +
                                      1))))
                          (w64
                            (bX (fun j => encR (t j)) (0 + Int.toNat (0 : Int))
                                ((w64 ((and64 c (255 : Int)).tmod ↑m + (1 : Int))).toNat - Int.toNat (0 : Int)) +
                              w64
                                (bX2 (fun j => encR (t j)) (0 + Int.toNat (0 : Int))
                                    ((w64 ((and64 c (255 : Int)).tmod ↑m + (1 : Int))).toNat - Int.toNat (0 : Int)) -
                                  bX (fun j => encR (t j)) (0 + Int.toNat (0 : Int))
                                    ((w64 ((and64 c (255 : Int)).tmod ↑m + (1 : Int))).toNat - Int.toNat (0 : Int))))) -
                        mnI
                          (bX
                            (updL
                              (cat
                                ti44.zero
                                (fun i =>
                                  [].getD i
                                    ti44.zero)
                                0 (fun j => encR (t j)) (0 + ((and64 c (255 : Int)).tmod ↑m).toNat)
                                (((m : Nat) : Int).toNat - ((and64 c (255 : Int)).tmod ↑m).toNat))
                              (0 + (((m : Nat) : Int).toNat - ((and64 c (255 : Int)).tmod ↑m).toNat))
                              [[Value.int IntKind.i64 (t (0 + Int.toNat (0 : Int))).x,
                                  Value.int IntKind.i64 (t (0 + Int.toNat (0 : Int))).y,
                                  Value.int IntKind.i64 (t (0 + Int.toNat (0 : Int))).w,
                                  Value.int IntKind.i64 (t (0 + Int.toNat (0 : Int))).h]])
                            0
                            ((rowOf
                                  ti44
                                  (Cont.row (4)
                                    (0 + (((m : Nat) : Int).toNat - ((and64 c (255 : Int)).tmod ↑m).toNat))
                                    (cat
                                      ti44.zero
                                      (fun i =>
                                        [].getD i
                                          ti44.zero)
                                      0 (fun j => encR (t j))
                                      (0 + ((and64 c (255 : Int)).tmod ↑m).toNat)
                                      (((m : Nat) : Int).toNat - ((and64 c (255 : Int)).tmod ↑m).toNat)))).n +
                              1))
                          (bX (fun j => encR (t j)) (0 + Int.toNat (0 : Int))
                            ((w64 ((and64 c (255 : Int)).tmod ↑m + (1 : Int))).toNat - Int.toNat (0 : Int)))) ==
                    w64 (bX2 (fun j => encR (t j)) 0 m - bX (fun j => encR (t j)) 0 m) &&
                  (w64
                        (mxI
                            (w64
                              (bY
                                  (updL
                                    (cat
                                      ti44.zero
                                      (fun i =>
                                        [].getD i
                                          ti44.zero)
                                      0 (fun j => encR (t j))
                                      (0 + ((and64 c (255 : Int)).tmod ↑m).toNat)
                                      (((m : Nat) : Int).toNat - ((and64 c (255 : Int)).tmod ↑m).toNat))
                                    (0 + (((m : Nat) : Int).toNat - ((and64 c (255 : Int)).tmod ↑m).toNat))
                                    [[Value.int IntKind.i64 (t (0 + Int.toNat (0 : Int))).x,
                                        Value.int IntKind.i64 (t (0 + Int.toNat (0 : Int))).y,
                                        Value.int IntKind.i64 (t (0 + Int.toNat (0 : Int))).w,
                                        Value.int IntKind.i64 (t (0 + Int.toNat (0 : Int))).h]])
                                  0
                                  ((rowOf
                                        ti44
                                        (Cont.row (4)
                                          (0 + (((m : Nat) : Int).toNat - ((and64 c (255 : Int)).tmod ↑m).toNat))
                                          (cat
                                            ti44.zero
                                            (fun i =>
                                              [].getD i
                                                ti44.zero)
                                            0 (fun j => encR (t j))
                                            (0 + ((and64 c (255 : Int)).tmod ↑m).toNat)
                                            (((m : Nat) : Int).toNat - ((and64 c (255 : Int)).tmod ↑m).toNat)))).n +
                                    1) +
                                w64
                                  (bY2
                                      (updL
                                        (cat
                                          ti44.zero
                                          (fun i =>
                                            [].getD i
                                              ti44.zero)
                                          0 (fun j => encR (t j))
                                          (0 + ((and64 c (255 : Int)).tmod ↑m).toNat)
                                          (((m : Nat) : Int).toNat - ((and64 c (255 : Int)).tmod ↑m).toNat))
                                        (0 + (((m : Nat) : Int).toNat - ((and64 c (255 : Int)).tmod ↑m).toNat))
                                        [[Value.int IntKind.i64 (t (0 + Int.toNat (0 : Int))).x,
                                            Value.int IntKind.i64 (t (0 + Int.toNat (0 : Int))).y,
                                            Value.int IntKind.i64 (t (0 + Int.toNat (0 : Int))).w,
                                            Value.int IntKind.i64 (t (0 + Int.toNat (0 : Int))).h]])
                                      0
                                      ((rowOf
                                            ti44
                                            (Cont.row (4)
                                              (0 + (((m : Nat) : Int).toNat - ((and64 c (255 : Int)).tmod ↑m).toNat))
                                              (cat
                                                ti44.zero
                                                (fun i =>
                                                  [].getD i
                                                    ti44.zero)
                                                0 (fun j => encR (t j))
                                                (0 + ((and64 c (255 : Int)).tmod ↑m).toNat)
                                                (((m : Nat) : Int).toNat - ((and64 c (255 : Int)).tmod ↑m).toNat)))).n +
                                        1) -
                                    bY
                                      (updL
                                        (cat
                                          ti44.zero
                                          (fun i =>
                                            [].getD i
                                              ti44.zero)
                                          0 (fun j => encR (t j))
                                          (0 + ((and64 c (255 : Int)).tmod ↑m).toNat)
                                          (((m : Nat) : Int).toNat - ((and64 c (255 : Int)).tmod ↑m).toNat))
                                        (0 + (((m : Nat) : Int).toNat - ((and64 c (255 : Int)).tmod ↑m).toNat))
                                        [[Value.int IntKind.i64 (t (0 + Int.toNat (0 : Int))).x,
                                            Value.int IntKind.i64 (t (0 + Int.toNat (0 : Int))).y,
                                            Value.int IntKind.i64 (t (0 + Int.toNat (0 : Int))).w,
                                            Value.int IntKind.i64 (t (0 + Int.toNat (0 : Int))).h]])
                                      0
                                      ((rowOf
                                            ti44
                                            (Cont.row (4)
                                              (0 + (((m : Nat) : Int).toNat - ((and64 c (255 : Int)).tmod ↑m).toNat))
                                              (cat
                                                ti44.zero
                                                (fun i =>
                                                  [].getD i
                                                    ti44.zero)
                                                0 (fun j => encR (t j))
                                                (0 + ((and64 c (255 : Int)).tmod ↑m).toNat)
                                                (((m : Nat) : Int).toNat - ((and64 c (255 : Int)).tmod ↑m).toNat)))).n +
                                        1))))
                            (w64
                              (bY (fun j => encR (t j)) (0 + Int.toNat (0 : Int))
                                  ((w64 ((and64 c (255 : Int)).tmod ↑m + (1 : Int))).toNat - Int.toNat (0 : Int)) +
                                w64
                                  (bY2 (fun j => encR (t j)) (0 + Int.toNat (0 : Int))
                                      ((w64 ((and64 c (255 : Int)).tmod ↑m + (1 : Int))).toNat - Int.toNat (0 : Int)) -
                                    bY (fun j => encR (t j)) (0 + Int.toNat (0 : Int))
                                      ((w64 ((and64 c (255 : Int)).tmod ↑m + (1 : Int))).toNat -
                                        Int.toNat (0 : Int))))) -
                          mnI
                            (bY
                              (updL
                                (cat
                                  ti44.zero
                                  (fun i =>
                                    [].getD i
                                      ti44.zero)
                                  0 (fun j => encR (t j)) (0 + ((and64 c (255 : Int)).tmod ↑m).toNat)
                                  (((m : Nat) : Int).toNat - ((and64 c (255 : Int)).tmod ↑m).toNat))
                                (0 + (((m : Nat) : Int).toNat - ((and64 c (255 : Int)).tmod ↑m).toNat))
                                [[Value.int IntKind.i64 (t (0 + Int.toNat (0 : Int))).x,
                                    Value.int IntKind.i64 (t (0 + Int.toNat (0 : Int))).y,
                                    Value.int IntKind.i64 (t (0 + Int.toNat (0 : Int))).w,
                                    Value.int IntKind.i64 (t (0 + Int.toNat (0 : Int))).h]])
                              0
                              ((rowOf
                                    ti44
                                    (Cont.row (4)
                                      (0 + (((m : Nat) : Int).toNat - ((and64 c (255 : Int)).tmod ↑m).toNat))
                                      (cat
                                        ti44.zero
                                        (fun i =>
                                          [].getD i
                                            ti44.zero)
                                        0 (fun j => encR (t j))
                                        (0 + ((and64 c (255 : Int)).tmod ↑m).toNat)
                                        (((m : Nat) : Int).toNat - ((and64 c (255 : Int)).tmod ↑m).toNat)))).n +
                                1))
                            (bY (fun j => encR (t j)) (0 + Int.toNat (0 : Int))
                              ((w64 ((and64 c (255 : Int)).tmod ↑m + (1 : Int))).toNat - Int.toNat (0 : Int)))) ==
                      w64 (bY2 (fun j => encR (t j)) 0 m - bY (fun j => encR (t j)) 0 m) &&
                    true)))),
        yes (was 48 (bodyOf Try.f9 1) (jqB k g m t)), true, true, true, true, true, true, true, true],
      Bo true,
      [some
          { t := 44, own := false,
            c :=
              Cont.row 4 k fun i =>
                [Value.int IntKind.i64 (g i).x, Value.int IntKind.i64 (g i).y, Value.int IntKind.i64 (g i).w,
                  Value.int IntKind.i64 (g i).h] }]) := by kernel_rfl
end Go.Proofs.Ytcpahifgdppkbaa.QAI
