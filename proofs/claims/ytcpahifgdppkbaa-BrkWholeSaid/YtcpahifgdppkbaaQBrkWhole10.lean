/- BrkWhole: the walk. -/
import Derived.Test.YtcpahifgdppkbaaQBrkWhole9
section
set_option linter.unusedVariables false
set_option linter.unusedSimpArgs false
namespace Go.Proofs.Ytcpahifgdppkbaa.QAI
open Go Go.RowKit
set_option maxRecDepth 100000
abbrev whK1 : List (Nat × Option TypeId) := [(0,none),(1,none),(2,none),(7,none),(8,none)]
abbrev whK2 : List (Nat × Option TypeId) := [(0,none),(1,none),(2,none),(7,none),(9,none)]
noncomputable def whG : Ctx2 := GT KBT (fun k => if k = 5 then whK1 else if k = 10 then whK2 else []) 0 []
theorem whG_ok : XOk whG := GT_ok KBT_ok _ _ _
def rowU (W : Nat → Int) : Option ABlk := some ⟨102, true, .row 1 2 fun j => [.int .i64 (W j)]⟩
def whS1 (k k' : Nat) (R R' : Nat → Gl) (n m : Nat) (X Y : Nat → Gl) (A : Int) (W : Nat → Int) (i : Int) : St := ⟨slots 136 [(0, .c (.sl 2 0 n)), (1, .c (.sl 3 0 m)), (2, I64 A), (7, .c (.ptr 4 0 0)), (8, I64 i)], [rowGo false k R, rowGo false k' R', rowGl n X, rowGl m Y, rowU W]⟩
def whS2 (k k' : Nat) (R R' : Nat → Gl) (n m : Nat) (X Y : Nat → Gl) (A : Int) (W : Nat → Int) (i : Int) : St := ⟨slots 136 [(0, .c (.sl 2 0 n)), (1, .c (.sl 3 0 m)), (2, I64 A), (7, .c (.ptr 4 0 0)), (9, I64 i)], [rowGo false k R, rowGo false k' R', rowGl n X, rowGl m Y, rowU W]⟩
def setK (c : Int) (i : Nat) (L : Nat → Gl) : Nat → Gl := fun j => if j < i then ⟨c, (L j).r, (L j).a, (L j).w⟩ else L j
def wU1 (s : Int) : Nat → Int := fun j => if j = 0 then s else 0
def wU2 (s t : Int) : Nat → Int := fun j => if j = 0 then s else if j = 1 then t else 0
theorem wh1_go {k k' : Nat} {R R' : Nat → Gl} {n m : Nat} {X Y : Nat → Gl} {A : Int} {W : Nat → Int} {i : Int} : (rT whG nol 2 52 (bodyOf Try.f27 0) whK1 whK1 (whS1 k k' R R' n m X Y A W i)).go [] =
  some
    ([decide (i < ((n : Nat) : Int)), decide ((0 : Int) ≤ i), decide (i < ((n : Nat) : Int)), decide (0 + i.toNat < n), true, true, true,
        decide ((0 : Int) ≤ i), decide (i < ((n : Nat) : Int)), decide (0 + i.toNat < n), true, true, true],
      Ex.normal,
      {
        sl :=
          slots 136
            [(0, AV.c (AC.sl 2 0 n)), (1, AV.c (AC.sl 3 0 m)),
              (2, I64 A), (7, AV.c (AC.ptr 4 0 0)),
              (8, I64 (w64 (i + (1 : Int))))],
        h :=
          [some
              { t := 87, own := false,
                c :=
                  Cont.row 4 k fun j =>
                    [Value.int IntKind.i64 (R j).k, Value.int IntKind.i64 (R j).r, Value.int IntKind.i64 (R j).a,
                      Value.int IntKind.i64 (R j).w] },
            some
              { t := 87, own := false,
                c :=
                  Cont.row 4 k' fun j =>
                    [Value.int IntKind.i64 (R' j).k, Value.int IntKind.i64 (R' j).r, Value.int IntKind.i64 (R' j).a,
                      Value.int IntKind.i64 (R' j).w] },
            some
              { t := 87, own := true,
                c :=
                  Cont.row 4 n fun k =>
                    [Value.int IntKind.i64 (bif decide (k = 0 + i.toNat) then (1 : Int) else (X k).k),
                      Value.int IntKind.i64
                        (bif decide (k = 0 + i.toNat) then (X (0 + i.toNat)).r else (X k).r),
                      Value.int IntKind.i64
                        (bif decide (k = 0 + i.toNat) then (X (0 + i.toNat)).a else (X k).a),
                      Value.int IntKind.i64
                        (bif decide (k = 0 + i.toNat) then (X (0 + i.toNat)).w else (X k).w)] },
            some
              { t := 87, own := true,
                c :=
                  Cont.row 4 m fun j =>
                    [Value.int IntKind.i64 (Y j).k, Value.int IntKind.i64 (Y j).r, Value.int IntKind.i64 (Y j).a,
                      Value.int IntKind.i64 (Y j).w] },
            some
              { t := 102, own := true,
                c :=
                  Cont.row 1 2 fun k =>
                    [Value.int IntKind.i64
                        (bif decide (k = 0) then
                          w64
                            (W 0 +
                              bif decide (0 + i.toNat = 0 + i.toNat) then (X (0 + i.toNat)).w
                              else (X (0 + i.toNat)).w)
                        else W k)] }] }) := by kernel_rfl
theorem wh1_e {k k' : Nat} {R R' : Nat → Gl} {n m : Nat} {X Y : Nat → Gl} {A : Int} {W : Nat → Int} {i : Int} : (rT whG nol 2 52 (bodyOf Try.f27 0) whK1 whK1 (whS1 k k' R R' n m X Y A W i)).go [false] =
  some
    ([!decide (i < ((n : Nat) : Int))], Ex.exit 0,
      {
        sl :=
          slots 136
            [(0, AV.c (AC.sl 2 0 n)), (1, AV.c (AC.sl 3 0 m)),
              (2, I64 A), (7, AV.c (AC.ptr 4 0 0)), (8, I64 i)],
        h :=
          [some
              { t := 87, own := false,
                c :=
                  Cont.row 4 k fun j =>
                    [Value.int IntKind.i64 (R j).k, Value.int IntKind.i64 (R j).r, Value.int IntKind.i64 (R j).a,
                      Value.int IntKind.i64 (R j).w] },
            some
              { t := 87, own := false,
                c :=
                  Cont.row 4 k' fun j =>
                    [Value.int IntKind.i64 (R' j).k, Value.int IntKind.i64 (R' j).r, Value.int IntKind.i64 (R' j).a,
                      Value.int IntKind.i64 (R' j).w] },
            some
              { t := 87, own := true,
                c :=
                  Cont.row 4 n fun j =>
                    [Value.int IntKind.i64 (X j).k, Value.int IntKind.i64 (X j).r, Value.int IntKind.i64 (X j).a,
                      Value.int IntKind.i64 (X j).w] },
            some
              { t := 87, own := true,
                c :=
                  Cont.row 4 m fun j =>
                    [Value.int IntKind.i64 (Y j).k, Value.int IntKind.i64 (Y j).r, Value.int IntKind.i64 (Y j).a,
                      Value.int IntKind.i64 (Y j).w] },
            some
              { t := 102, own := true,
                c := Cont.row 1 2 fun j => [Value.int IntKind.i64 (W j)] }] }) := by kernel_rfl
theorem wh2_go {k k' : Nat} {R R' : Nat → Gl} {n m : Nat} {X Y : Nat → Gl} {A : Int} {W : Nat → Int} {i : Int} : (rT whG nol 2 51 (bodyOf Try.f27 1) whK2 whK2 (whS2 k k' R R' n m X Y A W i)).go [] =
  some
    ([decide (i < ((m : Nat) : Int)), decide ((0 : Int) ≤ i), decide (i < ((m : Nat) : Int)), decide (0 + i.toNat < m), true, true, true,
        decide ((0 : Int) ≤ i), decide (i < ((m : Nat) : Int)), decide (0 + i.toNat < m), true, true, true],
      Ex.normal,
      {
        sl :=
          slots 136
            [(0, AV.c (AC.sl 2 0 n)), (1, AV.c (AC.sl 3 0 m)),
              (2, I64 A), (7, AV.c (AC.ptr 4 0 0)),
              (9, I64 (w64 (i + (1 : Int))))],
        h :=
          [some
              { t := 87, own := false,
                c :=
                  Cont.row 4 k fun j =>
                    [Value.int IntKind.i64 (R j).k, Value.int IntKind.i64 (R j).r, Value.int IntKind.i64 (R j).a,
                      Value.int IntKind.i64 (R j).w] },
            some
              { t := 87, own := false,
                c :=
                  Cont.row 4 k' fun j =>
                    [Value.int IntKind.i64 (R' j).k, Value.int IntKind.i64 (R' j).r, Value.int IntKind.i64 (R' j).a,
                      Value.int IntKind.i64 (R' j).w] },
            some
              { t := 87, own := true,
                c :=
                  Cont.row 4 n fun j =>
                    [Value.int IntKind.i64 (X j).k, Value.int IntKind.i64 (X j).r, Value.int IntKind.i64 (X j).a,
                      Value.int IntKind.i64 (X j).w] },
            some
              { t := 87, own := true,
                c :=
                  Cont.row 4 m fun k =>
                    [Value.int IntKind.i64 (bif decide (k = 0 + i.toNat) then (3 : Int) else (Y k).k),
                      Value.int IntKind.i64
                        (bif decide (k = 0 + i.toNat) then (Y (0 + i.toNat)).r else (Y k).r),
                      Value.int IntKind.i64
                        (bif decide (k = 0 + i.toNat) then (Y (0 + i.toNat)).a else (Y k).a),
                      Value.int IntKind.i64
                        (bif decide (k = 0 + i.toNat) then (Y (0 + i.toNat)).w else (Y k).w)] },
            some
              { t := 102, own := true,
                c :=
                  Cont.row 1 2 fun k =>
                    [Value.int IntKind.i64
                        (bif decide (k = 1) then
                          w64
                            (W 1 +
                              bif decide (0 + i.toNat = 0 + i.toNat) then (Y (0 + i.toNat)).w
                              else (Y (0 + i.toNat)).w)
                        else W k)] }] }) := by kernel_rfl
theorem wh2_e {k k' : Nat} {R R' : Nat → Gl} {n m : Nat} {X Y : Nat → Gl} {A : Int} {W : Nat → Int} {i : Int} : (rT whG nol 2 51 (bodyOf Try.f27 1) whK2 whK2 (whS2 k k' R R' n m X Y A W i)).go [false] =
  some
    ([!decide (i < ((m : Nat) : Int))], Ex.exit 2,
      {
        sl :=
          slots 136
            [(0, AV.c (AC.sl 2 0 n)), (1, AV.c (AC.sl 3 0 m)),
              (2, I64 A), (7, AV.c (AC.ptr 4 0 0)), (9, I64 i)],
        h :=
          [some
              { t := 87, own := false,
                c :=
                  Cont.row 4 k fun j =>
                    [Value.int IntKind.i64 (R j).k, Value.int IntKind.i64 (R j).r, Value.int IntKind.i64 (R j).a,
                      Value.int IntKind.i64 (R j).w] },
            some
              { t := 87, own := false,
                c :=
                  Cont.row 4 k' fun j =>
                    [Value.int IntKind.i64 (R' j).k, Value.int IntKind.i64 (R' j).r, Value.int IntKind.i64 (R' j).a,
                      Value.int IntKind.i64 (R' j).w] },
            some
              { t := 87, own := true,
                c :=
                  Cont.row 4 n fun j =>
                    [Value.int IntKind.i64 (X j).k, Value.int IntKind.i64 (X j).r, Value.int IntKind.i64 (X j).a,
                      Value.int IntKind.i64 (X j).w] },
            some
              { t := 87, own := true,
                c :=
                  Cont.row 4 m fun j =>
                    [Value.int IntKind.i64 (Y j).k, Value.int IntKind.i64 (Y j).r, Value.int IntKind.i64 (Y j).a,
                      Value.int IntKind.i64 (Y j).w] },
            some
              { t := 102, own := true,
                c := Cont.row 1 2 fun j => [Value.int IntKind.i64 (W j)] }] }) := by kernel_rfl
def whA (A : Int) : Int := A.tmod 1099511627776
def whX (k : Nat) (R : Nat → Gl) : Nat → Gl := setK 1 (m200 k) (blT k R)
def whY (k : Nat) (R : Nat → Gl) : Nat → Gl := setK 3 (m200 k) (blT k R)
def whs (k : Nat) (R : Nat → Gl) : Int := sw (blT k R) 0 (m200 k)
noncomputable def whV (k k' : Nat) (R R' : Nat → Gl) (A : Int) : Loops :=
  byReg 5 (tell (bodyOf Try.f27 0) (whS1 k k' R R' (m200 k) (m200 k') (blT k R) (blT k' R') (whA A) (fun _ => 0) 0) (.exit 0, whS1 k k' R R' (m200 k) (m200 k') (whX k R) (blT k' R') (whA A) (wU1 (whs k R)) (m200 k)))
    (tell (bodyOf Try.f27 1) (whS2 k k' R R' (m200 k) (m200 k') (whX k R) (blT k' R') (whA A) (wU1 (whs k R)) 0) (.exit 2, whS2 k k' R R' (m200 k) (m200 k') (whX k R) (whY k' R') (whA A) (wU2 (whs k R) (whs k' R')) (m200 k')))
def whQ (k k' : Nat) (R R' : Nat → Gl) : Nat → List Value := cat [Value.int IntKind.i64 (0 : Int), Value.int IntKind.i64 (0 : Int), Value.int IntKind.i64 (0 : Int), Value.int IntKind.i64 (0 : Int)] (updL (cat [Value.int IntKind.i64 (0 : Int), Value.int IntKind.i64 (0 : Int), Value.int IntKind.i64 (0 : Int), Value.int IntKind.i64 (0 : Int)] (fun i => [Value.int IntKind.i64 (0 : Int), Value.int IntKind.i64 (0 : Int), Value.int IntKind.i64 (0 : Int), Value.int IntKind.i64 (0 : Int)]) 0 (fun j => encG (whX k R j)) 0 (m200 k)) (0 + m200 k) [[Value.int IntKind.i64 (4 : Int), Value.int IntKind.i64 (0 : Int), Value.int IntKind.i64 (0 : Int), Value.int IntKind.i64 (0 : Int)]]) (0 + m200 k + 1) (fun j => encG (whY k' R' j)) 0 (m200 k')
theorem wh_w0 {k k' : Nat} {R R' : Nat → Gl} {A : Int} : (lfun whG (whV k k' R R' A) 60 Try.f27 [.c (.sl 0 0 k), .c (.sl 1 0 k'), I64 A] [rowGo false k R, rowGo false k' R']).go [] =
  some ([true, yes (0 + k ≤ k ∧ (fun j => encG (R j)) = fun j => encG (decG (encG (R j)))), yes (0 + k' ≤ k' ∧ (fun j => encG (R' j)) = fun j => encG (decG (encG (R' j)))), yes (wasS (bodyOf Try.f27 0) (whS1 k k' R R' (m200 k) (m200 k') (blT k R) (blT k' R') (whA A) (fun _ => 0) 0)), yes (wasS (bodyOf Try.f27 1) (whS2 k k' R R' (m200 k) (m200 k') (whX k R) (blT k' R') (whA A) (wU1 (whs k R)) 0)), ((m200 k : Nat) : Int) == (0 : Int), true, true, true, true], Bo true, [some { t := 87, own := false, c := Cont.row 4 k fun j => [Value.int IntKind.i64 (R j).k, Value.int IntKind.i64 (R j).r, Value.int IntKind.i64 (R j).a, Value.int IntKind.i64 (R j).w] }, some { t := 87, own := false, c := Cont.row 4 k' fun j => [Value.int IntKind.i64 (R' j).k, Value.int IntKind.i64 (R' j).r, Value.int IntKind.i64 (R' j).a, Value.int IntKind.i64 (R' j).w] }]) := by kernel_rfl
theorem wh_w1 {k k' : Nat} {R R' : Nat → Gl} {A : Int} : (lfun whG (whV k k' R R' A) 60 Try.f27 [.c (.sl 0 0 k), .c (.sl 1 0 k'), I64 A] [rowGo false k R, rowGo false k' R']).go [true, true, true, true, true, false, false, false, false] =
  some ([true, yes (0 + k ≤ k ∧ (fun j => encG (R j)) = fun j => encG (decG (encG (R j)))), yes (0 + k' ≤ k' ∧ (fun j => encG (R' j)) = fun j => encG (decG (encG (R' j)))), yes (wasS (bodyOf Try.f27 0) (whS1 k k' R R' (m200 k) (m200 k') (blT k R) (blT k' R') (whA A) (fun _ => 0) 0)), yes (wasS (bodyOf Try.f27 1) (whS2 k k' R R' (m200 k) (m200 k') (whX k R) (blT k' R') (whA A) (wU1 (whs k R)) 0)), !((m200 k : Nat) : Int) == (0 : Int), true, true, true, ((m200 k' : Nat) : Int) == (0 : Int)], Bo true, [some { t := 87, own := false, c := Cont.row 4 k fun j => [Value.int IntKind.i64 (R j).k, Value.int IntKind.i64 (R j).r, Value.int IntKind.i64 (R j).a, Value.int IntKind.i64 (R j).w] }, some { t := 87, own := false, c := Cont.row 4 k' fun j => [Value.int IntKind.i64 (R' j).k, Value.int IntKind.i64 (R' j).r, Value.int IntKind.i64 (R' j).a, Value.int IntKind.i64 (R' j).w] }]) := by kernel_rfl
theorem wh_w2 {k k' : Nat} {R R' : Nat → Gl} {A : Int} : (lfun whG (whV k k' R R' A) 60 Try.f27 [.c (.sl 0 0 k), .c (.sl 1 0 k'), I64 A] [rowGo false k R, rowGo false k' R']).go [true, true, true, true, true, false, false, false, false, false] =
  some ([true, yes (0 + k ≤ k ∧ (fun j => encG (R j)) = fun j => encG (decG (encG (R j)))), yes (0 + k' ≤ k' ∧ (fun j => encG (R' j)) = fun j => encG (decG (encG (R' j)))), yes (wasS (bodyOf Try.f27 0) (whS1 k k' R R' (m200 k) (m200 k') (blT k R) (blT k' R') (whA A) (fun _ => 0) 0)), yes (wasS (bodyOf Try.f27 1) (whS2 k k' R R' (m200 k) (m200 k') (whX k R) (blT k' R') (whA A) (wU1 (whs k R)) 0)), !((m200 k : Nat) : Int) == (0 : Int), true, true, true, !((m200 k' : Nat) : Int) == (0 : Int), true, decide (0 + m200 k ≤ m200 k), decide ((0 + m200 k) * 32 ≤ maxCells), decide (0 + m200 k = 0 + m200 k), true, decide ((0 + m200 k + 1) * 32 ≤ maxCells), decide (0 + m200 k + 1 = 0 + m200 k + 1), decide (0 + m200 k' ≤ m200 k'), decide ((0 + m200 k + 1 + m200 k') * 32 ≤ maxCells), yes (m200 k ≤ m200 k ∧ m200 k < 2 ^ 30 ∧ ((fun j => encG (whX k R j)) = fun j => encG (decG (encG (whX k R j)))) ∧ WOk fun j => decG (encG (whX k R j))), yes (0 + m200 k + 1 + m200 k' ≤ 0 + m200 k + 1 + m200 k' ∧ 0 + m200 k + 1 + m200 k' < 2 ^ 30 ∧ (whQ k k' R R' = fun j => encG (decG (whQ k k' R R' j))) ∧ WOk fun j => decG (whQ k k' R R' j)), ((lnC (m200 k) (fun j => decG (encG (whX k R j))) (whA A) : Nat) : Int) == (1 : Int), true, true, decide ((0 : Int) < ((lnC (m200 k) (fun j => decG (encG (whX k R j))) (whA A) : Nat) : Int)), true, decide (0 < lnC (m200 k) (fun j => decG (encG (whX k R j))) (whA A)), true, true, true, true, true, true, true, true, true, true, (spAt (lns (m200 k) (fun j => decG (encG (whX k R j))) (whA A)) 0).f == (0 : Int) && ((spAt (lns (m200 k) (fun j => decG (encG (whX k R j))) (whA A)) 0).t == ((m200 k : Nat) : Int) && ((spAt (lns (m200 k) (fun j => decG (encG (whX k R j))) (whA A)) 0).w == wU2 (whs k R) (whs k' R') 0 && true)), true, true, true, ((lnC (0 + m200 k + 1 + m200 k') (fun j => decG (whQ k k' R R' j)) (whA A) : Nat) : Int) == (2 : Int), true, true, decide ((0 : Int) < ((lnC (0 + m200 k + 1 + m200 k') (fun j => decG (whQ k k' R R' j)) (whA A) : Nat) : Int)), true, decide (0 < lnC (0 + m200 k + 1 + m200 k') (fun j => decG (whQ k k' R R' j)) (whA A)), true, true, true, decide ((0 : Int) < ((lnC (m200 k) (fun j => decG (encG (whX k R j))) (whA A) : Nat) : Int)), true, decide (0 < lnC (m200 k) (fun j => decG (encG (whX k R j))) (whA A)), true, true, (spAt (lns (0 + m200 k + 1 + m200 k') (fun j => decG (whQ k k' R R' j)) (whA A)) 0).f == (spAt (lns (m200 k) (fun j => decG (encG (whX k R j))) (whA A)) 0).f && ((spAt (lns (0 + m200 k + 1 + m200 k') (fun j => decG (whQ k k' R R' j)) (whA A)) 0).t == (spAt (lns (m200 k) (fun j => decG (encG (whX k R j))) (whA A)) 0).t && ((spAt (lns (0 + m200 k + 1 + m200 k') (fun j => decG (whQ k k' R R' j)) (whA A)) 0).w == (spAt (lns (m200 k) (fun j => decG (encG (whX k R j))) (whA A)) 0).w && true)), true, true, decide ((1 : Int) < ((lnC (0 + m200 k + 1 + m200 k') (fun j => decG (whQ k k' R R' j)) (whA A) : Nat) : Int)), true, decide (1 < lnC (0 + m200 k + 1 + m200 k') (fun j => decG (whQ k k' R R' j)) (whA A)), true, true, true, true, true, true, true, true, true, true, true, true, true, (spAt (lns (0 + m200 k + 1 + m200 k') (fun j => decG (whQ k k' R R' j)) (whA A)) 1).f == w64 (((m200 k : Nat) : Int) + (1 : Int)) && ((spAt (lns (0 + m200 k + 1 + m200 k') (fun j => decG (whQ k k' R R' j)) (whA A)) 1).t == ((0 + m200 k + 1 + m200 k' : Nat) : Int) && ((spAt (lns (0 + m200 k + 1 + m200 k') (fun j => decG (whQ k k' R R' j)) (whA A)) 1).w == wU2 (whs k R) (whs k' R') 1 && true)), true, true, true, true, true, true, true, true, true, true, true, true, yes (0 + m200 k + 1 + m200 k' ≤ 0 + m200 k + 1 + m200 k' ∧ 0 + m200 k + 1 + m200 k' < 2 ^ 30 ∧ (whQ k k' R R' = fun j => encG (decG (whQ k k' R R' j))) ∧ WOk fun j => decG (whQ k k' R R' j)), true, true, (lgS brk (fun j => decG (whQ k k' R R' j)) (0 + m200 k + 1 + m200 k')).fst == mxI (wU2 (whs k R) (whs k' R') 1) (wU2 (whs k R) (whs k' R') 0), true], Bo true, [some { t := 87, own := false, c := Cont.row 4 k fun j => [Value.int IntKind.i64 (R j).k, Value.int IntKind.i64 (R j).r, Value.int IntKind.i64 (R j).a, Value.int IntKind.i64 (R j).w] }, some { t := 87, own := false, c := Cont.row 4 k' fun j => [Value.int IntKind.i64 (R' j).k, Value.int IntKind.i64 (R' j).r, Value.int IntKind.i64 (R' j).a, Value.int IntKind.i64 (R' j).w] }]) := by kernel_rfl
end Go.Proofs.Ytcpahifgdppkbaa.QAI
end
section
/- BrkWhole: the plain law. -/
set_option linter.unusedVariables false
set_option linter.unusedSimpArgs false
namespace Go.Proofs.Ytcpahifgdppkbaa.QAI
open Go Go.RowKit
theorem wh_at {n : Nat} {L : Nat → Gl} {A : Int} {j : Nat} (hj : j < lnC n L A) {t : Nat} (hl : IsLine n L A (lnAt n L A j) t) : spAt (lns n L A) j = ⟨lnAt n L A j, t, sw L (lnAt n L A j) (t - lnAt n L A j)⟩ ∧ lnAt n L A (j + 1) = t + 1 := by
  refine ⟨?_, by rw [lnAt, hl.eq]; rfl⟩
  have e : spAt (lns n L A) j = spOf n L A (lnAt n L A j) := by
    unfold spAt lns lnsN
    rw [List.getD_eq_getElem?_getD, List.getElem?_map, List.getElem?_range hj]
    rfl
  rw [e, spOf, hl.eq]
theorem sw_congr {L L' : Nat → Gl} {o o' : Nat} : ∀ c, (∀ j, j < c → (L (o + j)).w = (L' (o' + j)).w) → sw L o c = sw L' o' c
  | 0, _ => rfl
  | c + 1, h => by rw [sw, sw, sw_congr c fun j hj => h j (by omega), h c (by omega)]
theorem lgS_mx {p : Gl → Bool} {L : Nat → Gl} (hL : WOk L) {o : Nat} (ho : o = 0 ∨ (0 < o ∧ p (L (o - 1)) = true)) : ∀ c, (∀ j, j < c → p (L (o + j)) = false) → (lgS p L (o + c)).1 = max (lgS p L o).1 (sw L o c)
  | 0, _ => by
    have := lgS_b (p := p) hL o
    simp only [Nat.add_zero, sw]
    omega
  | c + 1, h => by
    have ih := lgS_mx hL ho c fun j hj => h j (by omega)
    have h2 := lgS_sw hL ho c fun j hj => h j (by omega)
    have hw := hL (o + c)
    rw [← Nat.add_assoc, lgS, h c (by omega)]
    simp only [cond_false, mxI_eq, h2, ih, sw]
    omega
/-- A row that nothing parts is one line. -/
theorem one_line {n : Nat} {L : Nat → Gl} {A : Int} (hn : 0 < n) (h : ∀ i, i < n → pSB (L i) = false) : lnC n L A = 1 ∧ spAt (lns n L A) 0 = ⟨0, n, sw L 0 n⟩ := by
  obtain ⟨a1, a2, a3⟩ := lnC_spec n L A
  have h0 : lnAt n L A 0 = 0 := rfl
  obtain ⟨t, ht⟩ := isLine (n := n) (L := L) (A := A) (o := lnAt n L A 0) (by omega)
  have hc : 0 < lnC n L A := by
    rcases Nat.eq_zero_or_pos (lnC n L A) with h1 | h1
    · rw [h1] at a3; omega
    · exact h1
  have htn : t = n := by
    have hp := ht.part
    have := ht.ln
    rcases Nat.lt_or_ge t n with h1 | h1
    · rw [part_pSB h1, h t h1] at hp; cases hp
    · omega
  obtain ⟨b1, b2⟩ := wh_at hc ht
  have hc2 : lnC n L A = 1 := by
    rcases Nat.lt_or_ge 1 (lnC n L A) with h1 | h1
    · have := a2 1 h1
      rw [Nat.zero_add] at b2
      omega
    · omega
  refine ⟨hc2, ?_⟩
  rw [b1, h0, htn]
  rfl
/-- Two rows with a break between them are two lines. -/
theorem two_lines {m r : Nat} {L : Nat → Gl} {A : Int} (hr : 0 < r) (h1 : ∀ i, i < m → pSB (L i) = false) (h2 : brk (L m) = true) (h3 : ∀ i, i < r → pSB (L (m + 1 + i)) = false) :
    lnC (m + 1 + r) L A = 2 ∧ spAt (lns (m + 1 + r) L A) 0 = ⟨0, m, sw L 0 m⟩ ∧ spAt (lns (m + 1 + r) L A) 1 = ⟨((m + 1 : Nat) : Int), ((m + 1 + r : Nat) : Int), sw L (m + 1) r⟩ := by
  generalize hn : m + 1 + r = n
  obtain ⟨a1, a2, a3⟩ := lnC_spec n L A
  have h0 : lnAt n L A 0 = 0 := rfl
  obtain ⟨t, ht⟩ := isLine (n := n) (L := L) (A := A) (o := lnAt n L A 0) (by omega)
  have hc : 0 < lnC n L A := by
    rcases Nat.eq_zero_or_pos (lnC n L A) with h1 | h1
    · rw [h1] at a3; omega
    · exact h1
  have htm : t = m := by
    rcases Nat.lt_trichotomy t m with h | h | h
    · have hp := ht.part
      rw [part_pSB (by omega), h1 t h] at hp; cases hp
    · exact h
    · have hp := ht.go m (by omega) h
      rw [stop_brk (by omega), h2] at hp; cases hp
  obtain ⟨b1, b2⟩ := wh_at hc ht
  rw [Nat.zero_add, htm] at b2
  have hc1 : 1 < lnC n L A := by
    rcases Nat.lt_or_ge 1 (lnC n L A) with h | h
    · exact h
    · have : lnC n L A = 1 := by omega
      rw [this, b2] at a3; omega
  obtain ⟨u, hu⟩ := isLine (n := n) (L := L) (A := A) (o := lnAt n L A 1) (by omega)
  have hun : u = n := by
    have hp := hu.part
    have hle := hu.le
    have := hu.ln
    rcases Nat.lt_or_ge u n with h | h
    · have e := h3 (u - (m + 1)) (by omega)
      rw [show m + 1 + (u - (m + 1)) = u by omega] at e
      rw [part_pSB h, e] at hp; cases hp
    · omega
  obtain ⟨c1, c2⟩ := wh_at hc1 hu
  have hc2 : lnC n L A = 2 := by
    rcases Nat.lt_or_ge 2 (lnC n L A) with h | h
    · have := a2 2 h
      rw [show 1 + 1 = 2 from rfl] at c2
      omega
    · omega
  refine ⟨hc2, ?_, ?_⟩
  · rw [b1, h0, htm]; rfl
  · rw [c1, b2, hun, show n - (m + 1) = r by omega]
theorem two_most {m r : Nat} {L : Nat → Gl} (hL : WOk L) (h1 : ∀ i, i < m → pSB (L i) = false) (h2 : brk (L m) = true) (h3 : ∀ i, i < r → pSB (L (m + 1 + i)) = false) :
    (lgS brk L (m + 1 + r)).1 = max (sw L 0 m) (sw L (m + 1) r) := by
  have hb : ∀ g, pSB g = false → brk g = false := fun g hg => by
    cases h : brk g
    · rfl
    · rw [brk_pSB g h] at hg; cases hg
  rw [lgS_mx hL (.inr ⟨by omega, by simpa using h2⟩) r fun j hj => hb _ (h3 j hj)]
  have e : (lgS brk L (m + 1)).1 = (lgS brk L m).1 := by rw [lgS, h2]; rfl
  have e2 := lgS_mx (p := brk) hL (o := 0) (.inl rfl) m fun j hj => by rw [Nat.zero_add]; exact hb _ (h1 j hj)
  have hs := sw_b hL 0 m
  rw [Nat.zero_add] at e2
  rw [e, e2]
  have : (lgS brk L 0).1 = 0 := rfl
  omega
end Go.Proofs.Ytcpahifgdppkbaa.QAI
end
section
/- BrkWhole: what the loops come to. -/
set_option linter.unusedVariables false
set_option linter.unusedSimpArgs false
namespace Go.Proofs.Ytcpahifgdppkbaa.QAI
open Go Go.RowKit
set_option maxRecDepth 100000
theorem setK_0 (c : Int) (X : Nat → Gl) : setK c 0 X = X := by funext j; simp [setK]
theorem setK_w (c : Int) (i : Nat) (X : Nat → Gl) (j : Nat) : (setK c i X j).w = (X j).w := by unfold setK; split <;> rfl
theorem setK_ok {c : Int} {i : Nat} {X : Nat → Gl} (h : WOk X) : WOk (setK c i X) := fun j => by rw [setK_w]; exact h j
theorem setK_up (c : Int) (X : Nat → Gl) (j : Nat) : (fun q => [Value.int IntKind.i64 (bif decide (q = j) then c else (setK c j X q).k), Value.int IntKind.i64 (bif decide (q = j) then (setK c j X j).r else (setK c j X q).r), Value.int IntKind.i64 (bif decide (q = j) then (setK c j X j).a else (setK c j X q).a), Value.int IntKind.i64 (bif decide (q = j) then (setK c j X j).w else (setK c j X q).w)]) = fun q => encG (setK c (j + 1) X q) := by
  funext q
  by_cases h : q = j
  · subst h
    simp [setK, encG]
  · rw [decide_eq_false h]
    by_cases h2 : q < j
    · simp [setK, encG, h2, show q < j + 1 by omega]
    · simp [setK, encG, h2, show ¬ q < j + 1 by omega]
theorem wU1_0 : wU1 0 = fun _ => 0 := by funext j; simp [wU1]
theorem wU1_up (s t : Int) : (fun q => [Value.int .i64 (bif decide (q = 0) then t else wU1 s q)]) = fun q => [Value.int .i64 (wU1 t q)] := by
  funext q
  by_cases h : q = 0
  · subst h; simp [wU1]
  · simp [wU1, h]
theorem wU2_0 (s : Int) : wU2 s 0 = wU1 s := by funext j; simp [wU1, wU2]
theorem wU2_up (s t u : Int) : (fun q => [Value.int .i64 (bif decide (q = 1) then u else wU2 s t q)]) = fun q => [Value.int .i64 (wU2 s u q)] := by
  funext q
  by_cases h : q = 1
  · subst h; simp [wU2]
  · simp [wU2, h]
section
variable {k k' : Nat} {R R' : Nat → Gl} {n m : Nat} {X Y : Nat → Gl} {A : Int}
theorem wh1_loop (hX : WOk X) (hn : n ≤ 200) : CodeSem whG 2 (.loop (bodyOf Try.f27 0)) (whS1 k k' R R' n m X Y A (fun _ => 0) 0) (.exit 0, whS1 k k' R R' n m (setK 1 n X) Y A (wU1 (sw X 0 n)) n) := by
  have hh := loop_of (G := whG) (n0 := 2) (b := bodyOf Try.f27 0) (fun j => whS1 k k' R R' n m (setK 1 j X) Y A (wU1 (sw X 0 j)) (j : Int)) n (e := .exit 0) (Se := whS1 k k' R R' n m (setK 1 n X) Y A (wU1 (sw X 0 n)) n) (by simp) ?_ fun j hj => ?_
  · have e : sw X 0 0 = 0 := rfl
    rw [setK_0, e, wU1_0] at hh
    exact hh
  · exact rT_sem whG_ok noLoopsS (rT_go wh1_e ⟨by simp, trivial⟩)
  · have h3 := succ64 (j := j) (by omega)
    have hb := sw_b hX 0 j
    have hw := hX j
    have h4 : w64 (sw X 0 j + (X j).w) = sw X 0 (j + 1) := by
      rw [w64_id (by omega) (by omega), sw, Nat.zero_add]
    have e0 : wU1 (sw X 0 j) 0 = sw X 0 j := rfl
    refine rT_sem whG_ok noLoopsS ((rT_go wh1_go ?_).trans ?_)
    · simp only [Int.toNat_natCast, Nat.zero_add]
      repeat' (first | exact AllT.nil | refine AllT.cons ?_ ?_)
      all_goals first | (with_reducible rfl) | exact decide_eq_true (by omega)
    · have e1 := setK_up 1 X j
      have e2 := wU1_up (sw X 0 j) (sw X 0 (j + 1))
      simp only [Int.toNat_natCast, Nat.zero_add, h3]
      rw [e1]
      simp only [decide_true, cond_true, setK_w, e0, h4]
      rw [e2]
      rfl
theorem wh2_loop {s : Int} (hY : WOk Y) (hm : m ≤ 200) : CodeSem whG 2 (.loop (bodyOf Try.f27 1)) (whS2 k k' R R' n m X Y A (wU1 s) 0) (.exit 2, whS2 k k' R R' n m X (setK 3 m Y) A (wU2 s (sw Y 0 m)) m) := by
  have hh := loop_of (G := whG) (n0 := 2) (b := bodyOf Try.f27 1) (fun j => whS2 k k' R R' n m X (setK 3 j Y) A (wU2 s (sw Y 0 j)) (j : Int)) m (e := .exit 2) (Se := whS2 k k' R R' n m X (setK 3 m Y) A (wU2 s (sw Y 0 m)) m) (by simp) ?_ fun j hj => ?_
  · have e : sw Y 0 0 = 0 := rfl
    rw [setK_0, e, wU2_0] at hh
    exact hh
  · exact rT_sem whG_ok noLoopsS (rT_go wh2_e ⟨by simp, trivial⟩)
  · have h3 := succ64 (j := j) (by omega)
    have hb := sw_b hY 0 j
    have hw := hY j
    have h4 : w64 (sw Y 0 j + (Y j).w) = sw Y 0 (j + 1) := by
      rw [w64_id (by omega) (by omega), sw, Nat.zero_add]
    have e0 : wU2 s (sw Y 0 j) 1 = sw Y 0 j := rfl
    refine rT_sem whG_ok noLoopsS ((rT_go wh2_go ?_).trans ?_)
    · simp only [Int.toNat_natCast, Nat.zero_add]
      repeat' (first | exact AllT.nil | refine AllT.cons ?_ ?_)
      all_goals first | (with_reducible rfl) | exact decide_eq_true (by omega)
    · have e1 := setK_up 3 Y j
      have e2 := wU2_up s (sw Y 0 j) (sw Y 0 (j + 1))
      simp only [Int.toNat_natCast, Nat.zero_add, h3]
      rw [e1]
      simp only [decide_true, cond_true, setK_w, e0, h4]
      rw [e2]
      rfl
end
theorem decG_encG (g : Gl) : decG (encG g) = g := rfl
def whL (k k' : Nat) (R R' : Nat → Gl) : Nat → Gl := fun j => if j < m200 k then whX k R j else if j = m200 k then ⟨4, 0, 0, 0⟩ else if j < m200 k + 1 + m200 k' then whY k' R' (j - (m200 k + 1)) else zGl
theorem whQ_eq (k k' : Nat) (R R' : Nat → Gl) : whQ k k' R R' = fun j => encG (whL k k' R R' j) := by
  funext j
  unfold whQ whL
  simp only [cat, updL, upd, Nat.zero_add]
  by_cases h1 : j < m200 k
  · simp [h1, show j < m200 k + 1 by omega, show ¬ j = m200 k by omega]
  · by_cases h2 : j = m200 k
    · subst h2; simp [encG]
    · by_cases h3 : j < m200 k + 1 + m200 k'
      · simp [h1, h2, h3, show ¬ j < m200 k + 1 by omega]
      · simp [h1, h2, h3, show ¬ j < m200 k + 1 by omega, encG, zGl]
theorem whL_ok (k k' : Nat) (R R' : Nat → Gl) : WOk (whL k k' R R') := by
  intro j
  unfold whL
  have h1 : WOk (whX k R) := setK_ok (tmGL_ok _ _)
  have h2 : WOk (whY k' R') := setK_ok (tmGL_ok _ _)
  split
  · exact h1 j
  · split
    · simp
    · split
      · exact h2 _
      · simp [zGl]
end Go.Proofs.Ytcpahifgdppkbaa.QAI
end
section
/- BrkWhole: the whole. -/
set_option linter.unusedVariables false
set_option linter.unusedSimpArgs false
namespace Go.Proofs.Ytcpahifgdppkbaa.QAI
open Go Go.RowKit
set_option maxRecDepth 100000
theorem whL_lo {k k' : Nat} {R R' : Nat → Gl} {j : Nat} (h : j < m200 k) : whL k k' R R' j = whX k R j := if_pos h
theorem whL_mid {k k' : Nat} {R R' : Nat → Gl} : whL k k' R R' (m200 k) = ⟨4, 0, 0, 0⟩ := by
  unfold whL
  rw [if_neg (by omega), if_pos rfl]
theorem whL_hi {k k' : Nat} {R R' : Nat → Gl} {j : Nat} (h : j < m200 k') : whL k k' R R' (m200 k + 1 + j) = whY k' R' j := by
  unfold whL
  rw [if_neg (by omega), if_neg (by omega), if_pos (by omega), show m200 k + 1 + j - (m200 k + 1) = j by omega]
theorem whX_k {k : Nat} {R : Nat → Gl} {j : Nat} (h : j < m200 k) : pSB (whX k R j) = false := by
  have e : (whX k R j).k = 1 := by unfold whX setK; rw [if_pos h]
  simp [pSB, e]
theorem whY_k {k : Nat} {R : Nat → Gl} {j : Nat} (h : j < m200 k) : pSB (whY k R j) = false := by
  have e : (whY k R j).k = 3 := by unfold whY setK; rw [if_pos h]
  simp [pSB, e]
theorem brkWhole_true (k k' : Nat) (R R' : Nat → Gl) (A : Int) : ∃ keep tm d ℓ, LoopsSem (GT KBT keep 0 tm) [rowGo false k R, rowGo false k' R'].length ℓ ∧ (lfun (GT KBT keep 0 tm) ℓ d Try.f27 [.c (.sl 0 0 k), .c (.sl 1 0 k'), I64 A] [rowGo false k R, rowGo false k' R']).eval = some (Bo true, [rowGo false k R, rowGo false k' R']) := by
  obtain ⟨hm1, hm2⟩ := m200_le k
  obtain ⟨hn1, hn2⟩ := m200_le k'
  have hX : WOk (blT k R) := tmGL_ok _ _
  have hY : WOk (blT k' R') := tmGL_ok _ _
  have hloops := byReg_sem (r := 5) (tell_ok (wh1_loop (k := k) (k' := k') (R := R) (R' := R') (n := m200 k) (m := m200 k') (X := blT k R) (Y := blT k' R') (A := whA A) hX hm1))
    (tell_ok (wh2_loop (k := k) (k' := k') (R := R) (R' := R') (n := m200 k) (m := m200 k') (X := whX k R) (Y := blT k' R') (A := whA A) (s := whs k R) hY hn1))
  by_cases h0 : m200 k = 0
  · have e3 : (((m200 k : Nat) : Int) == 0) = true := by rw [h0]; rfl
    refine ⟨_, [], 60, _, hloops, (Tr.go_eval (wh_w0 (k := k) (k' := k') (R := R) (R' := R') (A := A)) ?_).trans ?_⟩
    · repeat' (first | exact AllT.nil | refine AllT.cons ?_ ?_)
      all_goals first
        | (with_reducible rfl)
        | exact e3
        | exact yes_of ⟨by omega, rfl⟩
        | exact yes_of ⟨rfl, rfl⟩
    · rfl
  · have e3 : (!(((m200 k : Nat) : Int) == 0)) = true := by simp; omega
    by_cases h1 : m200 k' = 0
    · have e4 : (((m200 k' : Nat) : Int) == 0) = true := by rw [h1]; rfl
      refine ⟨_, [], 60, _, hloops, (Tr.go_eval (wh_w1 (k := k) (k' := k') (R := R) (R' := R') (A := A)) ?_).trans ?_⟩
      · repeat' (first | exact AllT.nil | refine AllT.cons ?_ ?_)
        all_goals first
          | (with_reducible rfl)
          | exact e3
          | exact e4
          | exact yes_of ⟨by omega, rfl⟩
          | exact yes_of ⟨rfl, rfl⟩
      · rfl
    · have e4 : (!(((m200 k' : Nat) : Int) == 0)) = true := by simp; omega
      have hQ := whQ_eq k k' R R'
      have hL := whL_ok k k' R R'
      have hL' : (fun j => decG (whQ k k' R R' j)) = whL k k' R R' := by rw [hQ]; rfl
      have hWX : WOk (whX k R) := setK_ok hX
      have pA : ∀ i, i < m200 k → pSB (whL k k' R R' i) = false := fun i hi => by rw [whL_lo hi]; exact whX_k hi
      have pB : brk (whL k k' R R' (m200 k)) = true := by rw [whL_mid]; rfl
      have pC : ∀ i, i < m200 k' → pSB (whL k k' R R' (m200 k + 1 + i)) = false := fun i hi => by rw [whL_hi hi]; exact whY_k hi
      obtain ⟨o1, o2⟩ := one_line (A := whA A) (n := m200 k) (L := whX k R) (by omega) fun i hi => whX_k hi
      obtain ⟨t1, t2, t3⟩ := two_lines (A := whA A) (m := m200 k) (r := m200 k') (L := whL k k' R R') (by omega) pA pB pC
      have t4 := two_most (m := m200 k) (r := m200 k') hL pA pB pC
      have s1 : sw (whX k R) 0 (m200 k) = whs k R := sw_congr _ fun j hj => setK_w _ _ _ _
      have s2 : sw (whL k k' R R') 0 (m200 k) = whs k R := sw_congr _ fun j hj => by rw [Nat.zero_add, whL_lo hj]; exact setK_w _ _ _ _
      have s3 : sw (whL k k' R R') (m200 k + 1) (m200 k') = whs k' R' := sw_congr _ fun j hj => by rw [Nat.zero_add, whL_hi hj]; exact setK_w _ _ _ _
      rw [s1] at o2
      rw [s2] at t2
      rw [s3] at t3
      rw [s2, s3] at t4
      have o1' : lnC (m200 k) (fun j => decG (encG (whX k R j))) (whA A) = 1 := o1
      have o2' : spAt (lns (m200 k) (fun j => decG (encG (whX k R j))) (whA A)) 0 = ⟨0, m200 k, whs k R⟩ := o2
      have t1' : lnC (m200 k + 1 + m200 k') (fun j => decG (whQ k k' R R' j)) (whA A) = 2 := by rw [hL']; exact t1
      have t2' : spAt (lns (m200 k + 1 + m200 k') (fun j => decG (whQ k k' R R' j)) (whA A)) 0 = ⟨0, m200 k, whs k R⟩ := by rw [hL']; exact t2
      have t3' : spAt (lns (m200 k + 1 + m200 k') (fun j => decG (whQ k k' R R' j)) (whA A)) 1 = ⟨((m200 k + 1 : Nat) : Int), ((m200 k + 1 + m200 k' : Nat) : Int), whs k' R'⟩ := by rw [hL']; exact t3
      have t4' : (lgS brk (fun j => decG (whQ k k' R R' j)) (m200 k + 1 + m200 k')).1 = max (whs k R) (whs k' R') := by rw [hL']; exact t4
      have h5 : w64 ((m200 k : Int) + 1) = ((m200 k + 1 : Nat) : Int) := by rw [w64_id (by omega) (by omega)]; omega
      have u0 : wU2 (whs k R) (whs k' R') 0 = whs k R := rfl
      have u1 : wU2 (whs k R) (whs k' R') 1 = whs k' R' := rfl
      have hy1 : (whQ k k' R R' = fun j => encG (decG (whQ k k' R R' j))) := by rw [hQ]; rfl
      have hy2 : WOk fun j => decG (whQ k k' R R' j) := by rw [hL']; exact hL
      have hmc : maxCells = 140737488355328 := rfl
      refine ⟨_, [], 60, _, hloops, (Tr.go_eval (wh_w2 (k := k) (k' := k') (R := R) (R' := R') (A := A)) ?_).trans ?_⟩
      · simp only [Nat.zero_add, o1', o2', t1', t2', t3', t4', h5, u0, u1]
        repeat' (first | exact AllT.nil | refine AllT.cons ?_ ?_)
        all_goals first
          | (with_reducible rfl)
          | exact e3
          | exact e4
          | exact yes_of ⟨by omega, rfl⟩
          | exact yes_of ⟨rfl, rfl⟩
          | exact yes_of ⟨Nat.le_refl _, by omega, rfl, hWX⟩
          | exact yes_of ⟨Nat.le_refl _, by omega, hy1, hy2⟩
          | exact decide_eq_true (by omega)
          | (simp; done)
          | (simp [mxI_eq]; omega)
      · rfl
def brkWholeS : List Shp := [.rows 87 [.int .i64, .int .i64, .int .i64, .int .i64], .rows 87 [.int .i64, .int .i64, .int .i64, .int .i64], .one (.int .i64)]
theorem brkWhole_core : ∀ is, InsOk brkWholeS is → ∃ keep tm d ℓ, LoopsSem (GT KBT keep 0 tm) (blksIn brkWholeS is).length ℓ ∧ (lfun (GT KBT keep 0 tm) ℓ d Try.f27 (avsIn 0 brkWholeS is) (blksIn brkWholeS is)).eval = some (Bo true, blksIn brkWholeS is) := by
  intro is0 h0
  obtain ⟨k1, v1', is2, rfl, h2, _⟩ := ins_glyphs h0
  obtain ⟨k2, v2', is3, rfl, h3, _⟩ := ins_glyphs h2
  obtain ⟨v3, is4, rfl, h4⟩ := ins_i64 h3
  obtain rfl := ins_nil h4
  exact brkWhole_true k1 k2 v1' v2' v3
end Go.Proofs.Ytcpahifgdppkbaa.QAI
end
