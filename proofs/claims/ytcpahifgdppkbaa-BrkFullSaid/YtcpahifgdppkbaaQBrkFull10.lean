/- BrkFull: the walk. -/
import Derived.Test.YtcpahifgdppkbaaQBrkFull9
section
set_option linter.unusedVariables false
set_option linter.unusedSimpArgs false
namespace Go.Proofs.Ytcpahifgdppkbaa.QAI
open Go Go.RowKit
set_option maxRecDepth 100000
abbrev bfK : List (Nat × Option TypeId) := [(1,none),(5,none),(6,none),(7,none),(8,none)]
abbrev bfK1 : List (Nat × Option TypeId) := [(1,none),(5,none),(6,none),(8,none),(9,none),(10,none),(11,none),(12,none)]
abbrev bfK2 : List (Nat × Option TypeId) := [(1,none),(5,none),(6,none),(7,none),(8,none),(13,none),(14,none)]
abbrev bfKr : List (Nat × Option TypeId) := [(4,none)]
noncomputable def bfG : Ctx2 := GT KBT (fun k => if k = 5 then bfK else if k = 12 then bfK1 else if k = 28 then bfK2 else []) 0 []
theorem bfG_ok : XOk bfG := GT_ok KBT_ok _ _ _
def bfS (k : Nat) (R : Nat → Gl) (n : Nat) (L : Nat → Gl) (A : Int) (c : Nat) (S : Nat → Sp) (at' i : Int) : St := ⟨slots 181 [(1, I64 A), (5, .c (.sl 1 0 n)), (6, .c (.sl 2 0 c)), (7, I64 at'), (8, I64 i)], [rowGo false k R, rowGl n L, rowSp c S]⟩
def bf1 (k : Nat) (R : Nat → Gl) (n : Nat) (L : Nat → Gl) (A : Int) (c : Nat) (S : Nat → Sp) (i : Int) (s : Sp) (w : Int) (sp : Bool) (kk : Int) : St := ⟨slots 181 [(1, I64 A), (5, .c (.sl 1 0 n)), (6, .c (.sl 2 0 c)), (8, I64 i), (9, .c (.ptr 3 0 0)), (10, I64 w), (11, Bo sp), (12, I64 kk)], [rowGo false k R, rowGl n L, rowSp c S, some ⟨98, true, .one [i64 s.f, i64 s.t, i64 s.w]⟩]⟩
def bf2 (k : Nat) (R : Nat → Gl) (n : Nat) (L : Nat → Gl) (A : Int) (c : Nat) (S : Nat → Sp) (at' i more kk : Int) : St := ⟨slots 181 [(1, I64 A), (5, .c (.sl 1 0 n)), (6, .c (.sl 2 0 c)), (7, I64 at'), (8, I64 i), (13, I64 more), (14, I64 kk)], [rowGo false k R, rowGl n L, rowSp c S]⟩
def bfZ (k : Nat) (R : Nat → Gl) : St := ⟨slots 181 [(4, Bo true)], [rowGo false k R]⟩
theorem b1_t {k : Nat} {R : Nat → Gl} {n : Nat} {L : Nat → Gl} {A : Int} {c : Nat} {S : Nat → Sp} {i : Int} {s : Sp} {w kk : Int} : (rT bfG nol 1 42 (bodyOf Try.f29 1) bfK1 bfK1 (bf1 k R n L A c S i s w true kk)).go [true, true, true, true, true, true, true, true, true, true, true, true, true, true, false] =
  some
    ([decide (kk < s.t), decide ((0 : Int) ≤ kk), decide (kk < ((n : Nat) : Int)), decide (0 + kk.toNat < n), true, true, true,
        true, true, true, true, decide ((0 : Int) ≤ kk), decide (kk < ((n : Nat) : Int)), decide (0 + kk.toNat < n),
        !(L (0 + kk.toNat)).k == (4 : Int)],
      Ex.normal,
      {
        sl :=
          slots 181
            [(1, I64 A), (5, AV.c (AC.sl 1 0 n)),
              (6, AV.c (AC.sl 2 0 c)), (8, I64 i),
              (9, AV.c (AC.ptr 3 0 0)),
              (10, I64 (w64 (w + (L (0 + kk.toNat)).w))), (11, Bo true),
              (12, I64 (w64 (kk + (1 : Int))))],
        h :=
          [some
              { t := 87, own := false,
                c :=
                  Cont.row 4 k fun j =>
                    [Value.int IntKind.i64 (R j).k, Value.int IntKind.i64 (R j).r, Value.int IntKind.i64 (R j).a,
                      Value.int IntKind.i64 (R j).w] },
            some
              { t := 87, own := true,
                c :=
                  Cont.row 4 n fun j =>
                    [Value.int IntKind.i64 (L j).k, Value.int IntKind.i64 (L j).r, Value.int IntKind.i64 (L j).a,
                      Value.int IntKind.i64 (L j).w] },
            some
              { t := 98, own := true,
                c :=
                  Cont.row 3 c fun j =>
                    [Value.int IntKind.i64 (S j).f, Value.int IntKind.i64 (S j).t, Value.int IntKind.i64 (S j).w] },
            some { t := 98, own := true, c := Cont.one [i64 s.f, i64 s.t, i64 s.w] }] }) := by kernel_rfl
theorem b1_f {k : Nat} {R : Nat → Gl} {n : Nat} {L : Nat → Gl} {A : Int} {c : Nat} {S : Nat → Sp} {i : Int} {s : Sp} {w kk : Int} : (rT bfG nol 1 42 (bodyOf Try.f29 1) bfK1 bfK1 (bf1 k R n L A c S i s w false kk)).go [true, true, true, true, false, false, false, true, true, false, false, true, false, false, true, true, true, false] =
  some
    ([decide (kk < s.t), decide ((0 : Int) ≤ kk), decide (kk < ((n : Nat) : Int)), decide (0 + kk.toNat < n), true, true, true,
        decide ((0 : Int) ≤ kk), decide (kk < ((n : Nat) : Int)), true, true, decide (0 + kk.toNat < n), true, true,
        decide ((0 : Int) ≤ kk), decide (kk < ((n : Nat) : Int)), decide (0 + kk.toNat < n),
        !(L (0 + kk.toNat)).k == (4 : Int)],
      Ex.normal,
      {
        sl :=
          slots 181
            [(1, I64 A), (5, AV.c (AC.sl 1 0 n)),
              (6, AV.c (AC.sl 2 0 c)), (8, I64 i),
              (9, AV.c (AC.ptr 3 0 0)),
              (10, I64 (w64 (w + (L (0 + kk.toNat)).w))),
              (11, Bo ((L (0 + kk.toNat)).k == (2 : Int))), (12, I64 (w64 (kk + (1 : Int))))],
        h :=
          [some
              { t := 87, own := false,
                c :=
                  Cont.row 4 k fun j =>
                    [Value.int IntKind.i64 (R j).k, Value.int IntKind.i64 (R j).r, Value.int IntKind.i64 (R j).a,
                      Value.int IntKind.i64 (R j).w] },
            some
              { t := 87, own := true,
                c :=
                  Cont.row 4 n fun j =>
                    [Value.int IntKind.i64 (L j).k, Value.int IntKind.i64 (L j).r, Value.int IntKind.i64 (L j).a,
                      Value.int IntKind.i64 (L j).w] },
            some
              { t := 98, own := true,
                c :=
                  Cont.row 3 c fun j =>
                    [Value.int IntKind.i64 (S j).f, Value.int IntKind.i64 (S j).t, Value.int IntKind.i64 (S j).w] },
            some { t := 98, own := true, c := Cont.one [i64 s.f, i64 s.t, i64 s.w] }] }) := by kernel_rfl
theorem b1_e {k : Nat} {R : Nat → Gl} {n : Nat} {L : Nat → Gl} {A : Int} {c : Nat} {S : Nat → Sp} {i : Int} {s : Sp} {w kk : Int} {sp : Bool} : (rT bfG nol 1 42 (bodyOf Try.f29 1) bfK1 bfK1 (bf1 k R n L A c S i s w sp kk)).go [false] =
  some
    ([!decide (kk < s.t)], Ex.exit 2,
      {
        sl :=
          slots 181
            [(1, I64 A), (5, AV.c (AC.sl 1 0 n)),
              (6, AV.c (AC.sl 2 0 c)), (8, I64 i),
              (9, AV.c (AC.ptr 3 0 0)), (10, I64 w), (11, Bo sp),
              (12, I64 kk)],
        h :=
          [some
              { t := 87, own := false,
                c :=
                  Cont.row 4 k fun j =>
                    [Value.int IntKind.i64 (R j).k, Value.int IntKind.i64 (R j).r, Value.int IntKind.i64 (R j).a,
                      Value.int IntKind.i64 (R j).w] },
            some
              { t := 87, own := true,
                c :=
                  Cont.row 4 n fun j =>
                    [Value.int IntKind.i64 (L j).k, Value.int IntKind.i64 (L j).r, Value.int IntKind.i64 (L j).a,
                      Value.int IntKind.i64 (L j).w] },
            some
              { t := 98, own := true,
                c :=
                  Cont.row 3 c fun j =>
                    [Value.int IntKind.i64 (S j).f, Value.int IntKind.i64 (S j).t, Value.int IntKind.i64 (S j).w] },
            some { t := 98, own := true, c := Cont.one [i64 s.f, i64 s.t, i64 s.w] }] }) := by kernel_rfl
theorem b2_go {k : Nat} {R : Nat → Gl} {n : Nat} {L : Nat → Gl} {A : Int} {c : Nat} {S : Nat → Sp} {at' i more kk : Int} : (rT bfG nol 1 35 (bodyOf Try.f29 2) bfK2 bfK2 (bf2 k R n L A c S at' i more kk)).go [] =
  some
    ([decide (kk < ((n : Nat) : Int)), true, true, decide ((0 : Int) ≤ kk), decide (kk < ((n : Nat) : Int)), true, true,
        decide (0 + kk.toNat < n), true, true, (L (0 + kk.toNat)).k != (2 : Int), true, true,
        decide ((0 : Int) ≤ kk), decide (kk < ((n : Nat) : Int)), true, true, decide (0 + kk.toNat < n), true, true,
        (L (0 + kk.toNat)).k != (4 : Int), decide ((0 : Int) ≤ kk), decide (kk < ((n : Nat) : Int)),
        decide (0 + kk.toNat < n)],
      Ex.normal,
      {
        sl :=
          slots 181
            [(1, I64 A), (5, AV.c (AC.sl 1 0 n)),
              (6, AV.c (AC.sl 2 0 c)), (7, I64 at'), (8, I64 i),
              (13, I64 (w64 (more + (L (0 + kk.toNat)).w))), (14, I64 (w64 (kk + (1 : Int))))],
        h :=
          [some
              { t := 87, own := false,
                c :=
                  Cont.row 4 k fun j =>
                    [Value.int IntKind.i64 (R j).k, Value.int IntKind.i64 (R j).r, Value.int IntKind.i64 (R j).a,
                      Value.int IntKind.i64 (R j).w] },
            some
              { t := 87, own := true,
                c :=
                  Cont.row 4 n fun j =>
                    [Value.int IntKind.i64 (L j).k, Value.int IntKind.i64 (L j).r, Value.int IntKind.i64 (L j).a,
                      Value.int IntKind.i64 (L j).w] },
            some
              { t := 98, own := true,
                c :=
                  Cont.row 3 c fun j =>
                    [Value.int IntKind.i64 (S j).f, Value.int IntKind.i64 (S j).t, Value.int IntKind.i64 (S j).w] }] }) := by kernel_rfl
theorem b2_e1 {k : Nat} {R : Nat → Gl} {n : Nat} {L : Nat → Gl} {A : Int} {c : Nat} {S : Nat → Sp} {at' i more kk : Int} : (rT bfG nol 1 35 (bodyOf Try.f29 2) bfK2 bfK2 (bf2 k R n L A c S at' i more kk)).go [false, false, false, false, false, false, false, false, false, false, false, false, false, false, false] =
  some
    ([!decide (kk < ((n : Nat) : Int)), true, true, true, true, true, true, true, true, true, true, true, true, true, true],
      Ex.exit 4,
      {
        sl :=
          slots 181
            [(1, I64 A), (5, AV.c (AC.sl 1 0 n)),
              (6, AV.c (AC.sl 2 0 c)), (7, I64 at'), (8, I64 i),
              (13, I64 more), (14, I64 kk)],
        h :=
          [some
              { t := 87, own := false,
                c :=
                  Cont.row 4 k fun j =>
                    [Value.int IntKind.i64 (R j).k, Value.int IntKind.i64 (R j).r, Value.int IntKind.i64 (R j).a,
                      Value.int IntKind.i64 (R j).w] },
            some
              { t := 87, own := true,
                c :=
                  Cont.row 4 n fun j =>
                    [Value.int IntKind.i64 (L j).k, Value.int IntKind.i64 (L j).r, Value.int IntKind.i64 (L j).a,
                      Value.int IntKind.i64 (L j).w] },
            some
              { t := 98, own := true,
                c :=
                  Cont.row 3 c fun j =>
                    [Value.int IntKind.i64 (S j).f, Value.int IntKind.i64 (S j).t, Value.int IntKind.i64 (S j).w] }] }) := by kernel_rfl
theorem b2_e2 {k : Nat} {R : Nat → Gl} {n : Nat} {L : Nat → Gl} {A : Int} {c : Nat} {S : Nat → Sp} {at' i more kk : Int} : (rT bfG nol 1 35 (bodyOf Try.f29 2) bfK2 bfK2 (bf2 k R n L A c S at' i more kk)).go [true, true, true, true, true, true, true, true, true, true, false, false, false, false, false, false, false, false] =
  some
    ([decide (kk < ((n : Nat) : Int)), true, true, decide ((0 : Int) ≤ kk), decide (kk < ((n : Nat) : Int)), true, true,
        decide (0 + kk.toNat < n), true, true, !(L (0 + kk.toNat)).k != (2 : Int), true, true, true,
        true, true, true, true],
      Ex.exit 4,
      {
        sl :=
          slots 181
            [(1, I64 A), (5, AV.c (AC.sl 1 0 n)),
              (6, AV.c (AC.sl 2 0 c)), (7, I64 at'), (8, I64 i),
              (13, I64 more), (14, I64 kk)],
        h :=
          [some
              { t := 87, own := false,
                c :=
                  Cont.row 4 k fun j =>
                    [Value.int IntKind.i64 (R j).k, Value.int IntKind.i64 (R j).r, Value.int IntKind.i64 (R j).a,
                      Value.int IntKind.i64 (R j).w] },
            some
              { t := 87, own := true,
                c :=
                  Cont.row 4 n fun j =>
                    [Value.int IntKind.i64 (L j).k, Value.int IntKind.i64 (L j).r, Value.int IntKind.i64 (L j).a,
                      Value.int IntKind.i64 (L j).w] },
            some
              { t := 98, own := true,
                c :=
                  Cont.row 3 c fun j =>
                    [Value.int IntKind.i64 (S j).f, Value.int IntKind.i64 (S j).t, Value.int IntKind.i64 (S j).w] }] }) := by kernel_rfl
theorem b2_e3 {k : Nat} {R : Nat → Gl} {n : Nat} {L : Nat → Gl} {A : Int} {c : Nat} {S : Nat → Sp} {at' i more kk : Int} : (rT bfG nol 1 35 (bodyOf Try.f29 2) bfK2 bfK2 (bf2 k R n L A c S at' i more kk)).go [true, true, true, true, true, true, true, true, true, true, true, true, true, true, true, true, true, true, true, true, false] =
  some
    ([decide (kk < ((n : Nat) : Int)), true, true, decide ((0 : Int) ≤ kk), decide (kk < ((n : Nat) : Int)), true, true,
        decide (0 + kk.toNat < n), true, true, (L (0 + kk.toNat)).k != (2 : Int), true, true,
        decide ((0 : Int) ≤ kk), decide (kk < ((n : Nat) : Int)), true, true, decide (0 + kk.toNat < n), true, true,
        !(L (0 + kk.toNat)).k != (4 : Int)],
      Ex.exit 4,
      {
        sl :=
          slots 181
            [(1, I64 A), (5, AV.c (AC.sl 1 0 n)),
              (6, AV.c (AC.sl 2 0 c)), (7, I64 at'), (8, I64 i),
              (13, I64 more), (14, I64 kk)],
        h :=
          [some
              { t := 87, own := false,
                c :=
                  Cont.row 4 k fun j =>
                    [Value.int IntKind.i64 (R j).k, Value.int IntKind.i64 (R j).r, Value.int IntKind.i64 (R j).a,
                      Value.int IntKind.i64 (R j).w] },
            some
              { t := 87, own := true,
                c :=
                  Cont.row 4 n fun j =>
                    [Value.int IntKind.i64 (L j).k, Value.int IntKind.i64 (L j).r, Value.int IntKind.i64 (L j).a,
                      Value.int IntKind.i64 (L j).w] },
            some
              { t := 98, own := true,
                c :=
                  Cont.row 3 c fun j =>
                    [Value.int IntKind.i64 (S j).f, Value.int IntKind.i64 (S j).t, Value.int IntKind.i64 (S j).w] }] }) := by kernel_rfl
noncomputable def bfV (k : Nat) (R : Nat → Gl) (n : Nat) (L : Nat → Gl) (A : Int) (c : Nat) (S : Nat → Sp) (i : Int) (W : Int) (P : Bool) : Loops :=
  byReg 12 (tell (bodyOf Try.f29 1) (bf1 k R n L A c S i (S (0 + i.toNat)) 0 false (S (0 + i.toNat)).f) (.exit 2, bf1 k R n L A c S i (S (0 + i.toNat)) W P (S (0 + i.toNat)).t)) nol
noncomputable def bfW (k : Nat) (R : Nat → Gl) (n : Nat) (L : Nat → Gl) (A : Int) (c : Nat) (S : Nat → Sp) (i : Int) (W : Int) (P : Bool) (M q : Int) : Loops :=
  byReg 12 (tell (bodyOf Try.f29 1) (bf1 k R n L A c S i (S (0 + i.toNat)) 0 false (S (0 + i.toNat)).f) (.exit 2, bf1 k R n L A c S i (S (0 + i.toNat)) W P (S (0 + i.toNat)).t))
    (tell (bodyOf Try.f29 2) (bf2 k R n L A c S (w64 ((S (0 + i.toNat)).t + 1)) i (w64 (W + (L (0 + (S (0 + i.toNat)).t.toNat)).w)) (w64 ((S (0 + i.toNat)).t + 1))) (.exit 4, bf2 k R n L A c S (w64 ((S (0 + i.toNat)).t + 1)) i M q))
theorem bfo_rn {k : Nat} {R : Nat → Gl} {n : Nat} {L : Nat → Gl} {A : Int} {c : Nat} {S : Nat → Sp} {at' i W : Int} {P : Bool} : (rT bfG (bfV k R n L A c S i W P) 1 52 (bodyOf Try.f29 0) bfK bfKr (bfS k R n L A c S at' i)).go [true, true, true, true, false, false, false, false, false, false, false, false, false, false, false, false, false, true, false, false, false, false, false, false, false, false, false] =
  some
    ([decide (i < ((c : Nat) : Int)), decide ((0 : Int) ≤ i), decide (i < ((c : Nat) : Int)), decide (0 + i.toNat < c),
        !(S (0 + i.toNat)).f != at', true, true, true, true, true,
        !decide ((S (0 + i.toNat)).t < (S (0 + i.toNat)).f), true, true, true, true, true,
        !decide ((S (0 + i.toNat)).t > ((n : Nat) : Int)), yes (wasS (bodyOf Try.f29 1) (bf1 k R n L A c S i (S (0 + i.toNat)) 0 false (S (0 + i.toNat)).f)), !W != (S (0 + i.toNat)).w, true, true, true,
        !decide (W > A), true, true, true, true, (S (0 + i.toNat)).t == ((n : Nat) : Int), w64 (i + (1 : Int)) == ((c : Nat) : Int), true],
      Ex.ret,
      { sl := slots 181 [(4, Bo true)],
        h :=
          [some
              { t := 87, own := false,
                c :=
                  Cont.row 4 k fun j =>
                    [Value.int IntKind.i64 (R j).k, Value.int IntKind.i64 (R j).r, Value.int IntKind.i64 (R j).a,
                      Value.int IntKind.i64 (R j).w] }] }) := by kernel_rfl
theorem bfo_bn {k : Nat} {R : Nat → Gl} {n : Nat} {L : Nat → Gl} {A : Int} {c : Nat} {S : Nat → Sp} {at' i W : Int} {P : Bool} : (rT bfG (bfV k R n L A c S i W P) 1 52 (bodyOf Try.f29 0) bfK bfKr (bfS k R n L A c S at' i)).go [true, true, true, true, false, false, false, false, false, false, false, false, false, false, false, false, false, true, false, false, false, false, false, false, false, false, false, false, true, true, true, true, true, true, true, true, true, true, true, true, true, true, false] =
  some
    ([decide (i < ((c : Nat) : Int)), decide ((0 : Int) ≤ i), decide (i < ((c : Nat) : Int)), decide (0 + i.toNat < c),
        !(S (0 + i.toNat)).f != at', true, true, true, true, true,
        !decide ((S (0 + i.toNat)).t < (S (0 + i.toNat)).f), true, true, true, true, true,
        !decide ((S (0 + i.toNat)).t > ((n : Nat) : Int)), yes (wasS (bodyOf Try.f29 1) (bf1 k R n L A c S i (S (0 + i.toNat)) 0 false (S (0 + i.toNat)).f)), !W != (S (0 + i.toNat)).w, true, true, true,
        !decide (W > A), true, true, true, true, !(S (0 + i.toNat)).t == ((n : Nat) : Int),
        decide ((0 : Int) ≤ (S (0 + i.toNat)).t), decide ((S (0 + i.toNat)).t < ((n : Nat) : Int)),
        decide (0 + (S (0 + i.toNat)).t.toNat < n),
        (L (0 + (S (0 + i.toNat)).t.toNat)).k != (2 : Int), true, true, true,
        decide ((0 : Int) ≤ (S (0 + i.toNat)).t), decide ((S (0 + i.toNat)).t < ((n : Nat) : Int)), true, true,
        decide (0 + (S (0 + i.toNat)).t.toNat < n), true, true,
        !(L (0 + (S (0 + i.toNat)).t.toNat)).k != (4 : Int),
        decide ((0 : Int) ≤ (S (0 + i.toNat)).t), decide ((S (0 + i.toNat)).t < ((n : Nat) : Int)),
        decide (0 + (S (0 + i.toNat)).t.toNat < n),
        (L (0 + (S (0 + i.toNat)).t.toNat)).k == (4 : Int)],
      Ex.normal,
      {
        sl :=
          slots 181
            [(1, I64 A), (5, AV.c (AC.sl 1 0 n)),
              (6, AV.c (AC.sl 2 0 c)),
              (7, I64 (w64 ((S (0 + i.toNat)).t + (1 : Int)))), (8, I64 (w64 (i + (1 : Int))))],
        h :=
          [some
              { t := 87, own := false,
                c :=
                  Cont.row 4 k fun j =>
                    [Value.int IntKind.i64 (R j).k, Value.int IntKind.i64 (R j).r, Value.int IntKind.i64 (R j).a,
                      Value.int IntKind.i64 (R j).w] },
            some
              { t := 87, own := true,
                c :=
                  Cont.row 4 n fun j =>
                    [Value.int IntKind.i64 (L j).k, Value.int IntKind.i64 (L j).r, Value.int IntKind.i64 (L j).a,
                      Value.int IntKind.i64 (L j).w] },
            some
              { t := 98, own := true,
                c :=
                  Cont.row 3 c fun j =>
                    [Value.int IntKind.i64 (S j).f, Value.int IntKind.i64 (S j).t, Value.int IntKind.i64 (S j).w] }] }) := by kernel_rfl
theorem bfo_sn {k : Nat} {R : Nat → Gl} {n : Nat} {L : Nat → Gl} {A : Int} {c : Nat} {S : Nat → Sp} {at' i W M q : Int} {P : Bool} : (rT bfG (bfW k R n L A c S i W P M q) 1 52 (bodyOf Try.f29 0) bfK bfKr (bfS k R n L A c S at' i)).go [true, true, true, true, false, false, false, false, false, false, false, false, false, false, false, false, false, true, false, false, false, false, false, false, false, false, false, false, true, true, true, false, false, false, false, false, false, false, false, false, true, true, true, false, true, true, true, true, false] =
  some
    ([decide (i < ((c : Nat) : Int)), decide ((0 : Int) ≤ i), decide (i < ((c : Nat) : Int)), decide (0 + i.toNat < c),
        !(S (0 + i.toNat)).f != at', true, true, true, true, true,
        !decide ((S (0 + i.toNat)).t < (S (0 + i.toNat)).f), true, true, true, true, true,
        !decide ((S (0 + i.toNat)).t > ((n : Nat) : Int)), yes (wasS (bodyOf Try.f29 1) (bf1 k R n L A c S i (S (0 + i.toNat)) 0 false (S (0 + i.toNat)).f)), !W != (S (0 + i.toNat)).w, true, true, true,
        !decide (W > A), true, true, true, true, !(S (0 + i.toNat)).t == ((n : Nat) : Int),
        decide ((0 : Int) ≤ (S (0 + i.toNat)).t), decide ((S (0 + i.toNat)).t < ((n : Nat) : Int)),
        decide (0 + (S (0 + i.toNat)).t.toNat < n),
        !(L (0 + (S (0 + i.toNat)).t.toNat)).k != (2 : Int), true, true, true, true, true, true, true,
        true, decide ((0 : Int) ≤ (S (0 + i.toNat)).t), decide ((S (0 + i.toNat)).t < ((n : Nat) : Int)),
        decide (0 + (S (0 + i.toNat)).t.toNat < n),
        !(L (0 + (S (0 + i.toNat)).t.toNat)).k == (4 : Int),
        decide ((0 : Int) ≤ (S (0 + i.toNat)).t), decide ((S (0 + i.toNat)).t < ((n : Nat) : Int)),
        decide (0 + (S (0 + i.toNat)).t.toNat < n), yes (wasS (bodyOf Try.f29 2) (bf2 k R n L A c S (w64 ((S (0 + i.toNat)).t + 1)) i (w64 (W + (L (0 + (S (0 + i.toNat)).t.toNat)).w)) (w64 ((S (0 + i.toNat)).t + 1)))), !decide (M ≤ A)],
      Ex.normal,
      {
        sl :=
          slots 181
            [(1, I64 A), (5, AV.c (AC.sl 1 0 n)),
              (6, AV.c (AC.sl 2 0 c)),
              (7, I64 (w64 ((S (0 + i.toNat)).t + (1 : Int)))), (8, I64 (w64 (i + (1 : Int))))],
        h :=
          [some
              { t := 87, own := false,
                c :=
                  Cont.row 4 k fun j =>
                    [Value.int IntKind.i64 (R j).k, Value.int IntKind.i64 (R j).r, Value.int IntKind.i64 (R j).a,
                      Value.int IntKind.i64 (R j).w] },
            some
              { t := 87, own := true,
                c :=
                  Cont.row 4 n fun j =>
                    [Value.int IntKind.i64 (L j).k, Value.int IntKind.i64 (L j).r, Value.int IntKind.i64 (L j).a,
                      Value.int IntKind.i64 (L j).w] },
            some
              { t := 98, own := true,
                c :=
                  Cont.row 3 c fun j =>
                    [Value.int IntKind.i64 (S j).f, Value.int IntKind.i64 (S j).t, Value.int IntKind.i64 (S j).w] }] }) := by kernel_rfl
theorem bfo_rw {k : Nat} {R : Nat → Gl} {n : Nat} {L : Nat → Gl} {A : Int} {c : Nat} {S : Nat → Sp} {at' i W : Int} : (rT bfG (bfV k R n L A c S i W false) 1 52 (bodyOf Try.f29 0) bfK bfKr (bfS k R n L A c S at' i)).go [true, true, true, true, false, false, false, false, false, false, false, false, false, false, false, false, false, true, false, false, false, false, true, false, true, false, false] =
  some
    ([decide (i < ((c : Nat) : Int)), decide ((0 : Int) ≤ i), decide (i < ((c : Nat) : Int)), decide (0 + i.toNat < c),
        !(S (0 + i.toNat)).f != at', true, true, true, true, true,
        !decide ((S (0 + i.toNat)).t < (S (0 + i.toNat)).f), true, true, true, true, true,
        !decide ((S (0 + i.toNat)).t > ((n : Nat) : Int)), yes (wasS (bodyOf Try.f29 1) (bf1 k R n L A c S i (S (0 + i.toNat)) 0 false (S (0 + i.toNat)).f)), !W != (S (0 + i.toNat)).w, true, true, true,
        decide (W > A), true, true, true, true, (S (0 + i.toNat)).t == ((n : Nat) : Int), w64 (i + (1 : Int)) == ((c : Nat) : Int), true],
      Ex.ret,
      { sl := slots 181 [(4, Bo true)],
        h :=
          [some
              { t := 87, own := false,
                c :=
                  Cont.row 4 k fun j =>
                    [Value.int IntKind.i64 (R j).k, Value.int IntKind.i64 (R j).r, Value.int IntKind.i64 (R j).a,
                      Value.int IntKind.i64 (R j).w] }] }) := by kernel_rfl
theorem bfo_bw {k : Nat} {R : Nat → Gl} {n : Nat} {L : Nat → Gl} {A : Int} {c : Nat} {S : Nat → Sp} {at' i W : Int} : (rT bfG (bfV k R n L A c S i W false) 1 52 (bodyOf Try.f29 0) bfK bfKr (bfS k R n L A c S at' i)).go [true, true, true, true, false, false, false, false, false, false, false, false, false, false, false, false, false, true, false, false, false, false, true, false, true, false, false, false, true, true, true, true, true, true, true, true, true, true, true, true, true, true, false] =
  some
    ([decide (i < ((c : Nat) : Int)), decide ((0 : Int) ≤ i), decide (i < ((c : Nat) : Int)), decide (0 + i.toNat < c),
        !(S (0 + i.toNat)).f != at', true, true, true, true, true,
        !decide ((S (0 + i.toNat)).t < (S (0 + i.toNat)).f), true, true, true, true, true,
        !decide ((S (0 + i.toNat)).t > ((n : Nat) : Int)), yes (wasS (bodyOf Try.f29 1) (bf1 k R n L A c S i (S (0 + i.toNat)) 0 false (S (0 + i.toNat)).f)), !W != (S (0 + i.toNat)).w, true, true, true,
        decide (W > A), true, true, true, true, !(S (0 + i.toNat)).t == ((n : Nat) : Int),
        decide ((0 : Int) ≤ (S (0 + i.toNat)).t), decide ((S (0 + i.toNat)).t < ((n : Nat) : Int)),
        decide (0 + (S (0 + i.toNat)).t.toNat < n),
        (L (0 + (S (0 + i.toNat)).t.toNat)).k != (2 : Int), true, true, true,
        decide ((0 : Int) ≤ (S (0 + i.toNat)).t), decide ((S (0 + i.toNat)).t < ((n : Nat) : Int)), true, true,
        decide (0 + (S (0 + i.toNat)).t.toNat < n), true, true,
        !(L (0 + (S (0 + i.toNat)).t.toNat)).k != (4 : Int),
        decide ((0 : Int) ≤ (S (0 + i.toNat)).t), decide ((S (0 + i.toNat)).t < ((n : Nat) : Int)),
        decide (0 + (S (0 + i.toNat)).t.toNat < n),
        (L (0 + (S (0 + i.toNat)).t.toNat)).k == (4 : Int)],
      Ex.normal,
      {
        sl :=
          slots 181
            [(1, I64 A), (5, AV.c (AC.sl 1 0 n)),
              (6, AV.c (AC.sl 2 0 c)),
              (7, I64 (w64 ((S (0 + i.toNat)).t + (1 : Int)))), (8, I64 (w64 (i + (1 : Int))))],
        h :=
          [some
              { t := 87, own := false,
                c :=
                  Cont.row 4 k fun j =>
                    [Value.int IntKind.i64 (R j).k, Value.int IntKind.i64 (R j).r, Value.int IntKind.i64 (R j).a,
                      Value.int IntKind.i64 (R j).w] },
            some
              { t := 87, own := true,
                c :=
                  Cont.row 4 n fun j =>
                    [Value.int IntKind.i64 (L j).k, Value.int IntKind.i64 (L j).r, Value.int IntKind.i64 (L j).a,
                      Value.int IntKind.i64 (L j).w] },
            some
              { t := 98, own := true,
                c :=
                  Cont.row 3 c fun j =>
                    [Value.int IntKind.i64 (S j).f, Value.int IntKind.i64 (S j).t, Value.int IntKind.i64 (S j).w] }] }) := by kernel_rfl
theorem bfo_sw {k : Nat} {R : Nat → Gl} {n : Nat} {L : Nat → Gl} {A : Int} {c : Nat} {S : Nat → Sp} {at' i W M q : Int} : (rT bfG (bfW k R n L A c S i W false M q) 1 52 (bodyOf Try.f29 0) bfK bfKr (bfS k R n L A c S at' i)).go [true, true, true, true, false, false, false, false, false, false, false, false, false, false, false, false, false, true, false, false, false, false, true, false, true, false, false, false, true, true, true, false, false, false, false, false, false, false, false, false, true, true, true, false, true, true, true, true, false] =
  some
    ([decide (i < ((c : Nat) : Int)), decide ((0 : Int) ≤ i), decide (i < ((c : Nat) : Int)), decide (0 + i.toNat < c),
        !(S (0 + i.toNat)).f != at', true, true, true, true, true,
        !decide ((S (0 + i.toNat)).t < (S (0 + i.toNat)).f), true, true, true, true, true,
        !decide ((S (0 + i.toNat)).t > ((n : Nat) : Int)), yes (wasS (bodyOf Try.f29 1) (bf1 k R n L A c S i (S (0 + i.toNat)) 0 false (S (0 + i.toNat)).f)), !W != (S (0 + i.toNat)).w, true, true, true,
        decide (W > A), true, true, true, true, !(S (0 + i.toNat)).t == ((n : Nat) : Int),
        decide ((0 : Int) ≤ (S (0 + i.toNat)).t), decide ((S (0 + i.toNat)).t < ((n : Nat) : Int)),
        decide (0 + (S (0 + i.toNat)).t.toNat < n),
        !(L (0 + (S (0 + i.toNat)).t.toNat)).k != (2 : Int), true, true, true, true, true, true, true,
        true, decide ((0 : Int) ≤ (S (0 + i.toNat)).t), decide ((S (0 + i.toNat)).t < ((n : Nat) : Int)),
        decide (0 + (S (0 + i.toNat)).t.toNat < n),
        !(L (0 + (S (0 + i.toNat)).t.toNat)).k == (4 : Int),
        decide ((0 : Int) ≤ (S (0 + i.toNat)).t), decide ((S (0 + i.toNat)).t < ((n : Nat) : Int)),
        decide (0 + (S (0 + i.toNat)).t.toNat < n), yes (wasS (bodyOf Try.f29 2) (bf2 k R n L A c S (w64 ((S (0 + i.toNat)).t + 1)) i (w64 (W + (L (0 + (S (0 + i.toNat)).t.toNat)).w)) (w64 ((S (0 + i.toNat)).t + 1)))), !decide (M ≤ A)],
      Ex.normal,
      {
        sl :=
          slots 181
            [(1, I64 A), (5, AV.c (AC.sl 1 0 n)),
              (6, AV.c (AC.sl 2 0 c)),
              (7, I64 (w64 ((S (0 + i.toNat)).t + (1 : Int)))), (8, I64 (w64 (i + (1 : Int))))],
        h :=
          [some
              { t := 87, own := false,
                c :=
                  Cont.row 4 k fun j =>
                    [Value.int IntKind.i64 (R j).k, Value.int IntKind.i64 (R j).r, Value.int IntKind.i64 (R j).a,
                      Value.int IntKind.i64 (R j).w] },
            some
              { t := 87, own := true,
                c :=
                  Cont.row 4 n fun j =>
                    [Value.int IntKind.i64 (L j).k, Value.int IntKind.i64 (L j).r, Value.int IntKind.i64 (L j).a,
                      Value.int IntKind.i64 (L j).w] },
            some
              { t := 98, own := true,
                c :=
                  Cont.row 3 c fun j =>
                    [Value.int IntKind.i64 (S j).f, Value.int IntKind.i64 (S j).t, Value.int IntKind.i64 (S j).w] }] }) := by kernel_rfl
theorem bfo_e {k : Nat} {R : Nat → Gl} {n : Nat} {L : Nat → Gl} {A : Int} {c : Nat} {S : Nat → Sp} {at' i : Int} : (rT bfG nol 1 52 (bodyOf Try.f29 0) bfK bfK (bfS k R n L A c S at' i)).go [false] =
  some
    ([!decide (i < ((c : Nat) : Int))], Ex.exit 0,
      {
        sl :=
          slots 181
            [(1, I64 A), (5, AV.c (AC.sl 1 0 n)),
              (6, AV.c (AC.sl 2 0 c)), (7, I64 at'), (8, I64 i)],
        h :=
          [some
              { t := 87, own := false,
                c :=
                  Cont.row 4 k fun j =>
                    [Value.int IntKind.i64 (R j).k, Value.int IntKind.i64 (R j).r, Value.int IntKind.i64 (R j).a,
                      Value.int IntKind.i64 (R j).w] },
            some
              { t := 87, own := true,
                c :=
                  Cont.row 4 n fun j =>
                    [Value.int IntKind.i64 (L j).k, Value.int IntKind.i64 (L j).r, Value.int IntKind.i64 (L j).a,
                      Value.int IntKind.i64 (L j).w] },
            some
              { t := 98, own := true,
                c :=
                  Cont.row 3 c fun j =>
                    [Value.int IntKind.i64 (S j).f, Value.int IntKind.i64 (S j).t, Value.int IntKind.i64 (S j).w] }] }) := by kernel_rfl
def bfA (A : Int) : Int := A.tmod 16777216
theorem bf_w1 {k : Nat} {R : Nat → Gl} {A : Int} : (lfun bfG (tell (bodyOf Try.f29 0) (bfS k R (m200 k) (blT k R) (bfA A) (blC k R (bfA A)) (blX k R (bfA A)) 0 0) (.ret, bfZ k R)) 60 Try.f29 [.c (.sl 0 0 k), I64 A] [rowGo false k R]).go [] =
  some
    ([yes (0 + k ≤ k ∧ (fun j => encG (R j)) = fun j => encG (decG (encG (R j)))), true,
        yes
          (m200 k ≤ m200 k ∧
            m200 k < 2 ^ 30 ∧
              ((fun j => encG (tmGL (fun j => decG (encG (R (0 + j)))) (m200 k) j)) = fun j =>
                  encG (decG (encG (tmGL (fun j => decG (encG (R (0 + j)))) (m200 k) j)))) ∧
                WOk fun j => decG (encG (tmGL (fun j => decG (encG (R (0 + j)))) (m200 k) j))),
        yes (wasS (bodyOf Try.f29 0) (bfS k R (m200 k) (blT k R) (bfA A) (blC k R (bfA A)) (blX k R (bfA A)) 0 0))],
      Bo true,
      [some
          { t := 87, own := false,
            c :=
              Cont.row 4 k fun j =>
                [Value.int IntKind.i64 (R j).k, Value.int IntKind.i64 (R j).r, Value.int IntKind.i64 (R j).a,
                  Value.int IntKind.i64 (R j).w] }]) := by kernel_rfl
theorem bf_w2 {k : Nat} {R : Nat → Gl} {A at' i : Int} : (lfun bfG (tell (bodyOf Try.f29 0) (bfS k R (m200 k) (blT k R) (bfA A) (blC k R (bfA A)) (blX k R (bfA A)) 0 0) (.exit 0, bfS k R (m200 k) (blT k R) (bfA A) (blC k R (bfA A)) (blX k R (bfA A)) at' i)) 60 Try.f29 [.c (.sl 0 0 k), I64 A] [rowGo false k R]).go [] =
  some
    ([yes (0 + k ≤ k ∧ (fun j => encG (R j)) = fun j => encG (decG (encG (R j)))), true,
        yes
          (m200 k ≤ m200 k ∧
            m200 k < 2 ^ 30 ∧
              ((fun j => encG (tmGL (fun j => decG (encG (R (0 + j)))) (m200 k) j)) = fun j =>
                  encG (decG (encG (tmGL (fun j => decG (encG (R (0 + j)))) (m200 k) j)))) ∧
                WOk fun j => decG (encG (tmGL (fun j => decG (encG (R (0 + j)))) (m200 k) j))),
        yes (wasS (bodyOf Try.f29 0) (bfS k R (m200 k) (blT k R) (bfA A) (blC k R (bfA A)) (blX k R (bfA A)) 0 0)), decide (at' ≥ ((m200 k : Nat) : Int)), true],
      Bo true,
      [some
          { t := 87, own := false,
            c :=
              Cont.row 4 k fun j =>
                [Value.int IntKind.i64 (R j).k, Value.int IntKind.i64 (R j).r, Value.int IntKind.i64 (R j).a,
                  Value.int IntKind.i64 (R j).w] }]) := by kernel_rfl
end Go.Proofs.Ytcpahifgdppkbaa.QAI
end
section
/- BrkFull: what the loops come to. -/
set_option linter.unusedVariables false
set_option linter.unusedSimpArgs false
namespace Go.Proofs.Ytcpahifgdppkbaa.QAI
open Go Go.RowKit
set_option maxRecDepth 100000
def spN (L : Nat → Gl) (o : Nat) : Nat → Bool
  | 0 => false
  | c + 1 => spN L o c || spc (L (o + c))
theorem spN_none {L : Nat → Gl} {o : Nat} : ∀ c, (∀ j, j < c → spc (L (o + j)) = false) → spN L o c = false
  | 0, _ => rfl
  | c + 1, h => by rw [spN, spN_none c fun j hj => h j (by omega), h c (by omega)]; rfl
theorem b1_loop {k : Nat} {R : Nat → Gl} {n : Nat} {L : Nat → Gl} {A : Int} {c : Nat} {S : Nat → Sp} {i : Int} {o t : Nat} {z : Int} (hL : WOk L) (hn : n ≤ 200) (hot : o ≤ t) (htn : t ≤ n) (hb : ∀ q, o ≤ q → q < t → brk (L q) = false) :
    CodeSem bfG 1 (.loop (bodyOf Try.f29 1)) (bf1 k R n L A c S i ⟨o, t, z⟩ 0 false o) (.exit 2, bf1 k R n L A c S i ⟨o, t, z⟩ (sw L o (t - o)) (spN L o (t - o)) t) := by
  have hh := loop_of (G := bfG) (n0 := 1) (b := bodyOf Try.f29 1) (fun j => bf1 k R n L A c S i ⟨o, t, z⟩ (sw L o j) (spN L o j) ((o + j : Nat) : Int)) (t - o) (e := .exit 2) (Se := bf1 k R n L A c S i ⟨o, t, z⟩ (sw L o (t - o)) (spN L o (t - o)) ((o + (t - o) : Nat) : Int)) (by simp) ?_ fun j hj => ?_
  · have e : o + (t - o) = t := by omega
    rw [e] at hh
    exact hh
  · refine rT_sem bfG_ok noLoopsS (rT_go b1_e ⟨?_, trivial⟩)
    simp
    omega
  · have h3 : w64 (((o + j : Nat) : Int) + 1) = ((o + (j + 1) : Nat) : Int) := by rw [w64_id (by omega) (by omega)]; omega
    have hs := sw_b hL o j
    have hw := hL (o + j)
    have h4 : w64 (sw L o j + (L (o + j)).w) = sw L o (j + 1) := by rw [w64_id (by omega) (by omega)]; rfl
    have hbb := hb (o + j) (by omega) (by omega)
    have hb' : (!((L (o + j)).k == 4)) = true := by have h : ((L (o + j)).k == 4) = false := hbb; rw [h]; rfl
    cases hsp : spN L o j
    · have e : spN L o (j + 1) = spc (L (o + j)) := by rw [spN, hsp]; rfl
      refine rT_sem bfG_ok noLoopsS ((rT_go b1_f ?_).trans ?_)
      · simp only [Int.toNat_natCast, Nat.zero_add]
        repeat' (first | exact AllT.nil | refine AllT.cons ?_ ?_)
        all_goals first | (with_reducible rfl) | (with_reducible assumption) | exact decide_eq_true (by omega) | exact decide_eq_true (show ((o + j : Nat) : Int) < (t : Int) by omega)
      · simp only [Int.toNat_natCast, Nat.zero_add, h3, h4, e]
        rfl
    · have e : spN L o (j + 1) = true := by rw [spN, hsp]; rfl
      refine rT_sem bfG_ok noLoopsS ((rT_go b1_t ?_).trans ?_)
      · simp only [Int.toNat_natCast, Nat.zero_add]
        repeat' (first | exact AllT.nil | refine AllT.cons ?_ ?_)
        all_goals first | (with_reducible rfl) | (with_reducible assumption) | exact decide_eq_true (by omega) | exact decide_eq_true (show ((o + j : Nat) : Int) < (t : Int) by omega)
      · simp only [Int.toNat_natCast, Nat.zero_add, h3, h4, e]
        rfl
/-- How many places there are from o on up to the first where a line may end. -/
def partC (n : Nat) (L : Nat → Gl) (o : Nat) : Nat → Nat
  | 0 => 0
  | f + 1 => bif partA n L o then 0 else partC n L (o + 1) f + 1
theorem partC_spec {n : Nat} {L : Nat → Gl} : ∀ (f o : Nat), o + f = n → partC n L o f ≤ f ∧ partA n L (o + partC n L o f) = true ∧ ∀ d, d < partC n L o f → partA n L (o + d) = false
  | 0, o, h => by
    refine ⟨Nat.le_refl _, ?_, fun d hd => absurd hd (Nat.not_lt_zero _)⟩
    simp [partC, partA, stopA, show o = n by omega]
  | f + 1, o, h => by
    rw [partC]
    cases hs : partA n L o
    · simp only [cond_false]
      obtain ⟨h1, h2, h3⟩ := partC_spec (n := n) (L := L) f (o + 1) (by omega)
      refine ⟨by omega, ?_, fun d hd => ?_⟩
      · rw [show o + (partC n L (o + 1) f + 1) = o + 1 + partC n L (o + 1) f by omega]
        exact h2
      · cases d with
        | zero => exact hs
        | succ d =>
          rw [show o + (d + 1) = o + 1 + d by omega]
          exact h3 d (by omega)
    · simp only [cond_true]
      exact ⟨Nat.zero_le _, hs, fun d hd => absurd hd (Nat.not_lt_zero _)⟩
theorem b2_loop {k : Nat} {R : Nat → Gl} {n : Nat} {L : Nat → Gl} {A : Int} {c : Nat} {S : Nat → Sp} {at' i : Int} {o p : Nat} {m : Int} (hL : WOk L) (hn : n ≤ 200) (hop : o ≤ p) (hpn : p ≤ n) (hm0 : 0 ≤ m) (hm1 : m < 2 ^ 40) (hp : partA n L p = true) (hb : ∀ q, o ≤ q → q < p → partA n L q = false) :
    CodeSem bfG 1 (.loop (bodyOf Try.f29 2)) (bf2 k R n L A c S at' i m o) (.exit 4, bf2 k R n L A c S at' i (m + sw L o (p - o)) p) := by
  have hh := loop_of (G := bfG) (n0 := 1) (b := bodyOf Try.f29 2) (fun j => bf2 k R n L A c S at' i (m + sw L o j) ((o + j : Nat) : Int)) (p - o) (e := .exit 4) (Se := bf2 k R n L A c S at' i (m + sw L o (p - o)) ((o + (p - o) : Nat) : Int)) (by simp) ?_ fun j hj => ?_
  · have e : o + (p - o) = p := by omega
    have e0 : m + sw L o 0 = m := by simp [sw]
    rw [e, e0] at hh
    exact hh
  · have e : o + (p - o) = p := by omega
    rw [e]
    by_cases h1 : p = n
    · refine rT_sem bfG_ok noLoopsS (rT_go b2_e1 ⟨?_, ?_⟩)
      · simp; omega
      · repeat' (first | exact AllT.nil | refine AllT.cons ?_ ?_)
        all_goals rfl
    · have hps := part_pSB (n := n) (L := L) (i := p) (by omega)
      rw [hp] at hps
      by_cases h2 : ((L p).k == 2) = true
      · have h2' : (!((L p).k != 2)) = true := by
          have : (L p).k = 2 := by simpa using h2
          rw [this]; rfl
        refine rT_sem bfG_ok noLoopsS (rT_go b2_e2 ?_)
        simp only [Int.toNat_natCast, Nat.zero_add]
        repeat' (first | exact AllT.nil | refine AllT.cons ?_ ?_)
        all_goals first | (with_reducible rfl) | (with_reducible assumption) | exact decide_eq_true (by omega)
      · have h4 : ((L p).k == 4) = true := by
          have h2f : ((L p).k == 2) = false := by simpa using h2
          unfold pSB at hps
          rw [h2f, Bool.false_or] at hps
          exact hps.symm
        have h2' : ((L p).k != 2) = true := by
          have : (L p).k = 4 := by simpa using h4
          rw [this]; rfl
        have h4' : (!((L p).k != 4)) = true := by
          have : (L p).k = 4 := by simpa using h4
          rw [this]; rfl
        refine rT_sem bfG_ok noLoopsS (rT_go b2_e3 ?_)
        simp only [Int.toNat_natCast, Nat.zero_add]
        repeat' (first | exact AllT.nil | refine AllT.cons ?_ ?_)
        all_goals first | (with_reducible rfl) | (with_reducible assumption) | exact decide_eq_true (by omega)
  · have h3 : w64 (((o + j : Nat) : Int) + 1) = ((o + (j + 1) : Nat) : Int) := by rw [w64_id (by omega) (by omega)]; omega
    have hs := sw_b hL o j
    have hw := hL (o + j)
    have h4 : w64 (m + sw L o j + (L (o + j)).w) = m + sw L o (j + 1) := by
      rw [w64_id (by omega) (by omega)]
      simp only [sw]
      omega
    have hbb := hb (o + j) (by omega) (by omega)
    rw [part_pSB (by omega)] at hbb
    simp only [pSB, Bool.or_eq_false_iff] at hbb
    have h2' : ((L (o + j)).k != 2) = true := by rw [bne, hbb.1]; rfl
    have h4' : ((L (o + j)).k != 4) = true := by rw [bne, hbb.2]; rfl
    refine rT_sem bfG_ok noLoopsS ((rT_go b2_go ?_).trans ?_)
    · simp only [Int.toNat_natCast, Nat.zero_add]
      repeat' (first | exact AllT.nil | refine AllT.cons ?_ ?_)
      all_goals first | (with_reducible rfl) | (with_reducible assumption) | exact decide_eq_true (by omega)
    · simp only [Int.toNat_natCast, Nat.zero_add, h3, h4]
      rfl
end Go.Proofs.Ytcpahifgdppkbaa.QAI
end
section
/- BrkFull: the whole. -/
set_option linter.unusedVariables false
set_option linter.unusedSimpArgs false
namespace Go.Proofs.Ytcpahifgdppkbaa.QAI
open Go Go.RowKit
set_option maxRecDepth 100000
section
variable {k : Nat} {R : Nat → Gl} {n : Nat} {L : Nat → Gl} {A : Int} {c : Nat} {S : Nat → Sp} {j o t : Nat}
theorem bf_in1 (hL : WOk L) (hn : n ≤ 200) (hS : S j = ⟨o, t, sw L o (t - o)⟩) (hl : IsLine n L A o t) :
    CodeSem bfG 1 (.loop (bodyOf Try.f29 1)) (bf1 k R n L A c S (j : Int) (S (0 + (j : Int).toNat)) 0 false (S (0 + (j : Int).toNat)).f) (.exit 2, bf1 k R n L A c S (j : Int) (S (0 + (j : Int).toNat)) (sw L o (t - o)) (spN L o (t - o)) (S (0 + (j : Int).toNat)).t) := by
  have e : S (0 + (j : Int).toNat) = ⟨o, t, sw L o (t - o)⟩ := by rw [Int.toNat_natCast, Nat.zero_add]; exact hS
  rw [e]
  refine b1_loop hL hn hl.le hl.ln fun q hq1 hq2 => ?_
  rw [← stop_brk (n := n) (by have := hl.ln; omega)]
  exact hl.go q hq1 hq2
theorem bf_wide (hl : IsLine n L A o t) (hA : A < sw L o (t - o)) : spN L o (t - o) = false := by
  have hf : ∀ p, o ≤ p → p < t → partA n L p = false := by
    rcases hl.why with h | h
    · exact h
    · omega
  refine spN_none _ fun q hq => ?_
  have h1 := hf (o + q) (by omega) (by have := hl.le; omega)
  simp only [partA, Bool.or_eq_false_iff] at h1
  exact h1.2
theorem bf_ret (hL : WOk L) (hn : n ≤ 200) (hc : c ≤ 200) (hj : j < c) (hS : S j = ⟨o, t, sw L o (t - o)⟩) (hl : IsLine n L A o t) (ht : t = n) (hjc : j + 1 = c) :
    CodeSem bfG 1 (bodyOf Try.f29 0) (bfS k R n L A c S o j) (.ret, bfZ k R) := by
  have h3 := succ64 (j := j) (by omega)
  have hle := hl.le
  have hln := hl.ln
  have hsb := sw_b hL o (t - o)
  have h5 : w64 ((t : Int) + 1) = ((t + 1 : Nat) : Int) := by rw [w64_id (by omega) (by omega)]; omega
  have hin := bf_in1 (k := k) (R := R) (c := c) hL hn hS hl
  by_cases hA : A < sw L o (t - o)
  · rw [bf_wide hl hA] at hin
    refine rT_sem bfG_ok (byReg_sem (r := 12) (tell_ok hin) noLoopsS) (rT_go (bfo_rw (W := sw L o (t - o))) ?_)
    simp only [Int.toNat_natCast, Nat.zero_add, hS, h3, h5]
    repeat' (first | exact AllT.nil | refine AllT.cons ?_ ?_)
    all_goals first | (with_reducible rfl) | (with_reducible assumption) | exact yes_of ⟨rfl, rfl⟩ | exact decide_eq_true (by omega) | exact beq_iff_eq.2 (by omega) | (simp; done) | (simp; omega)
  · refine rT_sem bfG_ok (byReg_sem (r := 12) (tell_ok hin) noLoopsS) (rT_go (bfo_rn (W := sw L o (t - o)) (P := spN L o (t - o))) ?_)
    simp only [Int.toNat_natCast, Nat.zero_add, hS, h3, h5]
    repeat' (first | exact AllT.nil | refine AllT.cons ?_ ?_)
    all_goals first | (with_reducible rfl) | (with_reducible assumption) | exact yes_of ⟨rfl, rfl⟩ | exact decide_eq_true (by omega) | exact beq_iff_eq.2 (by omega) | (simp; done) | (simp; omega)
theorem bf_brk (hL : WOk L) (hn : n ≤ 200) (hc : c ≤ 200) (hj : j < c) (hS : S j = ⟨o, t, sw L o (t - o)⟩) (hl : IsLine n L A o t) (ht : t < n) (hb : brk (L t) = true) :
    CodeSem bfG 1 (bodyOf Try.f29 0) (bfS k R n L A c S o j) (.normal, bfS k R n L A c S ((t + 1 : Nat) : Int) ((j + 1 : Nat) : Int)) := by
  have h3 := succ64 (j := j) (by omega)
  have hle := hl.le
  have hln := hl.ln
  have hsb := sw_b hL o (t - o)
  have h5 : w64 ((t : Int) + 1) = ((t + 1 : Nat) : Int) := by rw [w64_id (by omega) (by omega)]; omega
  have hin := bf_in1 (k := k) (R := R) (c := c) hL hn hS hl
  have hb4 : ((L t).k == 4) = true := hb
  have hk4 : (L t).k = 4 := by simpa using hb4
  have hb2 : ((L t).k != 2) = true := by rw [hk4]; rfl
  have hb4' : (!((L t).k != 4)) = true := by rw [hk4]; rfl
  by_cases hA : A < sw L o (t - o)
  · rw [bf_wide hl hA] at hin
    refine rT_sem bfG_ok (byReg_sem (r := 12) (tell_ok hin) noLoopsS) ((rT_go (bfo_bw (W := sw L o (t - o))) ?_).trans ?_)
    · simp only [Int.toNat_natCast, Nat.zero_add, hS, h3, h5]
      repeat' (first | exact AllT.nil | refine AllT.cons ?_ ?_)
      all_goals first | (with_reducible rfl) | (with_reducible assumption) | exact yes_of ⟨rfl, rfl⟩ | exact decide_eq_true (by omega) | exact beq_iff_eq.2 (by omega) | (simp; done) | (simp; omega)
    · simp only [Int.toNat_natCast, Nat.zero_add, hS, h3, h5]
      rfl
  · refine rT_sem bfG_ok (byReg_sem (r := 12) (tell_ok hin) noLoopsS) ((rT_go (bfo_bn (W := sw L o (t - o)) (P := spN L o (t - o))) ?_).trans ?_)
    · simp only [Int.toNat_natCast, Nat.zero_add, hS, h3, h5]
      repeat' (first | exact AllT.nil | refine AllT.cons ?_ ?_)
      all_goals first | (with_reducible rfl) | (with_reducible assumption) | exact yes_of ⟨rfl, rfl⟩ | exact decide_eq_true (by omega) | exact beq_iff_eq.2 (by omega) | (simp; done) | (simp; omega)
    · simp only [Int.toNat_natCast, Nat.zero_add, hS, h3, h5]
      rfl
theorem bf_spc (hL : WOk L) (hn : n ≤ 200) (hc : c ≤ 200) (hj : j < c) (hS : S j = ⟨o, t, sw L o (t - o)⟩) (hl : IsLine n L A o t) (ht : t < n) (hb : brk (L t) = false) (hs : spc (L t) = true) :
    CodeSem bfG 1 (bodyOf Try.f29 0) (bfS k R n L A c S o j) (.normal, bfS k R n L A c S ((t + 1 : Nat) : Int) ((j + 1 : Nat) : Int)) := by
  have h3 := succ64 (j := j) (by omega)
  have hle := hl.le
  have hln := hl.ln
  have hsb := sw_b hL o (t - o)
  have h5 : w64 ((t : Int) + 1) = ((t + 1 : Nat) : Int) := by rw [w64_id (by omega) (by omega)]; omega
  have hin := bf_in1 (k := k) (R := R) (c := c) hL hn hS hl
  have hs2 : ((L t).k == 2) = true := hs
  have hk2 : (L t).k = 2 := by simpa using hs2
  have hb2 : (!((L t).k != 2)) = true := by rw [hk2]; rfl
  have hb4' : (!((L t).k == 4)) = true := by rw [hk2]; rfl
  obtain ⟨p1, p2, p3⟩ := partC_spec (n := n) (L := L) (n - (t + 1)) (t + 1) (by omega)
  have hwt := hL t
  have h6 : w64 (sw L o (t - o) + (L t).w) = sw L o (t - o) + (L t).w := w64_id (by omega) (by omega)
  have hin2 := b2_loop (k := k) (R := R) (n := n) (L := L) (A := A) (c := c) (S := S) (at' := ((t + 1 : Nat) : Int)) (i := (j : Int)) (o := t + 1) (p := t + 1 + partC n L (t + 1) (n - (t + 1))) (m := sw L o (t - o) + (L t).w) hL hn (by omega) (by omega) (by omega) (by omega) p2 fun q hq1 hq2 => by
    have := p3 (q - (t + 1)) (by omega)
    rw [show t + 1 + (q - (t + 1)) = q by omega] at this
    exact this
  generalize hp : t + 1 + partC n L (t + 1) (n - (t + 1)) = p at *
  have hM : A < sw L o (t - o) + (L t).w + sw L (t + 1) (p - (t + 1)) := by
    have e1 := sw_add (L := L) o (t - o + 1) (p - (t + 1))
    have e2 : sw L o (t - o + 1) = sw L o (t - o) + (L t).w := by rw [sw, show o + (t - o) = t by omega]
    rw [e2, show t - o + 1 + (p - (t + 1)) = p - o by omega, show o + (t - o + 1) = t + 1 by omega] at e1
    rcases Int.lt_or_le A (sw L o (p - o)) with h | h
    · omega
    · have := hl.most p (by omega) (by omega) (fun q hq1 hq2 => by
        rcases Nat.lt_trichotomy q t with h1 | h1 | h1
        · exact hl.go q hq1 h1
        · rw [h1, stop_brk (n := n) ht]; exact hb
        · have h8 := p3 (q - (t + 1)) (by omega)
          rw [show t + 1 + (q - (t + 1)) = q by omega] at h8
          simp only [partA, Bool.or_eq_false_iff] at h8
          exact h8.1) p2 h
      omega
  have eS : S (0 + (j : Int).toNat) = ⟨o, t, sw L o (t - o)⟩ := by rw [Int.toNat_natCast, Nat.zero_add]; exact hS
  have hin2' : CodeSem bfG 1 (.loop (bodyOf Try.f29 2)) (bf2 k R n L A c S (w64 ((S (0 + (j : Int).toNat)).t + 1)) (j : Int) (w64 (sw L o (t - o) + (L (0 + (S (0 + (j : Int).toNat)).t.toNat)).w)) (w64 ((S (0 + (j : Int).toNat)).t + 1)))
      (.exit 4, bf2 k R n L A c S (w64 ((S (0 + (j : Int).toNat)).t + 1)) (j : Int) (sw L o (t - o) + (L t).w + sw L (t + 1) (p - (t + 1))) p) := by
    rw [eS]
    show CodeSem bfG 1 (.loop (bodyOf Try.f29 2)) (bf2 k R n L A c S (w64 ((t : Int) + 1)) (j : Int) (w64 (sw L o (t - o) + (L (0 + (t : Int).toNat)).w)) (w64 ((t : Int) + 1))) (.exit 4, bf2 k R n L A c S (w64 ((t : Int) + 1)) (j : Int) (sw L o (t - o) + (L t).w + sw L (t + 1) (p - (t + 1))) p)
    rw [Int.toNat_natCast, Nat.zero_add, h5, h6]
    exact hin2
  by_cases hA : A < sw L o (t - o)
  · rw [bf_wide hl hA] at hin
    refine rT_sem bfG_ok (byReg_sem (r := 12) (tell_ok hin) (tell_ok hin2')) ((rT_go (bfo_sw (W := sw L o (t - o)) (M := sw L o (t - o) + (L t).w + sw L (t + 1) (p - (t + 1))) (q := (p : Int))) ?_).trans ?_)
    · simp only [Int.toNat_natCast, Nat.zero_add, hS, h3, h5]
      repeat' (first | exact AllT.nil | refine AllT.cons ?_ ?_)
      all_goals first | (with_reducible rfl) | (with_reducible assumption) | exact yes_of ⟨rfl, rfl⟩ | exact decide_eq_true (by omega) | exact beq_iff_eq.2 (by omega) | (simp; done) | (simp; omega)
    · simp only [Int.toNat_natCast, Nat.zero_add, hS, h3, h5]
      rfl
  · refine rT_sem bfG_ok (byReg_sem (r := 12) (tell_ok hin) (tell_ok hin2')) ((rT_go (bfo_sn (W := sw L o (t - o)) (P := spN L o (t - o)) (M := sw L o (t - o) + (L t).w + sw L (t + 1) (p - (t + 1))) (q := (p : Int))) ?_).trans ?_)
    · simp only [Int.toNat_natCast, Nat.zero_add, hS, h3, h5]
      repeat' (first | exact AllT.nil | refine AllT.cons ?_ ?_)
      all_goals first | (with_reducible rfl) | (with_reducible assumption) | exact yes_of ⟨rfl, rfl⟩ | exact decide_eq_true (by omega) | exact beq_iff_eq.2 (by omega) | (simp; done) | (simp; omega)
    · simp only [Int.toNat_natCast, Nat.zero_add, hS, h3, h5]
      rfl
end
theorem bf_at {n : Nat} {L : Nat → Gl} {A : Int} {j : Nat} (hj : j < lnC n L A) {t : Nat} (hl : IsLine n L A (lnAt n L A j) t) : spAt (lns n L A) j = ⟨lnAt n L A j, t, sw L (lnAt n L A j) (t - lnAt n L A j)⟩ ∧ lnAt n L A (j + 1) = t + 1 := by
  refine ⟨?_, by rw [lnAt, hl.eq]; rfl⟩
  have e : spAt (lns n L A) j = spOf n L A (lnAt n L A j) := by
    unfold spAt lns lnsN
    rw [List.getD_eq_getElem?_getD, List.getElem?_map, List.getElem?_range hj]
    rfl
  rw [e, spOf, hl.eq]
theorem bf_loop {k : Nat} {R : Nat → Gl} {n : Nat} {L : Nat → Gl} {A : Int} (hL : WOk L) (hn : n ≤ 200) :
    CodeSem bfG 1 (.loop (bodyOf Try.f29 0)) (bfS k R n L A (lnC n L A) (spAt (lns n L A)) 0 0) (.ret, bfZ k R) ∨
    CodeSem bfG 1 (.loop (bodyOf Try.f29 0)) (bfS k R n L A (lnC n L A) (spAt (lns n L A)) 0 0) (.exit 0, bfS k R n L A (lnC n L A) (spAt (lns n L A)) (lnAt n L A (lnC n L A)) (lnC n L A)) := by
  obtain ⟨a1, a2, a3⟩ := lnC_spec n L A
  have step : ∀ j, j < lnC n L A → lnAt n L A (j + 1) ≤ n → CodeSem bfG 1 (bodyOf Try.f29 0) (bfS k R n L A (lnC n L A) (spAt (lns n L A)) (lnAt n L A j) j) (.normal, bfS k R n L A (lnC n L A) (spAt (lns n L A)) (lnAt n L A (j + 1)) ((j + 1 : Nat) : Int)) := by
    intro j hj hle
    have h1 := a2 j hj
    obtain ⟨t, ht⟩ := isLine (n := n) (L := L) (A := A) (o := lnAt n L A j) (by omega)
    obtain ⟨h2, h3⟩ := bf_at hj ht
    have htn : t < n := by omega
    rw [h3]
    cases hb : brk (L t)
    · have hp := ht.part
      have hs : spc (L t) = true := by
        rw [partA, stop_brk htn, hb, Bool.false_or] at hp
        exact hp
      exact bf_spc hL hn (by omega) hj h2 ht htn hb hs
    · exact bf_brk hL hn (by omega) hj h2 ht htn hb
  rcases Nat.lt_or_ge n (lnAt n L A (lnC n L A)) with hlt | hge
  · -- the last line ends with the last glyph
    refine .inl ?_
    have hc : 0 < lnC n L A := by
      rcases Nat.eq_zero_or_pos (lnC n L A) with h | h
      · rw [h] at hlt
        have : lnAt n L A 0 = 0 := rfl
        omega
      · exact h
    have h1 := a2 (lnC n L A - 1) (by omega)
    obtain ⟨t, ht⟩ := isLine (n := n) (L := L) (A := A) (o := lnAt n L A (lnC n L A - 1)) (by omega)
    obtain ⟨h2, h3⟩ := bf_at (by omega) ht
    rw [show lnC n L A - 1 + 1 = lnC n L A by omega] at h3
    have hln := ht.ln
    have htn : t = n := by omega
    have hr := bf_ret (k := k) (R := R) hL hn (show lnC n L A ≤ 200 by omega) (show lnC n L A - 1 < lnC n L A by omega) h2 ht htn (by omega)
    exact loop_of (fun j => bfS k R n L A (lnC n L A) (spAt (lns n L A)) (lnAt n L A j) (j : Int)) (lnC n L A - 1) (by simp) hr fun j hj => step j (by omega) (by have := a2 (j + 1) (by omega); omega)
  · refine .inr ?_
    refine loop_of (fun j => bfS k R n L A (lnC n L A) (spAt (lns n L A)) (lnAt n L A j) (j : Int)) (lnC n L A) (by simp) ?_ fun j hj => step j hj ?_
    · exact rT_sem bfG_ok noLoopsS (rT_go bfo_e ⟨by simp, trivial⟩)
    · rcases Nat.lt_or_ge (j + 1) (lnC n L A) with h | h
      · have := a2 (j + 1) h; omega
      · have : j + 1 = lnC n L A := by omega
        rw [this]; exact hge
theorem brkFull_true (k : Nat) (R : Nat → Gl) (A : Int) : ∃ keep tm d ℓ, LoopsSem (GT KBT keep 0 tm) [rowGo false k R].length ℓ ∧ (lfun (GT KBT keep 0 tm) ℓ d Try.f29 [.c (.sl 0 0 k), I64 A] [rowGo false k R]).eval = some (Bo true, [rowGo false k R]) := by
  obtain ⟨hm1, hm2⟩ := m200_le k
  have hL : WOk (blD (blT k R)) := tmGL_ok _ _
  have hyes : m200 k ≤ m200 k ∧ m200 k < 2 ^ 30 ∧ ((fun j => encG (blT k R j)) = fun j => encG (decG (encG (blT k R j)))) ∧ WOk (blD (blT k R)) := ⟨Nat.le_refl _, by omega, rfl, hL⟩
  have a3 := (lnC_spec (m200 k) (blD (blT k R)) (bfA A)).2.2
  rcases bf_loop (k := k) (R := R) (n := m200 k) (L := blD (blT k R)) (A := bfA A) hL hm1 with h | h
  · refine ⟨_, [], 60, _, tell_ok h, (Tr.go_eval (bf_w1 (k := k) (R := R) (A := A)) ?_).trans ?_⟩
    · repeat' (first | exact AllT.nil | refine AllT.cons ?_ ?_)
      all_goals first
        | (with_reducible rfl)
        | exact yes_of ⟨by omega, rfl⟩
        | exact yes_of hyes
        | exact yes_of ⟨rfl, rfl⟩
        | exact decide_eq_true (by omega)
        | (simp; done)
    · rfl
  · refine ⟨_, [], 60, _, tell_ok h, (Tr.go_eval (bf_w2 (k := k) (R := R) (A := A)) ?_).trans ?_⟩
    · repeat' (first | exact AllT.nil | refine AllT.cons ?_ ?_)
      all_goals first
        | (with_reducible rfl)
        | exact yes_of ⟨by omega, rfl⟩
        | exact yes_of hyes
        | exact yes_of ⟨rfl, rfl⟩
        | exact decide_eq_true (by omega)
        | (simp; done)
    · rfl
def brkFullS : List Shp := [.rows 87 [.int .i64, .int .i64, .int .i64, .int .i64], .one (.int .i64)]
theorem brkFull_core : ∀ is, InsOk brkFullS is → ∃ keep tm d ℓ, LoopsSem (GT KBT keep 0 tm) (blksIn brkFullS is).length ℓ ∧ (lfun (GT KBT keep 0 tm) ℓ d Try.f29 (avsIn 0 brkFullS is) (blksIn brkFullS is)).eval = some (Bo true, blksIn brkFullS is) := by
  intro is0 h0
  obtain ⟨k1, v1', is2, rfl, h2, _⟩ := ins_glyphs h0
  obtain ⟨v3, is4, rfl, h4⟩ := ins_i64 h2
  obtain rfl := ins_nil h4
  exact brkFull_true k1 v1' v3
end Go.Proofs.Ytcpahifgdppkbaa.QAI
end
