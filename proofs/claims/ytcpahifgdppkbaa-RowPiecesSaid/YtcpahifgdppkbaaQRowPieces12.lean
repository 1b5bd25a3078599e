/- RowPieces: the walk. -/
import Derived.Test.YtcpahifgdppkbaaQRowPieces11
section
set_option linter.unusedVariables false
set_option linter.unusedSimpArgs false
namespace Go.Proofs.Ytcpahifgdppkbaa.QAI
open Go Go.RowKit
set_option maxRecDepth 100000
abbrev rqK1 : List (Nat × Option TypeId) := [(8,none),(9,none),(11,none),(12,none),(13,none)]
abbrev rqK2 : List (Nat × Option TypeId) := [(8,none),(9,none),(11,none),(12,none),(13,none),(14,none),(15,none)]
abbrev rqK3 : List (Nat × Option TypeId) := [(8,none),(9,none),(11,none),(12,none),(16,none),(17,none)]
abbrev rqK4 : List (Nat × Option TypeId) := [(8,none),(9,none),(11,none),(12,none),(16,none),(17,none),(18,none),(19,none)]
noncomputable def rqG : Ctx2 := GT KRT (fun k => if k = 7 then rqK1 else if k = 13 then rqK2 else if k = 23 then rqK3 else if k = 27 then rqK4 else []) 0 []
theorem rqG_ok : XOk rqG := GT_ok KRT_ok _ _ _
def rq1S (K : Nat) (g : Nat → Int) (ng : Nat) (L : Nat → Gl) (np : Nat) (P : Nat → Pc) (inn sum i : Int) : St := ⟨slots 232 [(8, .c (.sl 1 0 ng)), (9, .c (.sl 2 0 np)), (11, I64 inn), (12, I64 sum), (13, I64 i)], [rowJ false K g, rowGl ng L, rowPc np P]⟩
def rq2S (K : Nat) (g : Nat → Int) (ng : Nat) (L : Nat → Gl) (np : Nat) (P : Nat → Pc) (inn sum i w k : Int) : St := ⟨slots 232 [(8, .c (.sl 1 0 ng)), (9, .c (.sl 2 0 np)), (11, I64 inn), (12, I64 sum), (13, I64 i), (14, I64 w), (15, I64 k)], [rowJ false K g, rowGl ng L, rowPc np P]⟩
def rq3S (K : Nat) (g : Nat → Int) (ng : Nat) (L : Nat → Gl) (np : Nat) (P : Nat → Pc) (inn sum out k : Int) : St := ⟨slots 232 [(8, .c (.sl 1 0 ng)), (9, .c (.sl 2 0 np)), (11, I64 inn), (12, I64 sum), (16, I64 out), (17, I64 k)], [rowJ false K g, rowGl ng L, rowPc np P]⟩
def rq4S (K : Nat) (g : Nat → Int) (ng : Nat) (L : Nat → Gl) (np : Nat) (P : Nat → Pc) (inn sum out k : Int) (h : Bool) (i : Int) : St := ⟨slots 232 [(8, .c (.sl 1 0 ng)), (9, .c (.sl 2 0 np)), (11, I64 inn), (12, I64 sum), (16, I64 out), (17, I64 k), (18, Bo h), (19, I64 i)], [rowJ false K g, rowGl ng L, rowPc np P]⟩
theorem rq2_in {K : Nat} {g : Nat → Int} {ng : Nat} {L : Nat → Gl} {np : Nat} {P : Nat → Pc} {inn sum i w k : Int} : (rT rqG nol 1 41 (bodyOf Try.f33 1) rqK2 rqK2 (rq2S K g ng L np P inn sum i w k)).go [] =
  some
    ([decide (k < ((ng : Nat) : Int)), decide ((0 : Int) ≤ k), decide (k < ((ng : Nat) : Int)), decide (0 + k.toNat < ng),
        decide ((0 : Int) ≤ i), decide (i < ((np : Nat) : Int)), decide (0 + i.toNat < np),
        (L (0 + k.toNat)).r == (P (0 + i.toNat)).n, true, true, decide ((0 : Int) ≤ k),
        decide (k < ((ng : Nat) : Int)), true, true, decide (0 + k.toNat < ng), true, true, true, decide ((0 : Int) ≤ i),
        decide (i < ((np : Nat) : Int)), true, true, decide (0 + i.toNat < np), true, true,
        decide ((L (0 + k.toNat)).a ≥ (P (0 + i.toNat)).f), true, true, decide ((0 : Int) ≤ k),
        decide (k < ((ng : Nat) : Int)), true, true, decide (0 + k.toNat < ng), true, true, true, decide ((0 : Int) ≤ i),
        decide (i < ((np : Nat) : Int)), true, true, decide (0 + i.toNat < np), true, true,
        decide ((L (0 + k.toNat)).a < (P (0 + i.toNat)).t), decide ((0 : Int) ≤ k), decide (k < ((ng : Nat) : Int)),
        decide (0 + k.toNat < ng)],
      Ex.normal,
      {
        sl :=
          slots 232
            [(8, AV.c (AC.sl 1 0 ng)), (9, AV.c (AC.sl 2 0 np)),
              (11, I64 (w64 (inn + (1 : Int)))), (12, I64 sum), (13, I64 i),
              (14, I64 (w64 (w + (L (0 + k.toNat)).w))), (15, I64 (w64 (k + (1 : Int))))],
        h :=
          [some { t := 2, own := false, c := Cont.row 1 K fun j => [Value.int IntKind.i64 (g j)] },
            some
              { t := 87, own := true,
                c :=
                  Cont.row 4 ng fun j =>
                    [Value.int IntKind.i64 (L j).k, Value.int IntKind.i64 (L j).r, Value.int IntKind.i64 (L j).a,
                      Value.int IntKind.i64 (L j).w] },
            some
              { t := 112, own := true,
                c :=
                  Cont.row 8 np fun j =>
                    [Value.int IntKind.i64 (P j).n, Value.int IntKind.i64 (P j).x, Value.int IntKind.i64 (P j).y,
                      Value.int IntKind.i64 (P j).w, Value.int IntKind.i64 (P j).h, Value.int IntKind.i64 (P j).f,
                      Value.int IntKind.i64 (P j).t, Value.int IntKind.i64 (P j).l] }] }) := by kernel_rfl
theorem rq2_n1 {K : Nat} {g : Nat → Int} {ng : Nat} {L : Nat → Gl} {np : Nat} {P : Nat → Pc} {inn sum i w k : Int} : (rT rqG nol 1 41 (bodyOf Try.f33 1) rqK2 rqK2 (rq2S K g ng L np P inn sum i w k)).go [true, true, true, true, true, true, true, false, false, false, false, false, false, false, false, false, false, false, false, false, false, false, false, false, false, false, false, false, false, false, false, false] =
  some
    ([decide (k < ((ng : Nat) : Int)), decide ((0 : Int) ≤ k), decide (k < ((ng : Nat) : Int)), decide (0 + k.toNat < ng),
        decide ((0 : Int) ≤ i), decide (i < ((np : Nat) : Int)), decide (0 + i.toNat < np),
        !(L (0 + k.toNat)).r == (P (0 + i.toNat)).n, true, true, true, true, true, true, true, true,
        true, true, true, true, true, true, true, true, true, true, true, true, true, true, true, true],
      Ex.normal,
      {
        sl :=
          slots 232
            [(8, AV.c (AC.sl 1 0 ng)), (9, AV.c (AC.sl 2 0 np)),
              (11, I64 inn), (12, I64 sum), (13, I64 i), (14, I64 w),
              (15, I64 (w64 (k + (1 : Int))))],
        h :=
          [some { t := 2, own := false, c := Cont.row 1 K fun j => [Value.int IntKind.i64 (g j)] },
            some
              { t := 87, own := true,
                c :=
                  Cont.row 4 ng fun j =>
                    [Value.int IntKind.i64 (L j).k, Value.int IntKind.i64 (L j).r, Value.int IntKind.i64 (L j).a,
                      Value.int IntKind.i64 (L j).w] },
            some
              { t := 112, own := true,
                c :=
                  Cont.row 8 np fun j =>
                    [Value.int IntKind.i64 (P j).n, Value.int IntKind.i64 (P j).x, Value.int IntKind.i64 (P j).y,
                      Value.int IntKind.i64 (P j).w, Value.int IntKind.i64 (P j).h, Value.int IntKind.i64 (P j).f,
                      Value.int IntKind.i64 (P j).t, Value.int IntKind.i64 (P j).l] }] }) := by kernel_rfl
theorem rq2_n2 {K : Nat} {g : Nat → Int} {ng : Nat} {L : Nat → Gl} {np : Nat} {P : Nat → Pc} {inn sum i w k : Int} : (rT rqG nol 1 41 (bodyOf Try.f33 1) rqK2 rqK2 (rq2S K g ng L np P inn sum i w k)).go [true, true, true, true, true, true, true, true, true, true, true, true, true, true, true, true, true, true, true, true, true, true, true, true, true, false, false, false, false, false, false, false, false, false, false, false, false, false] =
  some
    ([decide (k < ((ng : Nat) : Int)), decide ((0 : Int) ≤ k), decide (k < ((ng : Nat) : Int)), decide (0 + k.toNat < ng),
        decide ((0 : Int) ≤ i), decide (i < ((np : Nat) : Int)), decide (0 + i.toNat < np),
        (L (0 + k.toNat)).r == (P (0 + i.toNat)).n, true, true, decide ((0 : Int) ≤ k),
        decide (k < ((ng : Nat) : Int)), true, true, decide (0 + k.toNat < ng), true, true, true, decide ((0 : Int) ≤ i),
        decide (i < ((np : Nat) : Int)), true, true, decide (0 + i.toNat < np), true, true,
        !decide ((L (0 + k.toNat)).a ≥ (P (0 + i.toNat)).f), true, true, true, true, true, true, true,
        true, true, true, true, true],
      Ex.normal,
      {
        sl :=
          slots 232
            [(8, AV.c (AC.sl 1 0 ng)), (9, AV.c (AC.sl 2 0 np)),
              (11, I64 inn), (12, I64 sum), (13, I64 i), (14, I64 w),
              (15, I64 (w64 (k + (1 : Int))))],
        h :=
          [some { t := 2, own := false, c := Cont.row 1 K fun j => [Value.int IntKind.i64 (g j)] },
            some
              { t := 87, own := true,
                c :=
                  Cont.row 4 ng fun j =>
                    [Value.int IntKind.i64 (L j).k, Value.int IntKind.i64 (L j).r, Value.int IntKind.i64 (L j).a,
                      Value.int IntKind.i64 (L j).w] },
            some
              { t := 112, own := true,
                c :=
                  Cont.row 8 np fun j =>
                    [Value.int IntKind.i64 (P j).n, Value.int IntKind.i64 (P j).x, Value.int IntKind.i64 (P j).y,
                      Value.int IntKind.i64 (P j).w, Value.int IntKind.i64 (P j).h, Value.int IntKind.i64 (P j).f,
                      Value.int IntKind.i64 (P j).t, Value.int IntKind.i64 (P j).l] }] }) := by kernel_rfl
theorem rq2_n3 {K : Nat} {g : Nat → Int} {ng : Nat} {L : Nat → Gl} {np : Nat} {P : Nat → Pc} {inn sum i w k : Int} : (rT rqG nol 1 41 (bodyOf Try.f33 1) rqK2 rqK2 (rq2S K g ng L np P inn sum i w k)).go [true, true, true, true, true, true, true, true, true, true, true, true, true, true, true, true, true, true, true, true, true, true, true, true, true, true, true, true, true, true, true, true, true, true, true, true, true, true, true, true, true, true, true, false] =
  some
    ([decide (k < ((ng : Nat) : Int)), decide ((0 : Int) ≤ k), decide (k < ((ng : Nat) : Int)), decide (0 + k.toNat < ng),
        decide ((0 : Int) ≤ i), decide (i < ((np : Nat) : Int)), decide (0 + i.toNat < np),
        (L (0 + k.toNat)).r == (P (0 + i.toNat)).n, true, true, decide ((0 : Int) ≤ k),
        decide (k < ((ng : Nat) : Int)), true, true, decide (0 + k.toNat < ng), true, true, true, decide ((0 : Int) ≤ i),
        decide (i < ((np : Nat) : Int)), true, true, decide (0 + i.toNat < np), true, true,
        decide ((L (0 + k.toNat)).a ≥ (P (0 + i.toNat)).f), true, true, decide ((0 : Int) ≤ k),
        decide (k < ((ng : Nat) : Int)), true, true, decide (0 + k.toNat < ng), true, true, true, decide ((0 : Int) ≤ i),
        decide (i < ((np : Nat) : Int)), true, true, decide (0 + i.toNat < np), true, true,
        !decide ((L (0 + k.toNat)).a < (P (0 + i.toNat)).t)],
      Ex.normal,
      {
        sl :=
          slots 232
            [(8, AV.c (AC.sl 1 0 ng)), (9, AV.c (AC.sl 2 0 np)),
              (11, I64 inn), (12, I64 sum), (13, I64 i), (14, I64 w),
              (15, I64 (w64 (k + (1 : Int))))],
        h :=
          [some { t := 2, own := false, c := Cont.row 1 K fun j => [Value.int IntKind.i64 (g j)] },
            some
              { t := 87, own := true,
                c :=
                  Cont.row 4 ng fun j =>
                    [Value.int IntKind.i64 (L j).k, Value.int IntKind.i64 (L j).r, Value.int IntKind.i64 (L j).a,
                      Value.int IntKind.i64 (L j).w] },
            some
              { t := 112, own := true,
                c :=
                  Cont.row 8 np fun j =>
                    [Value.int IntKind.i64 (P j).n, Value.int IntKind.i64 (P j).x, Value.int IntKind.i64 (P j).y,
                      Value.int IntKind.i64 (P j).w, Value.int IntKind.i64 (P j).h, Value.int IntKind.i64 (P j).f,
                      Value.int IntKind.i64 (P j).t, Value.int IntKind.i64 (P j).l] }] }) := by kernel_rfl
theorem rq2_e {K : Nat} {g : Nat → Int} {ng : Nat} {L : Nat → Gl} {np : Nat} {P : Nat → Pc} {inn sum i w k : Int} : (rT rqG nol 1 41 (bodyOf Try.f33 1) rqK2 rqK2 (rq2S K g ng L np P inn sum i w k)).go [false] =
  some
    ([!decide (k < ((ng : Nat) : Int))], Ex.exit 2,
      {
        sl :=
          slots 232
            [(8, AV.c (AC.sl 1 0 ng)), (9, AV.c (AC.sl 2 0 np)),
              (11, I64 inn), (12, I64 sum), (13, I64 i), (14, I64 w),
              (15, I64 k)],
        h :=
          [some { t := 2, own := false, c := Cont.row 1 K fun j => [Value.int IntKind.i64 (g j)] },
            some
              { t := 87, own := true,
                c :=
                  Cont.row 4 ng fun j =>
                    [Value.int IntKind.i64 (L j).k, Value.int IntKind.i64 (L j).r, Value.int IntKind.i64 (L j).a,
                      Value.int IntKind.i64 (L j).w] },
            some
              { t := 112, own := true,
                c :=
                  Cont.row 8 np fun j =>
                    [Value.int IntKind.i64 (P j).n, Value.int IntKind.i64 (P j).x, Value.int IntKind.i64 (P j).y,
                      Value.int IntKind.i64 (P j).w, Value.int IntKind.i64 (P j).h, Value.int IntKind.i64 (P j).f,
                      Value.int IntKind.i64 (P j).t, Value.int IntKind.i64 (P j).l] }] }) := by kernel_rfl
theorem rq1_0 {K : Nat} {g : Nat → Int} {ng : Nat} {L : Nat → Gl} {np : Nat} {P : Nat → Pc} {inn sum i inn' w k : Int} : (rT rqG (tell (bodyOf Try.f33 1) (rq2S K g ng L np P inn sum i 0 0) (.exit 2, rq2S K g ng L np P inn' sum i w k)) 1 50 (bodyOf Try.f33 0) rqK1 rqK1 (rq1S K g ng L np P inn sum i)).go [true, false, false, false, false, false, false, false, false, false, false, false, false, false, false, false, false, true, true, true, true, false] =
  some
    ([decide (i < ((np : Nat) : Int)), !decide (i > (0 : Int)), true, true, true, true, true, true, true, true, true, true, true, true,
        true, true, true, yes (wasS (bodyOf Try.f33 1) (rq2S K g ng L np P inn sum i 0 0)), decide ((0 : Int) ≤ i), decide (i < ((np : Nat) : Int)), decide (0 + i.toNat < np),
        !w != (P (0 + i.toNat)).w],
      Ex.normal,
      {
        sl :=
          slots 232
            [(8, AV.c (AC.sl 1 0 ng)), (9, AV.c (AC.sl 2 0 np)),
              (11, I64 inn'), (12, I64 (w64 (sum + w))), (13, I64 (w64 (i + (1 : Int))))],
        h :=
          [some { t := 2, own := false, c := Cont.row 1 K fun j => [Value.int IntKind.i64 (g j)] },
            some
              { t := 87, own := true,
                c :=
                  Cont.row 4 ng fun j =>
                    [Value.int IntKind.i64 (L j).k, Value.int IntKind.i64 (L j).r, Value.int IntKind.i64 (L j).a,
                      Value.int IntKind.i64 (L j).w] },
            some
              { t := 112, own := true,
                c :=
                  Cont.row 8 np fun j =>
                    [Value.int IntKind.i64 (P j).n, Value.int IntKind.i64 (P j).x, Value.int IntKind.i64 (P j).y,
                      Value.int IntKind.i64 (P j).w, Value.int IntKind.i64 (P j).h, Value.int IntKind.i64 (P j).f,
                      Value.int IntKind.i64 (P j).t, Value.int IntKind.i64 (P j).l] }] }) := by kernel_rfl
theorem rq1_a {K : Nat} {g : Nat → Int} {ng : Nat} {L : Nat → Gl} {np : Nat} {P : Nat → Pc} {inn sum i inn' w k : Int} : (rT rqG (tell (bodyOf Try.f33 1) (rq2S K g ng L np P inn sum i 0 0) (.exit 2, rq2S K g ng L np P inn' sum i w k)) 1 50 (bodyOf Try.f33 0) rqK1 rqK1 (rq1S K g ng L np P inn sum i)).go [true, true, true, true, true, true, true, true, true, true, true, true, true, true, true, true, true, true, true, true, false, false, false, true, true, false, false, true, false, false, false, false, true, true, false, false, true, false, false, true, true, true, true, true, true, true, true, true, true, true, true, true, true, true, true, true, true, false, true, true, false, true, false, true, true, true, true, false] =
  some
    ([decide (i < ((np : Nat) : Int)), decide (i > (0 : Int)), true, true, decide ((0 : Int) ≤ i), decide (i < ((np : Nat) : Int)), true, true,
        decide (0 + i.toNat < np), true, true, true, true, decide ((0 : Int) ≤ w64 (i - (1 : Int))),
        decide (w64 (i - (1 : Int)) < ((np : Nat) : Int)), true, true, decide (0 + (w64 (i - (1 : Int))).toNat < np), true,
        true, !decide ((P (0 + i.toNat)).n < (P (0 + (w64 (i - (1 : Int))).toNat)).n), true, true,
        decide ((0 : Int) ≤ i), decide (i < ((np : Nat) : Int)), true, true, decide (0 + i.toNat < np), true, true, true, true,
        decide ((0 : Int) ≤ w64 (i - (1 : Int))), decide (w64 (i - (1 : Int)) < ((np : Nat) : Int)), true, true,
        decide (0 + (w64 (i - (1 : Int))).toNat < np), true, true,
        (P (0 + i.toNat)).n == (P (0 + (w64 (i - (1 : Int))).toNat)).n, true, true,
        decide ((0 : Int) ≤ i), decide (i < ((np : Nat) : Int)), true, true, decide (0 + i.toNat < np), true, true, true, true,
        decide ((0 : Int) ≤ w64 (i - (1 : Int))), decide (w64 (i - (1 : Int)) < ((np : Nat) : Int)), true, true,
        decide (0 + (w64 (i - (1 : Int))).toNat < np), true, true, true, true, true, true,
        !decide ((P (0 + i.toNat)).f < (P (0 + (w64 (i - (1 : Int))).toNat)).t), yes (wasS (bodyOf Try.f33 1) (rq2S K g ng L np P inn sum i 0 0)),
        decide ((0 : Int) ≤ i), decide (i < ((np : Nat) : Int)), decide (0 + i.toNat < np), !w != (P (0 + i.toNat)).w],
      Ex.normal,
      {
        sl :=
          slots 232
            [(8, AV.c (AC.sl 1 0 ng)), (9, AV.c (AC.sl 2 0 np)),
              (11, I64 inn'), (12, I64 (w64 (sum + w))), (13, I64 (w64 (i + (1 : Int))))],
        h :=
          [some { t := 2, own := false, c := Cont.row 1 K fun j => [Value.int IntKind.i64 (g j)] },
            some
              { t := 87, own := true,
                c :=
                  Cont.row 4 ng fun j =>
                    [Value.int IntKind.i64 (L j).k, Value.int IntKind.i64 (L j).r, Value.int IntKind.i64 (L j).a,
                      Value.int IntKind.i64 (L j).w] },
            some
              { t := 112, own := true,
                c :=
                  Cont.row 8 np fun j =>
                    [Value.int IntKind.i64 (P j).n, Value.int IntKind.i64 (P j).x, Value.int IntKind.i64 (P j).y,
                      Value.int IntKind.i64 (P j).w, Value.int IntKind.i64 (P j).h, Value.int IntKind.i64 (P j).f,
                      Value.int IntKind.i64 (P j).t, Value.int IntKind.i64 (P j).l] }] }) := by kernel_rfl
theorem rq1_b {K : Nat} {g : Nat → Int} {ng : Nat} {L : Nat → Gl} {np : Nat} {P : Nat → Pc} {inn sum i inn' w k : Int} : (rT rqG (tell (bodyOf Try.f33 1) (rq2S K g ng L np P inn sum i 0 0) (.exit 2, rq2S K g ng L np P inn' sum i w k)) 1 50 (bodyOf Try.f33 0) rqK1 rqK1 (rq1S K g ng L np P inn sum i)).go [true, true, true, true, true, true, true, true, true, true, true, true, true, true, true, true, true, true, true, true, false, false, false, true, true, false, false, true, false, false, false, false, true, true, false, false, true, false, false, false, false, false, false, false, false, false, false, false, false, false, false, false, false, true, false, true, false, true, true, true, true, false] =
  some
    ([decide (i < ((np : Nat) : Int)), decide (i > (0 : Int)), true, true, decide ((0 : Int) ≤ i), decide (i < ((np : Nat) : Int)), true, true,
        decide (0 + i.toNat < np), true, true, true, true, decide ((0 : Int) ≤ w64 (i - (1 : Int))),
        decide (w64 (i - (1 : Int)) < ((np : Nat) : Int)), true, true, decide (0 + (w64 (i - (1 : Int))).toNat < np), true,
        true, !decide ((P (0 + i.toNat)).n < (P (0 + (w64 (i - (1 : Int))).toNat)).n), true, true,
        decide ((0 : Int) ≤ i), decide (i < ((np : Nat) : Int)), true, true, decide (0 + i.toNat < np), true, true, true, true,
        decide ((0 : Int) ≤ w64 (i - (1 : Int))), decide (w64 (i - (1 : Int)) < ((np : Nat) : Int)), true, true,
        decide (0 + (w64 (i - (1 : Int))).toNat < np), true, true,
        !(P (0 + i.toNat)).n == (P (0 + (w64 (i - (1 : Int))).toNat)).n, true, true, true, true, true,
        true, true, true, true, true, true, true, true, true, true, true, true, yes (wasS (bodyOf Try.f33 1) (rq2S K g ng L np P inn sum i 0 0)), decide ((0 : Int) ≤ i),
        decide (i < ((np : Nat) : Int)), decide (0 + i.toNat < np), !w != (P (0 + i.toNat)).w],
      Ex.normal,
      {
        sl :=
          slots 232
            [(8, AV.c (AC.sl 1 0 ng)), (9, AV.c (AC.sl 2 0 np)),
              (11, I64 inn'), (12, I64 (w64 (sum + w))), (13, I64 (w64 (i + (1 : Int))))],
        h :=
          [some { t := 2, own := false, c := Cont.row 1 K fun j => [Value.int IntKind.i64 (g j)] },
            some
              { t := 87, own := true,
                c :=
                  Cont.row 4 ng fun j =>
                    [Value.int IntKind.i64 (L j).k, Value.int IntKind.i64 (L j).r, Value.int IntKind.i64 (L j).a,
                      Value.int IntKind.i64 (L j).w] },
            some
              { t := 112, own := true,
                c :=
                  Cont.row 8 np fun j =>
                    [Value.int IntKind.i64 (P j).n, Value.int IntKind.i64 (P j).x, Value.int IntKind.i64 (P j).y,
                      Value.int IntKind.i64 (P j).w, Value.int IntKind.i64 (P j).h, Value.int IntKind.i64 (P j).f,
                      Value.int IntKind.i64 (P j).t, Value.int IntKind.i64 (P j).l] }] }) := by kernel_rfl
theorem rq1_e {K : Nat} {g : Nat → Int} {ng : Nat} {L : Nat → Gl} {np : Nat} {P : Nat → Pc} {inn sum i : Int} : (rT rqG nol 1 50 (bodyOf Try.f33 0) rqK1 rqK1 (rq1S K g ng L np P inn sum i)).go [false] =
  some
    ([!decide (i < ((np : Nat) : Int))], Ex.exit 0,
      {
        sl :=
          slots 232
            [(8, AV.c (AC.sl 1 0 ng)), (9, AV.c (AC.sl 2 0 np)),
              (11, I64 inn), (12, I64 sum), (13, I64 i)],
        h :=
          [some { t := 2, own := false, c := Cont.row 1 K fun j => [Value.int IntKind.i64 (g j)] },
            some
              { t := 87, own := true,
                c :=
                  Cont.row 4 ng fun j =>
                    [Value.int IntKind.i64 (L j).k, Value.int IntKind.i64 (L j).r, Value.int IntKind.i64 (L j).a,
                      Value.int IntKind.i64 (L j).w] },
            some
              { t := 112, own := true,
                c :=
                  Cont.row 8 np fun j =>
                    [Value.int IntKind.i64 (P j).n, Value.int IntKind.i64 (P j).x, Value.int IntKind.i64 (P j).y,
                      Value.int IntKind.i64 (P j).w, Value.int IntKind.i64 (P j).h, Value.int IntKind.i64 (P j).f,
                      Value.int IntKind.i64 (P j).t, Value.int IntKind.i64 (P j).l] }] }) := by kernel_rfl
theorem rq4_t {K : Nat} {g : Nat → Int} {ng : Nat} {L : Nat → Gl} {np : Nat} {P : Nat → Pc} {inn sum out k : Int} {h : Bool} {i : Int} : (rT rqG nol 1 40 (bodyOf Try.f33 3) rqK4 rqK4 (rq4S K g ng L np P inn sum out k h i)).go [] =
  some
    ([decide (i < ((np : Nat) : Int)), h, true, true, true, true, true, true, true, true, true, true, true, true, true, true, true],
      Ex.normal,
      {
        sl :=
          slots 232
            [(8, AV.c (AC.sl 1 0 ng)), (9, AV.c (AC.sl 2 0 np)),
              (11, I64 inn), (12, I64 sum), (16, I64 out), (17, I64 k),
              (18, Bo true), (19, I64 (w64 (i + (1 : Int))))],
        h :=
          [some { t := 2, own := false, c := Cont.row 1 K fun j => [Value.int IntKind.i64 (g j)] },
            some
              { t := 87, own := true,
                c :=
                  Cont.row 4 ng fun j =>
                    [Value.int IntKind.i64 (L j).k, Value.int IntKind.i64 (L j).r, Value.int IntKind.i64 (L j).a,
                      Value.int IntKind.i64 (L j).w] },
            some
              { t := 112, own := true,
                c :=
                  Cont.row 8 np fun j =>
                    [Value.int IntKind.i64 (P j).n, Value.int IntKind.i64 (P j).x, Value.int IntKind.i64 (P j).y,
                      Value.int IntKind.i64 (P j).w, Value.int IntKind.i64 (P j).h, Value.int IntKind.i64 (P j).f,
                      Value.int IntKind.i64 (P j).t, Value.int IntKind.i64 (P j).l] }] }) := by kernel_rfl
theorem rq4_f1 {K : Nat} {g : Nat → Int} {ng : Nat} {L : Nat → Gl} {np : Nat} {P : Nat → Pc} {inn sum out k : Int} {h : Bool} {i : Int} : (rT rqG nol 1 40 (bodyOf Try.f33 3) rqK4 rqK4 (rq4S K g ng L np P inn sum out k h i)).go [true, false, false, false, true, true, false, false, true, false, false, false, true, true, false, false, true, false, false, false, false, false, false, false, false, false, false, false, false, false, false, false, false, false, false, false, false, false, false, false, false, false, false, false, false, false, false] =
  some
    ([decide (i < ((np : Nat) : Int)), !h, true, true, decide ((0 : Int) ≤ k), decide (k < ((ng : Nat) : Int)), true, true,
        decide (0 + k.toNat < ng), true, true, true, decide ((0 : Int) ≤ i), decide (i < ((np : Nat) : Int)), true, true,
        decide (0 + i.toNat < np), true, true, !(L (0 + k.toNat)).r == (P (0 + i.toNat)).n,
        true, true, true, true, true, true, true, true, true, true, true, true, true, true, true, true, true, true,
        true, true, true, true, true, true, true, true, true],
      Ex.normal,
      {
        sl :=
          slots 232
            [(8, AV.c (AC.sl 1 0 ng)), (9, AV.c (AC.sl 2 0 np)),
              (11, I64 inn), (12, I64 sum), (16, I64 out), (17, I64 k),
              (18, Bo false), (19, I64 (w64 (i + (1 : Int))))],
        h :=
          [some { t := 2, own := false, c := Cont.row 1 K fun j => [Value.int IntKind.i64 (g j)] },
            some
              { t := 87, own := true,
                c :=
                  Cont.row 4 ng fun j =>
                    [Value.int IntKind.i64 (L j).k, Value.int IntKind.i64 (L j).r, Value.int IntKind.i64 (L j).a,
                      Value.int IntKind.i64 (L j).w] },
            some
              { t := 112, own := true,
                c :=
                  Cont.row 8 np fun j =>
                    [Value.int IntKind.i64 (P j).n, Value.int IntKind.i64 (P j).x, Value.int IntKind.i64 (P j).y,
                      Value.int IntKind.i64 (P j).w, Value.int IntKind.i64 (P j).h, Value.int IntKind.i64 (P j).f,
                      Value.int IntKind.i64 (P j).t, Value.int IntKind.i64 (P j).l] }] }) := by kernel_rfl
theorem rq4_f2 {K : Nat} {g : Nat → Int} {ng : Nat} {L : Nat → Gl} {np : Nat} {P : Nat → Pc} {inn sum out k : Int} {h : Bool} {i : Int} : (rT rqG nol 1 40 (bodyOf Try.f33 3) rqK4 rqK4 (rq4S K g ng L np P inn sum out k h i)).go [true, false, false, false, true, true, false, false, true, false, false, false, true, true, false, false, true, false, false, true, true, true, true, true, true, true, true, true, true, true, true, true, true, true, true, true, false, true, false, false, false, false, false, false, false, false, false, false, false, false, false, false, false] =
  some
    ([decide (i < ((np : Nat) : Int)), !h, true, true, decide ((0 : Int) ≤ k), decide (k < ((ng : Nat) : Int)), true, true,
        decide (0 + k.toNat < ng), true, true, true, decide ((0 : Int) ≤ i), decide (i < ((np : Nat) : Int)), true, true,
        decide (0 + i.toNat < np), true, true, (L (0 + k.toNat)).r == (P (0 + i.toNat)).n, true,
        true, decide ((0 : Int) ≤ k), decide (k < ((ng : Nat) : Int)), true, true, decide (0 + k.toNat < ng), true, true, true,
        decide ((0 : Int) ≤ i), decide (i < ((np : Nat) : Int)), true, true, decide (0 + i.toNat < np), true, true, true, true,
        !decide ((L (0 + k.toNat)).a ≥ (P (0 + i.toNat)).f), true, true, true, true, true, true, true,
        true, true, true, true, true, true],
      Ex.normal,
      {
        sl :=
          slots 232
            [(8, AV.c (AC.sl 1 0 ng)), (9, AV.c (AC.sl 2 0 np)),
              (11, I64 inn), (12, I64 sum), (16, I64 out), (17, I64 k),
              (18, Bo false), (19, I64 (w64 (i + (1 : Int))))],
        h :=
          [some { t := 2, own := false, c := Cont.row 1 K fun j => [Value.int IntKind.i64 (g j)] },
            some
              { t := 87, own := true,
                c :=
                  Cont.row 4 ng fun j =>
                    [Value.int IntKind.i64 (L j).k, Value.int IntKind.i64 (L j).r, Value.int IntKind.i64 (L j).a,
                      Value.int IntKind.i64 (L j).w] },
            some
              { t := 112, own := true,
                c :=
                  Cont.row 8 np fun j =>
                    [Value.int IntKind.i64 (P j).n, Value.int IntKind.i64 (P j).x, Value.int IntKind.i64 (P j).y,
                      Value.int IntKind.i64 (P j).w, Value.int IntKind.i64 (P j).h, Value.int IntKind.i64 (P j).f,
                      Value.int IntKind.i64 (P j).t, Value.int IntKind.i64 (P j).l] }] }) := by kernel_rfl
theorem rq4_f3 {K : Nat} {g : Nat → Int} {ng : Nat} {L : Nat → Gl} {np : Nat} {P : Nat → Pc} {inn sum out k : Int} {h : Bool} {i : Int} : (rT rqG nol 1 40 (bodyOf Try.f33 3) rqK4 rqK4 (rq4S K g ng L np P inn sum out k h i)).go [true, false, false, false, true, true, false, false, true, false, false, false, true, true, false, false, true, false, false, true, true, true, true, true, true, true, true, true, true, true, true, true, true, true, true, true, false, true, false, true, true, true, true, true, true, true, true, true, true, true, true, true, true, true, true, true, false, true, false] =
  some
    ([decide (i < ((np : Nat) : Int)), !h, true, true, decide ((0 : Int) ≤ k), decide (k < ((ng : Nat) : Int)), true, true,
        decide (0 + k.toNat < ng), true, true, true, decide ((0 : Int) ≤ i), decide (i < ((np : Nat) : Int)), true, true,
        decide (0 + i.toNat < np), true, true, (L (0 + k.toNat)).r == (P (0 + i.toNat)).n, true,
        true, decide ((0 : Int) ≤ k), decide (k < ((ng : Nat) : Int)), true, true, decide (0 + k.toNat < ng), true, true, true,
        decide ((0 : Int) ≤ i), decide (i < ((np : Nat) : Int)), true, true, decide (0 + i.toNat < np), true, true, true, true,
        decide ((L (0 + k.toNat)).a ≥ (P (0 + i.toNat)).f), true, true, decide ((0 : Int) ≤ k),
        decide (k < ((ng : Nat) : Int)), true, true, decide (0 + k.toNat < ng), true, true, true, decide ((0 : Int) ≤ i),
        decide (i < ((np : Nat) : Int)), true, true, decide (0 + i.toNat < np), true, true, true, true],
      Ex.normal,
      {
        sl :=
          slots 232
            [(8, AV.c (AC.sl 1 0 ng)), (9, AV.c (AC.sl 2 0 np)),
              (11, I64 inn), (12, I64 sum), (16, I64 out), (17, I64 k),
              (18, Bo (decide ((L (0 + k.toNat)).a < (P (0 + i.toNat)).t))),
              (19, I64 (w64 (i + (1 : Int))))],
        h :=
          [some { t := 2, own := false, c := Cont.row 1 K fun j => [Value.int IntKind.i64 (g j)] },
            some
              { t := 87, own := true,
                c :=
                  Cont.row 4 ng fun j =>
                    [Value.int IntKind.i64 (L j).k, Value.int IntKind.i64 (L j).r, Value.int IntKind.i64 (L j).a,
                      Value.int IntKind.i64 (L j).w] },
            some
              { t := 112, own := true,
                c :=
                  Cont.row 8 np fun j =>
                    [Value.int IntKind.i64 (P j).n, Value.int IntKind.i64 (P j).x, Value.int IntKind.i64 (P j).y,
                      Value.int IntKind.i64 (P j).w, Value.int IntKind.i64 (P j).h, Value.int IntKind.i64 (P j).f,
                      Value.int IntKind.i64 (P j).t, Value.int IntKind.i64 (P j).l] }] }) := by kernel_rfl
theorem rq4_e {K : Nat} {g : Nat → Int} {ng : Nat} {L : Nat → Gl} {np : Nat} {P : Nat → Pc} {inn sum out k : Int} {h : Bool} {i : Int} : (rT rqG nol 1 40 (bodyOf Try.f33 3) rqK4 rqK4 (rq4S K g ng L np P inn sum out k h i)).go [false] =
  some
    ([!decide (i < ((np : Nat) : Int))], Ex.exit 6,
      {
        sl :=
          slots 232
            [(8, AV.c (AC.sl 1 0 ng)), (9, AV.c (AC.sl 2 0 np)),
              (11, I64 inn), (12, I64 sum), (16, I64 out), (17, I64 k),
              (18, Bo h), (19, I64 i)],
        h :=
          [some { t := 2, own := false, c := Cont.row 1 K fun j => [Value.int IntKind.i64 (g j)] },
            some
              { t := 87, own := true,
                c :=
                  Cont.row 4 ng fun j =>
                    [Value.int IntKind.i64 (L j).k, Value.int IntKind.i64 (L j).r, Value.int IntKind.i64 (L j).a,
                      Value.int IntKind.i64 (L j).w] },
            some
              { t := 112, own := true,
                c :=
                  Cont.row 8 np fun j =>
                    [Value.int IntKind.i64 (P j).n, Value.int IntKind.i64 (P j).x, Value.int IntKind.i64 (P j).y,
                      Value.int IntKind.i64 (P j).w, Value.int IntKind.i64 (P j).h, Value.int IntKind.i64 (P j).f,
                      Value.int IntKind.i64 (P j).t, Value.int IntKind.i64 (P j).l] }] }) := by kernel_rfl
theorem rq3_t {K : Nat} {g : Nat → Int} {ng : Nat} {L : Nat → Gl} {np : Nat} {P : Nat → Pc} {inn sum out k : Int} {h : Bool} {z : Int} : (rT rqG (tell (bodyOf Try.f33 3) (rq4S K g ng L np P inn sum out k false 0) (.exit 6, rq4S K g ng L np P inn sum out k h z)) 1 48 (bodyOf Try.f33 2) rqK3 rqK3 (rq3S K g ng L np P inn sum out k)).go [true, true, false] =
  some
    ([decide (k < ((ng : Nat) : Int)), yes (wasS (bodyOf Try.f33 3) (rq4S K g ng L np P inn sum out k false 0)), !!h], Ex.normal,
      {
        sl :=
          slots 232
            [(8, AV.c (AC.sl 1 0 ng)), (9, AV.c (AC.sl 2 0 np)),
              (11, I64 inn), (12, I64 sum), (16, I64 out),
              (17, I64 (w64 (k + (1 : Int))))],
        h :=
          [some { t := 2, own := false, c := Cont.row 1 K fun j => [Value.int IntKind.i64 (g j)] },
            some
              { t := 87, own := true,
                c :=
                  Cont.row 4 ng fun j =>
                    [Value.int IntKind.i64 (L j).k, Value.int IntKind.i64 (L j).r, Value.int IntKind.i64 (L j).a,
                      Value.int IntKind.i64 (L j).w] },
            some
              { t := 112, own := true,
                c :=
                  Cont.row 8 np fun j =>
                    [Value.int IntKind.i64 (P j).n, Value.int IntKind.i64 (P j).x, Value.int IntKind.i64 (P j).y,
                      Value.int IntKind.i64 (P j).w, Value.int IntKind.i64 (P j).h, Value.int IntKind.i64 (P j).f,
                      Value.int IntKind.i64 (P j).t, Value.int IntKind.i64 (P j).l] }] }) := by kernel_rfl
theorem rq3_s {K : Nat} {g : Nat → Int} {ng : Nat} {L : Nat → Gl} {np : Nat} {P : Nat → Pc} {inn sum out k : Int} {h : Bool} {z : Int} : (rT rqG (tell (bodyOf Try.f33 3) (rq4S K g ng L np P inn sum out k false 0) (.exit 6, rq4S K g ng L np P inn sum out k h z)) 1 48 (bodyOf Try.f33 2) rqK3 rqK3 (rq3S K g ng L np P inn sum out k)).go [true, true, true, true, true, true, false, false, false, false, false, false, false, false] =
  some
    ([decide (k < ((ng : Nat) : Int)), yes (wasS (bodyOf Try.f33 3) (rq4S K g ng L np P inn sum out k false 0)), !h, decide ((0 : Int) ≤ k), decide (k < ((ng : Nat) : Int)), decide (0 + k.toNat < ng),
        !(L (0 + k.toNat)).k != (2 : Int), true, true, true, true, true, true, true],
      Ex.normal,
      {
        sl :=
          slots 232
            [(8, AV.c (AC.sl 1 0 ng)), (9, AV.c (AC.sl 2 0 np)),
              (11, I64 inn), (12, I64 sum), (16, I64 (w64 (out + (1 : Int)))),
              (17, I64 (w64 (k + (1 : Int))))],
        h :=
          [some { t := 2, own := false, c := Cont.row 1 K fun j => [Value.int IntKind.i64 (g j)] },
            some
              { t := 87, own := true,
                c :=
                  Cont.row 4 ng fun j =>
                    [Value.int IntKind.i64 (L j).k, Value.int IntKind.i64 (L j).r, Value.int IntKind.i64 (L j).a,
                      Value.int IntKind.i64 (L j).w] },
            some
              { t := 112, own := true,
                c :=
                  Cont.row 8 np fun j =>
                    [Value.int IntKind.i64 (P j).n, Value.int IntKind.i64 (P j).x, Value.int IntKind.i64 (P j).y,
                      Value.int IntKind.i64 (P j).w, Value.int IntKind.i64 (P j).h, Value.int IntKind.i64 (P j).f,
                      Value.int IntKind.i64 (P j).t, Value.int IntKind.i64 (P j).l] }] }) := by kernel_rfl
theorem rq3_b {K : Nat} {g : Nat → Int} {ng : Nat} {L : Nat → Gl} {np : Nat} {P : Nat → Pc} {inn sum out k : Int} {h : Bool} {z : Int} : (rT rqG (tell (bodyOf Try.f33 3) (rq4S K g ng L np P inn sum out k false 0) (.exit 6, rq4S K g ng L np P inn sum out k h z)) 1 48 (bodyOf Try.f33 2) rqK3 rqK3 (rq3S K g ng L np P inn sum out k)).go [true, true, true, true, true, true, true, true, true, true, true, true, true, true, true, true, false] =
  some
    ([decide (k < ((ng : Nat) : Int)), yes (wasS (bodyOf Try.f33 3) (rq4S K g ng L np P inn sum out k false 0)), !h, decide ((0 : Int) ≤ k), decide (k < ((ng : Nat) : Int)), decide (0 + k.toNat < ng),
        (L (0 + k.toNat)).k != (2 : Int), true, true, decide ((0 : Int) ≤ k), decide (k < ((ng : Nat) : Int)), true, true,
        decide (0 + k.toNat < ng), true, true, !(L (0 + k.toNat)).k != (4 : Int)],
      Ex.normal,
      {
        sl :=
          slots 232
            [(8, AV.c (AC.sl 1 0 ng)), (9, AV.c (AC.sl 2 0 np)),
              (11, I64 inn), (12, I64 sum), (16, I64 (w64 (out + (1 : Int)))),
              (17, I64 (w64 (k + (1 : Int))))],
        h :=
          [some { t := 2, own := false, c := Cont.row 1 K fun j => [Value.int IntKind.i64 (g j)] },
            some
              { t := 87, own := true,
                c :=
                  Cont.row 4 ng fun j =>
                    [Value.int IntKind.i64 (L j).k, Value.int IntKind.i64 (L j).r, Value.int IntKind.i64 (L j).a,
                      Value.int IntKind.i64 (L j).w] },
            some
              { t := 112, own := true,
                c :=
                  Cont.row 8 np fun j =>
                    [Value.int IntKind.i64 (P j).n, Value.int IntKind.i64 (P j).x, Value.int IntKind.i64 (P j).y,
                      Value.int IntKind.i64 (P j).w, Value.int IntKind.i64 (P j).h, Value.int IntKind.i64 (P j).f,
                      Value.int IntKind.i64 (P j).t, Value.int IntKind.i64 (P j).l] }] }) := by kernel_rfl
theorem rq3_e {K : Nat} {g : Nat → Int} {ng : Nat} {L : Nat → Gl} {np : Nat} {P : Nat → Pc} {inn sum out k : Int} : (rT rqG nol 1 48 (bodyOf Try.f33 2) rqK3 rqK3 (rq3S K g ng L np P inn sum out k)).go [false] =
  some
    ([!decide (k < ((ng : Nat) : Int))], Ex.exit 4,
      {
        sl :=
          slots 232
            [(8, AV.c (AC.sl 1 0 ng)), (9, AV.c (AC.sl 2 0 np)),
              (11, I64 inn), (12, I64 sum), (16, I64 out), (17, I64 k)],
        h :=
          [some { t := 2, own := false, c := Cont.row 1 K fun j => [Value.int IntKind.i64 (g j)] },
            some
              { t := 87, own := true,
                c :=
                  Cont.row 4 ng fun j =>
                    [Value.int IntKind.i64 (L j).k, Value.int IntKind.i64 (L j).r, Value.int IntKind.i64 (L j).a,
                      Value.int IntKind.i64 (L j).w] },
            some
              { t := 112, own := true,
                c :=
                  Cont.row 8 np fun j =>
                    [Value.int IntKind.i64 (P j).n, Value.int IntKind.i64 (P j).x, Value.int IntKind.i64 (P j).y,
                      Value.int IntKind.i64 (P j).w, Value.int IntKind.i64 (P j).h, Value.int IntKind.i64 (P j).f,
                      Value.int IntKind.i64 (P j).t, Value.int IntKind.i64 (P j).l] }] }) := by kernel_rfl
theorem rq_w {K : Nat} {g a : Nat → Int} {A inn sum out z z' : Int} : (lfun rqG (byReg 7 (tell (bodyOf Try.f33 0) (rq1S K g (glyphs (Mt (tzA a)) (fun i => (ruN K g) (0 + i)) (m12 K)).length (at_ (glyphs (Mt (tzA a)) (fun i => (ruN K g) (0 + i)) (m12 K))) (plA (Mt (tzA a)) (ruN K g) (m12 K) (and64 A 4095) 1280 0).length (pcAt (plA (Mt (tzA a)) (ruN K g) (m12 K) (and64 A 4095) 1280 0)) 0 0 0) (.exit 0, (rq1S K g (glyphs (Mt (tzA a)) (fun i => (ruN K g) (0 + i)) (m12 K)).length (at_ (glyphs (Mt (tzA a)) (fun i => (ruN K g) (0 + i)) (m12 K))) (plA (Mt (tzA a)) (ruN K g) (m12 K) (and64 A 4095) 1280 0).length (pcAt (plA (Mt (tzA a)) (ruN K g) (m12 K) (and64 A 4095) 1280 0)) inn sum z))) (tell (bodyOf Try.f33 2) (rq3S K g (glyphs (Mt (tzA a)) (fun i => (ruN K g) (0 + i)) (m12 K)).length (at_ (glyphs (Mt (tzA a)) (fun i => (ruN K g) (0 + i)) (m12 K))) (plA (Mt (tzA a)) (ruN K g) (m12 K) (and64 A 4095) 1280 0).length (pcAt (plA (Mt (tzA a)) (ruN K g) (m12 K) (and64 A 4095) 1280 0)) inn sum 0 0) (.exit 4, (rq3S K g (glyphs (Mt (tzA a)) (fun i => (ruN K g) (0 + i)) (m12 K)).length (at_ (glyphs (Mt (tzA a)) (fun i => (ruN K g) (0 + i)) (m12 K))) (plA (Mt (tzA a)) (ruN K g) (m12 K) (and64 A 4095) 1280 0).length (pcAt (plA (Mt (tzA a)) (ruN K g) (m12 K) (and64 A 4095) 1280 0)) inn sum out z')))) 60 Try.f33 [aA a, .c (.sl 0 0 K), I64 A] [rowJ false K g]).go [] =
  some
    ([true, yes ((fun k => Value.int IntKind.i64 (a k)) = fun k => Value.int IntKind.i64 (a k)),
        yes (0 + K ≤ K ∧ (fun j => v1 (g j)) = fun j => v1 (vd (v1 (g j)))), true,
        yes
          (0 + m12 K ≤ m12 K ∧
            m12 K < 2 ^ 40 ∧
              lenR (fun i => decN (encN (runsL (fun j => vd (v1 (g (0 + j)))) (m12 K) (0 + i))))
                    (m12 K) <
                  2 ^ 39 ∧
                ((fun k => Value.int IntKind.i64 (tz (fun k => a k) k)) = fun k =>
                    Value.int IntKind.i64 (tz (fun k => a k) k)) ∧
                  (fun j => encN (runsL (fun j => vd (v1 (g (0 + j)))) (m12 K) j)) = fun j =>
                    encN (decN (encN (runsL (fun j => vd (v1 (g (0 + j)))) (m12 K) j)))),
        true,
        yes
          (m12 K ≤ m12 K ∧
            m12 K < 2 ^ 40 ∧
              lenR (fun i => decN (encN (runsL (fun j => vd (v1 (g (0 + j)))) (m12 K) i))) (m12 K) <
                  2 ^ 30 ∧
                ((-1125899906842624 : Int) ≤ and64 A (4095 : Int) ∧ and64 A (4095 : Int) ≤ (1125899906842624 : Int)) ∧
                  ((fun k => Value.int IntKind.i64 (tz (fun k => a k) k)) = fun k =>
                      Value.int IntKind.i64 (tz (fun k => a k) k)) ∧
                    (fun j => encN (runsL (fun j => vd (v1 (g (0 + j)))) (m12 K) j)) = fun j =>
                      encN (decN (encN (runsL (fun j => vd (v1 (g (0 + j)))) (m12 K) j)))),
        yes (wasS (bodyOf Try.f33 0) (rq1S K g (glyphs (Mt (tzA a)) (fun i => (ruN K g) (0 + i)) (m12 K)).length (at_ (glyphs (Mt (tzA a)) (fun i => (ruN K g) (0 + i)) (m12 K))) (plA (Mt (tzA a)) (ruN K g) (m12 K) (and64 A 4095) 1280 0).length (pcAt (plA (Mt (tzA a)) (ruN K g) (m12 K) (and64 A 4095) 1280 0)) 0 0 0)), yes (wasS (bodyOf Try.f33 2) (rq3S K g (glyphs (Mt (tzA a)) (fun i => (ruN K g) (0 + i)) (m12 K)).length (at_ (glyphs (Mt (tzA a)) (fun i => (ruN K g) (0 + i)) (m12 K))) (plA (Mt (tzA a)) (ruN K g) (m12 K) (and64 A 4095) 1280 0).length (pcAt (plA (Mt (tzA a)) (ruN K g) (m12 K) (and64 A 4095) 1280 0)) inn sum 0 0)), w64 (inn + out) == (((glyphs (Mt (tzA a)) (fun i => ruN K g (0 + i)) (m12 K)).length : Nat) : Int),
        true, true, decide (sum ≥ (0 : Int)), true],
      Bo true,
      [some { t := 2, own := false, c := Cont.row 1 K fun j => [Value.int IntKind.i64 (g j)] }]) := by kernel_rfl
end Go.Proofs.Ytcpahifgdppkbaa.QAI
end
section
/- RowPieces: plain. -/
set_option linter.unusedVariables false
set_option linter.unusedSimpArgs false
namespace Go.Proofs.Ytcpahifgdppkbaa.QAI
open Go Go.RowKit
theorem gl_ord {M : Int → Int} {R : Nat → Rn} {k i j : Nat} (hij : i < j) (hj : j < (glyphs M R k).length) : ltG (at_ (glyphs M R k) i) (at_ (glyphs M R k) j) := by
  have := List.Pairwise.sublist glyphs_sub (strR_lt (M := M) (R := R) (k := k))
  rw [at_get hj, at_get (show i < _ by omega)]
  exact List.pairwise_iff_getElem.1 this i j (by omega) hj hij
theorem ruN_n (K : Nat) (g : Nat → Int) {r : Nat} (h : r < m12 K) : (ruN K g r).n = r := by
  unfold ruN runsL
  rw [if_pos h]
  rfl
/-- Glyphs in order, of runs that tell their numbers. -/
structure Ord (n : Nat) (L : Nat → Gl) (R : Nat → Rn) : Prop where
  lt : ∀ i j, i < j → j < n → ltG (L i) (L j)
  nd : ∀ z, z < n → (R (L z).r.toNat).n = (L z).r
theorem gl_Ord {M : Int → Int} {R : Nat → Rn} {k : Nat} (h : ∀ r, r < k → (R r).n = r) : Ord (glyphs M R k).length (at_ (glyphs M R k)) R := by
  refine ⟨fun i j hij hj => gl_ord hij hj, fun z hz => ?_⟩
  obtain ⟨r, q, hr, hq, e⟩ := glyphs_mem (at_mem hz)
  rw [e]
  show (R ((r : Nat) : Int).toNat).n = (r : Int)
  rw [Int.toNat_natCast]
  exact h r hr
def inTt (t : Nat × Nat × Nat) (z : Nat) : Bool := decide (t.2.1 ≤ z) && decide (z < t.2.2)
section
variable {n : Nat} {L : Nat → Gl} {A : Int} {R : Nat → Rn} {s al : Int}
theorem in_iff (ho : Ord n L R) {t : Nat × Nat × Nat} (h1 : t.2.1 < t.2.2) (h2 : t.2.2 ≤ n) (hs : ∀ z, t.2.1 ≤ z → z < t.2.2 → (L z).r = (L t.2.1).r) {z : Nat} (hz : z < n) :
    ((L z).r = (pcT n L A R s al t).n ∧ (pcT n L A R s al t).f ≤ (L z).a ∧ (L z).a < (pcT n L A R s al t).t) ↔ (t.2.1 ≤ z ∧ z < t.2.2) := by
  have e1 : (pcT n L A R s al t).n = (L t.2.1).r := ho.nd _ (by omega)
  have e2 : (pcT n L A R s al t).f = (L t.2.1).a := rfl
  have e3 : (pcT n L A R s al t).t = (L (t.2.2 - 1)).a + 1 := rfl
  have e4 := hs (t.2.2 - 1) (by omega) (by omega)
  rw [e1, e2, e3]
  constructor
  · rintro ⟨h3, h4, h5⟩
    refine ⟨?_, ?_⟩
    · rcases Nat.lt_or_ge z t.2.1 with h | h
      · rcases ho.lt z t.2.1 h (by omega) with h6 | ⟨_, h6⟩ <;> omega
      · exact h
    · rcases Nat.lt_or_ge z t.2.2 with h | h
      · exact h
      · rcases ho.lt (t.2.2 - 1) z (by omega) hz with h6 | ⟨_, h6⟩ <;> omega
  · rintro ⟨h3, h4⟩
    have h5 := hs z h3 h4
    refine ⟨h5, ?_, ?_⟩
    · rcases Nat.lt_or_ge t.2.1 z with h | h
      · rcases ho.lt t.2.1 z h hz with h6 | ⟨_, h6⟩ <;> omega
      · have : z = t.2.1 := by omega
        rw [this]; exact Int.le_refl _
    · rcases Nat.lt_or_ge z (t.2.2 - 1) with h | h
      · rcases ho.lt z (t.2.2 - 1) h (by omega) with h6 | ⟨_, h6⟩ <;> omega
      · have : z = t.2.2 - 1 := by omega
        rw [this]; omega
theorem next_ok (ho : Ord n L R) {t u : Nat × Nat × Nat} (h1 : t.2.1 < t.2.2) (h2 : t.2.2 ≤ u.2.1) (h3 : u.2.1 < n) (hs : ∀ z, t.2.1 ≤ z → z < t.2.2 → (L z).r = (L t.2.1).r) :
    (pcT n L A R s al t).n ≤ (pcT n L A R s al u).n ∧ ((pcT n L A R s al u).n = (pcT n L A R s al t).n → (pcT n L A R s al t).t ≤ (pcT n L A R s al u).f) := by
  have e1 : (pcT n L A R s al t).n = (L t.2.1).r := ho.nd _ (by omega)
  have e2 : (pcT n L A R s al u).n = (L u.2.1).r := ho.nd _ h3
  have e3 : (pcT n L A R s al t).t = (L (t.2.2 - 1)).a + 1 := rfl
  have e4 : (pcT n L A R s al u).f = (L u.2.1).a := rfl
  have e5 := hs (t.2.2 - 1) (by omega) (by omega)
  rw [e1, e2, e3, e4]
  rcases ho.lt (t.2.2 - 1) u.2.1 (by omega) h3 with h6 | ⟨h7, h6⟩
  · exact ⟨by omega, fun h => by omega⟩
  · exact ⟨by omega, fun h => by omega⟩
end
/- Sums over pieces. -/
def inT (l : List (Nat × Nat × Nat)) : Nat → Nat
  | 0 => 0
  | q + 1 => inT l q + ((tAt l q).2.2 - (tAt l q).2.1)
def swT (L : Nat → Gl) (l : List (Nat × Nat × Nat)) : Nat → Int
  | 0 => 0
  | q + 1 => swT L l q + sw L (tAt l q).2.1 ((tAt l q).2.2 - (tAt l q).2.1)
theorem swT_b {L : Nat → Gl} (hL : WOk L) (l : List (Nat × Nat × Nat)) : ∀ q, 0 ≤ swT L l q ∧ swT L l q ≤ 1048576 * inT l q
  | 0 => by simp [swT, inT]
  | q + 1 => by
    have := swT_b hL l q
    have := sw_b hL (tAt l q).2.1 ((tAt l q).2.2 - (tAt l q).2.1)
    simp only [swT, inT]
    omega
theorem inT_le {n : Nat} {L : Nat → Gl} {A : Int} {c : Nat} {l : List (Nat × Nat × Nat)} (ok : TpOk n L A c l) (hc : ∀ j, j < c → lnAt n L A j ≤ n) : ∀ q, q < l.length → inT l q ≤ (tAt l q).2.1 ∧ inT l (q + 1) ≤ (tAt l q).2.2
  | 0, hq => by
    have := ok.gr 0 hq
    simp only [inT]; omega
  | q + 1, hq => by
    have h1 := inT_le ok hc q (by omega)
    have h2 := ok.step hc hq
    have h3 := ok.gr (q + 1) hq
    simp only [inT] at h1 ⊢
    omega
/-- Is a place in one of the first? -/
def covN (l : List (Nat × Nat × Nat)) (z : Nat) : Nat → Bool
  | 0 => false
  | i + 1 => covN l z i || inTt (tAt l i) z
theorem covN_iff (l : List (Nat × Nat × Nat)) (z : Nat) : ∀ i, covN l z i = true ↔ ∃ q, q < i ∧ (tAt l q).2.1 ≤ z ∧ z < (tAt l q).2.2
  | 0 => by simp [covN]
  | i + 1 => by
    rw [covN, Bool.or_eq_true, covN_iff l z i]
    simp only [inTt, Bool.and_eq_true, decide_eq_true_eq]
    constructor
    · rintro (⟨q, h1, h2⟩ | h)
      · exact ⟨q, by omega, h2⟩
      · exact ⟨i, by omega, h⟩
    · rintro ⟨q, h1, h2⟩
      rcases Nat.lt_or_ge q i with h | h
      · exact .inl ⟨q, h, h2⟩
      · have : q = i := by omega
        subst this
        exact .inr h2
def cntN (p : Nat → Bool) : Nat → Nat
  | 0 => 0
  | z + 1 => cntN p z + (bif p z then 1 else 0)
theorem cntN_le (p : Nat → Bool) : ∀ n, cntN p n ≤ n
  | 0 => Nat.le_refl _
  | n + 1 => by have := cntN_le p n; rw [cntN]; cases p n <;> simp <;> omega
theorem cntN_not (p : Nat → Bool) : ∀ n, cntN p n + cntN (fun z => !p z) n = n
  | 0 => rfl
  | n + 1 => by
    have := cntN_not p n
    rw [cntN, cntN]
    cases p n <;> simp <;> omega
theorem cntN_or {p r : Nat → Bool} : ∀ n, (∀ z, z < n → p z = true → r z = false) → cntN (fun z => p z || r z) n = cntN p n + cntN r n
  | 0, _ => rfl
  | n + 1, h => by
    have ih := cntN_or n fun z hz => h z (by omega)
    have hn := h n (by omega)
    rw [cntN, cntN, cntN, ih]
    cases hp : p n
    · cases r n <;> simp <;> omega
    · rw [hn hp]; simp; omega
theorem cntN_range (t : Nat × Nat × Nat) : ∀ n, cntN (inTt t) n = min n t.2.2 - t.2.1
  | 0 => by simp [cntN]
  | n + 1 => by
    rw [cntN, cntN_range t n]
    unfold inTt
    by_cases h1 : t.2.1 ≤ n
    · by_cases h2 : n < t.2.2
      · simp [h1, h2]; omega
      · simp [h1, h2]; omega
    · simp [h1]; omega
theorem cnt_cov {n : Nat} {L : Nat → Gl} {A : Int} {c : Nat} {l : List (Nat × Nat × Nat)} (ok : TpOk n L A c l) (hc : ∀ j, j < c → lnAt n L A j ≤ n) : ∀ i, i ≤ l.length → cntN (fun z => covN l z i) n = inT l i
  | 0, _ => by
    have : ∀ n, cntN (fun z => covN l z 0) n = 0 := fun n => by
      induction n with
      | zero => rfl
      | succ n ih => rw [cntN, ih]; rfl
    exact this n
  | i + 1, hi => by
    have h3 := ok.gr i (by omega)
    obtain ⟨ht, _⟩ := ln_line (hc _ (ok.ln i (by omega)))
    have hln := ht.ln
    have e : (fun z => covN l z (i + 1)) = fun z => covN l z i || inTt (tAt l i) z := rfl
    rw [e, cntN_or n, cnt_cov ok hc i (by omega), cntN_range, inT]
    · congr 1; omega
    · intro z hz hp
      obtain ⟨q, h1, h2, h4⟩ := (covN_iff l z i).1 hp
      have h5 := ok.before hc (q := q) (i - q - 1) (by omega)
      rw [show q + 1 + (i - q - 1) = i by omega] at h5
      simp only [inTt, Bool.and_eq_false_iff, decide_eq_false_iff_not]
      left; omega
theorem uncov {n : Nat} {L : Nat → Gl} {A : Int} {z : Nat} (hz : z < n) (h : covN (tpN n L A (lnC n L A)) z (tpN n L A (lnC n L A)).length = false) : (L z).k = 2 ∨ (L z).k = 4 := by
  have hc := fun j (hj : j < lnC n L A) => ln_le (n := n) (L := L) (A := A) j hj
  have ok := tp_ok (n := n) (L := L) (A := A) _ hc
  have h3 := (lnC_spec n L A).2.2
  obtain ⟨i, h1, h2, h4⟩ := ln_place (z := z) _ hc (by omega)
  obtain ⟨ht, _⟩ := ln_line (hc i h1)
  rcases Nat.lt_or_ge z (lnTo n L A i) with h5 | h5
  · obtain ⟨q, q1, q2, q3, q4⟩ := ok.cov i h1 z h2 h5
    have := (covN_iff (tpN n L A (lnC n L A)) z (tpN n L A (lnC n L A)).length).2 ⟨q, q1, q3, q4⟩
    rw [h] at this; cases this
  · have e : lnTo n L A i = z := by omega
    have hp := ht.part
    rw [e] at hp
    unfold partA at hp
    rw [stop_brk hz] at hp
    simp only [brk, spc, Bool.or_eq_true, beq_iff_eq] at hp
    rcases hp with hp | hp
    · exact .inr hp
    · exact .inl hp
theorem plA_tl' {M : Int → Int} {R : Nat → Rn} {k : Nat} {A st al : Int} : (plA M R k A st al).length = (tpN (glyphs M R k).length (at_ (glyphs M R k)) A (lnC (glyphs M R k).length (at_ (glyphs M R k)) A)).length := plN_tl
end Go.Proofs.Ytcpahifgdppkbaa.QAI
end
section
/- RowPieces: what the walk comes to. -/
set_option linter.unusedVariables false
set_option linter.unusedSimpArgs false
namespace Go.Proofs.Ytcpahifgdppkbaa.QAI
open Go Go.RowKit
set_option maxRecDepth 100000
section
variable {K : Nat} {g : Nat → Int} {n : Nat} {L : Nat → Gl} {A : Int} {R : Nat → Rn} {s : Int}
theorem rq2_loop {np : Nat} {P : Nat → Pc} {inn : Nat} {sum : Int} {i : Nat} {t : Nat × Nat × Nat} (hL : WOk L) (ho : Ord n L R) (hn : n < 2 ^ 30) (hnp : np < 2 ^ 40) (hi : i < np) (hP : P i = pcT n L A R s 0 t) (h1 : t.2.1 < t.2.2) (h2 : t.2.2 ≤ n) (hs : ∀ z, t.2.1 ≤ z → z < t.2.2 → (L z).r = (L t.2.1).r) (hin : inn ≤ n) :
    CodeSem rqG 1 (.loop (bodyOf Try.f33 1)) (rq2S K g n L np P (inn : Nat) sum i 0 0) (.exit 2, rq2S K g n L np P ((inn + (t.2.2 - t.2.1) : Nat) : Int) sum i (sw L t.2.1 (t.2.2 - t.2.1)) n) := by
  have key := loop_of (G := rqG) (n0 := 1) (b := bodyOf Try.f33 1) (fun k => rq2S K g n L np P ((inn + (min k t.2.2 - t.2.1) : Nat) : Int) sum i (sw L t.2.1 (min k t.2.2 - t.2.1)) (k : Int)) n (e := .exit 2) (Se := rq2S K g n L np P ((inn + (min n t.2.2 - t.2.1) : Nat) : Int) sum i (sw L t.2.1 (min n t.2.2 - t.2.1)) (n : Int)) (by simp) ?_ fun k hk => ?_
  · rw [show min n t.2.2 = t.2.2 by omega, show min 0 t.2.2 - t.2.1 = 0 by omega] at key
    exact key
  · exact rT_sem rqG_ok noLoopsS (rT_go rq2_e ⟨by simp, trivial⟩)
  · have e3 := succ64 (j := k) (by omega)
    have hiff := in_iff (A := A) (s := s) (al := 0) ho h1 h2 hs hk
    have hsb := sw_b hL t.2.1 (min k t.2.2 - t.2.1)
    have hwk := hL k
    rw [← hP] at hiff
    by_cases hr : (L k).r = (P i).n
    · have c1 : ((L k).r == (P i).n) = true := by simpa using hr
      by_cases ha : (P i).f ≤ (L k).a
      · by_cases hb : (L k).a < (P i).t
        · obtain ⟨k1, k2⟩ := hiff.1 ⟨hr, ha, hb⟩
          have e4 : inn + (min (k + 1) t.2.2 - t.2.1) = inn + (min k t.2.2 - t.2.1) + 1 := by omega
          have e5 : min (k + 1) t.2.2 - t.2.1 = min k t.2.2 - t.2.1 + 1 := by omega
          have e6 : w64 (((inn + (min k t.2.2 - t.2.1) : Nat) : Int) + 1) = ((inn + (min k t.2.2 - t.2.1) + 1 : Nat) : Int) := succ64 (by omega)
          have e7 : w64 (sw L t.2.1 (min k t.2.2 - t.2.1) + (L k).w) = sw L t.2.1 (min k t.2.2 - t.2.1 + 1) := by
            rw [w64_id (by omega) (by omega), sw, show t.2.1 + (min k t.2.2 - t.2.1) = k by omega]
          rw [e4, e5]
          refine rT_sem rqG_ok noLoopsS ((rT_go rq2_in ?_).trans ?_)
          · try simp only [Int.toNat_natCast, Nat.zero_add, e3, e6, e7]
            repeat' (first | exact AllT.nil | refine AllT.cons ?_ ?_)
            all_goals first | (with_reducible rfl) | (with_reducible assumption) | exact yes_of ⟨rfl, rfl⟩ | exact decide_eq_true (by omega) | exact beq_iff_eq.2 (by omega) | (simp; done) | (simp; omega)
          · try simp only [Int.toNat_natCast, Nat.zero_add, e3, e6, e7]
            rfl
        · have hn' : ¬ (t.2.1 ≤ k ∧ k < t.2.2) := fun h => hb (hiff.2 h).2.2
          have e4 : min (k + 1) t.2.2 - t.2.1 = min k t.2.2 - t.2.1 := by omega
          rw [e4]
          refine rT_sem rqG_ok noLoopsS ((rT_go rq2_n3 ?_).trans ?_)
          · try simp only [Int.toNat_natCast, Nat.zero_add, e3]
            repeat' (first | exact AllT.nil | refine AllT.cons ?_ ?_)
            all_goals first | (with_reducible rfl) | (with_reducible assumption) | exact yes_of ⟨rfl, rfl⟩ | exact decide_eq_true (by omega) | exact beq_iff_eq.2 (by omega) | (simp; done) | (simp; omega)
          · try simp only [Int.toNat_natCast, Nat.zero_add, e3]
            rfl
      · have hn' : ¬ (t.2.1 ≤ k ∧ k < t.2.2) := fun h => ha (hiff.2 h).2.1
        have e4 : min (k + 1) t.2.2 - t.2.1 = min k t.2.2 - t.2.1 := by omega
        rw [e4]
        refine rT_sem rqG_ok noLoopsS ((rT_go rq2_n2 ?_).trans ?_)
        · try simp only [Int.toNat_natCast, Nat.zero_add, e3]
          repeat' (first | exact AllT.nil | refine AllT.cons ?_ ?_)
          all_goals first | (with_reducible rfl) | (with_reducible assumption) | exact yes_of ⟨rfl, rfl⟩ | exact decide_eq_true (by omega) | exact beq_iff_eq.2 (by omega) | (simp; done) | (simp; omega)
        · try simp only [Int.toNat_natCast, Nat.zero_add, e3]
          rfl
    · have c1 : (!((L k).r == (P i).n)) = true := by simpa using hr
      have hn' : ¬ (t.2.1 ≤ k ∧ k < t.2.2) := fun h => hr (hiff.2 h).1
      have e4 : min (k + 1) t.2.2 - t.2.1 = min k t.2.2 - t.2.1 := by omega
      rw [e4]
      refine rT_sem rqG_ok noLoopsS ((rT_go rq2_n1 ?_).trans ?_)
      · try simp only [Int.toNat_natCast, Nat.zero_add, e3]
        repeat' (first | exact AllT.nil | refine AllT.cons ?_ ?_)
        all_goals first | (with_reducible rfl) | (with_reducible assumption) | exact yes_of ⟨rfl, rfl⟩ | exact decide_eq_true (by omega) | exact beq_iff_eq.2 (by omega) | (simp; done) | (simp; omega)
      · try simp only [Int.toNat_natCast, Nat.zero_add, e3]
        rfl
theorem rq1_loop (hL : WOk L) (ho : Ord n L R) (hn : n < 2 ^ 30) :
    CodeSem rqG 1 (.loop (bodyOf Try.f33 0)) (rq1S K g n L (tpN n L A (lnC n L A)).length (pcAt (plN n L A R s 0 (lnC n L A))) 0 0 0)
      (.exit 0, rq1S K g n L (tpN n L A (lnC n L A)).length (pcAt (plN n L A R s 0 (lnC n L A))) (inT (tpN n L A (lnC n L A)) (tpN n L A (lnC n L A)).length : Nat) (swT L (tpN n L A (lnC n L A)) (tpN n L A (lnC n L A)).length) (tpN n L A (lnC n L A)).length) := by
  have hc := fun j (hj : j < lnC n L A) => ln_le (n := n) (L := L) (A := A) j hj
  have ok := tp_ok (n := n) (L := L) (A := A) _ hc
  have hP := fun q hq => plN_at (n := n) (L := L) (A := A) (R := R) (s := s) (al := 0) (i := lnC n L A) (q := q) hq
  have hlen := plN_len (n := n) (L := L) (A := A) (R := R) (s := s) (al := 0) (lnC n L A) fun q hq => hc q hq
  rw [plN_tl] at hlen
  have hC := (lnC_spec n L A).1
  have hAt : lnAt n L A (lnC n L A) ≤ n + 1 := by
    generalize hcc : lnC n L A = cc
    cases cc with
    | zero => exact Nat.zero_le _
    | succ m => exact (lnAt_le (hc m (by omega))).2
  generalize pcAt (plN n L A R s 0 (lnC n L A)) = P at hP ⊢
  generalize tpN n L A (lnC n L A) = l at ok hP hlen ⊢
  refine loop_of (fun q => rq1S K g n L l.length P (inT l q : Nat) (swT L l q) (q : Int)) l.length (by simp) ?_ fun q hq => ?_
  · exact rT_sem rqG_ok noLoopsS (rT_go rq1_e ⟨by simp, trivial⟩)
  · have e3 := succ64 (j := q) (by omega)
    have hgr := ok.gr q hq
    obtain ⟨ht, _⟩ := ln_line (hc _ (ok.ln q hq))
    have hlnn := ht.ln
    have hin := inT_le ok hc q hq
    have hsw := swT_b hL l q
    have hs2 := sw_b hL (tAt l q).2.1 ((tAt l q).2.2 - (tAt l q).2.1)
    have l2 := rq2_loop (K := K) (g := g) (np := l.length) (P := P) (inn := inT l q) (sum := swT L l q) (i := q) hL ho hn (by omega) hq (hP q hq) hgr.2.1 (by omega) (ok.same q hq) (by omega)
    have ew : (P q).w = sw L (tAt l q).2.1 ((tAt l q).2.2 - (tAt l q).2.1) := by rw [hP q hq]; rfl
    have e4 : inT l (q + 1) = inT l q + ((tAt l q).2.2 - (tAt l q).2.1) := rfl
    have e5 : w64 (swT L l q + sw L (tAt l q).2.1 ((tAt l q).2.2 - (tAt l q).2.1)) = swT L l (q + 1) := by rw [w64_id (by omega) (by omega)]; rfl
    rw [e4]
    rw [← ew] at l2 e5
    have cw : (!((P q).w != (P q).w)) = true := by simp
    by_cases h0 : q = 0
    · refine rT_sem rqG_ok (tell_ok l2) ((rT_go rq1_0 ?_).trans ?_)
      · try simp only [Int.toNat_natCast, Nat.zero_add, e3, e5]
        repeat' (first | exact AllT.nil | refine AllT.cons ?_ ?_)
        all_goals first | (with_reducible rfl) | (with_reducible assumption) | exact yes_of ⟨rfl, rfl⟩ | exact decide_eq_true (by omega) | exact beq_iff_eq.2 (by omega) | (simp; done) | (simp; omega)
      · try simp only [Int.toNat_natCast, Nat.zero_add, e3, e5]
        rfl
    · have i1 : w64 ((q : Int) - 1) = ((q - 1 : Nat) : Int) := by rw [w64_id (by omega) (by omega)]; omega
      have hst := ok.step hc (q := q - 1) (by omega)
      rw [show q - 1 + 1 = q by omega] at hst
      have hg1 := ok.gr (q - 1) (by omega)
      obtain ⟨n1, n2⟩ := next_ok (A := A) (R := R) (s := s) (al := 0) ho hg1.2.1 hst (by omega) (ok.same (q - 1) (by omega))
      rw [← hP (q - 1) (by omega), ← hP q hq] at n1 n2
      by_cases hq2 : (P q).n = (P (q - 1)).n
      · have c1 : ((P q).n == (P (q - 1)).n) = true := by simpa using hq2
        have n3 := n2 hq2
        refine rT_sem rqG_ok (tell_ok l2) ((rT_go rq1_a ?_).trans ?_)
        · try simp only [Int.toNat_natCast, Nat.zero_add, e3, e5, i1]
          repeat' (first | exact AllT.nil | refine AllT.cons ?_ ?_)
          all_goals first | (with_reducible rfl) | (with_reducible assumption) | exact yes_of ⟨rfl, rfl⟩ | exact decide_eq_true (by omega) | exact beq_iff_eq.2 (by omega) | (simp; done) | (simp; omega)
        · try simp only [Int.toNat_natCast, Nat.zero_add, e3, e5, i1]
          rfl
      · have c1 : (!((P q).n == (P (q - 1)).n)) = true := by simpa using hq2
        refine rT_sem rqG_ok (tell_ok l2) ((rT_go rq1_b ?_).trans ?_)
        · try simp only [Int.toNat_natCast, Nat.zero_add, e3, e5, i1]
          repeat' (first | exact AllT.nil | refine AllT.cons ?_ ?_)
          all_goals first | (with_reducible rfl) | (with_reducible assumption) | exact yes_of ⟨rfl, rfl⟩ | exact decide_eq_true (by omega) | exact beq_iff_eq.2 (by omega) | (simp; done) | (simp; omega)
        · try simp only [Int.toNat_natCast, Nat.zero_add, e3, e5, i1]
          rfl
theorem rq4_loop {P : Nat → Pc} {inn sum out : Int} {k c : Nat} {l : List (Nat × Nat × Nat)} (ho : Ord n L R) (ok : TpOk n L A c l) (hc : ∀ j, j < c → lnAt n L A j ≤ n) (hn : n < 2 ^ 30) (hl : l.length < 2 ^ 40) (hk : k < n) (hP : ∀ q, q < l.length → P q = pcT n L A R s 0 (tAt l q)) :
    CodeSem rqG 1 (.loop (bodyOf Try.f33 3)) (rq4S K g n L l.length P inn sum out k false 0) (.exit 6, rq4S K g n L l.length P inn sum out k (covN l k l.length) l.length) := by
  refine loop_of (fun i => rq4S K g n L l.length P inn sum out k (covN l k i) (i : Int)) l.length (by simp) ?_ fun i hi => ?_
  · exact rT_sem rqG_ok noLoopsS (rT_go rq4_e ⟨by simp, trivial⟩)
  · have e3 := succ64 (j := i) (by omega)
    have hgr := ok.gr i hi
    obtain ⟨ht, _⟩ := ln_line (hc _ (ok.ln i hi))
    have hlnn := ht.ln
    have hiff := in_iff (A := A) (s := s) (al := 0) ho hgr.2.1 (by omega) (ok.same i hi) hk
    rw [← hP i hi] at hiff
    have e4 : covN l k (i + 1) = (covN l k i || inTt (tAt l i) k) := rfl
    rw [e4]
    cases hcv : covN l k i
    · rw [Bool.false_or]
      have c0 : (!false) = true := rfl
      by_cases hr : (L k).r = (P i).n
      · have c1 : ((L k).r == (P i).n) = true := by simpa using hr
        by_cases ha : (P i).f ≤ (L k).a
        · have e5 : inTt (tAt l i) k = decide ((L k).a < (P i).t) := by
            unfold inTt
            rw [← Bool.decide_and]
            exact decide_eq_decide.2 ⟨fun h => (hiff.2 h).2.2, fun h => hiff.1 ⟨hr, ha, h⟩⟩
          rw [e5]
          refine rT_sem rqG_ok noLoopsS ((rT_go rq4_f3 ?_).trans ?_)
          · try simp only [Int.toNat_natCast, Nat.zero_add, e3]
            repeat' (first | exact AllT.nil | refine AllT.cons ?_ ?_)
            all_goals first | (with_reducible rfl) | (with_reducible assumption) | exact yes_of ⟨rfl, rfl⟩ | exact decide_eq_true (by omega) | exact beq_iff_eq.2 (by omega) | (simp; done) | (simp; omega)
          · try simp only [Int.toNat_natCast, Nat.zero_add, e3]
            rfl
        · have e5 : inTt (tAt l i) k = false := by
            unfold inTt
            rw [← Bool.decide_and]
            exact decide_eq_false fun h => ha (hiff.2 h).2.1
          rw [e5]
          refine rT_sem rqG_ok noLoopsS ((rT_go rq4_f2 ?_).trans ?_)
          · try simp only [Int.toNat_natCast, Nat.zero_add, e3]
            repeat' (first | exact AllT.nil | refine AllT.cons ?_ ?_)
            all_goals first | (with_reducible rfl) | (with_reducible assumption) | exact yes_of ⟨rfl, rfl⟩ | exact decide_eq_true (by omega) | exact beq_iff_eq.2 (by omega) | (simp; done) | (simp; omega)
          · try simp only [Int.toNat_natCast, Nat.zero_add, e3]
            rfl
      · have c1 : (!((L k).r == (P i).n)) = true := by simpa using hr
        have e5 : inTt (tAt l i) k = false := by
          unfold inTt
          rw [← Bool.decide_and]
          exact decide_eq_false fun h => hr (hiff.2 h).1
        rw [e5]
        refine rT_sem rqG_ok noLoopsS ((rT_go rq4_f1 ?_).trans ?_)
        · try simp only [Int.toNat_natCast, Nat.zero_add, e3]
          repeat' (first | exact AllT.nil | refine AllT.cons ?_ ?_)
          all_goals first | (with_reducible rfl) | (with_reducible assumption) | exact yes_of ⟨rfl, rfl⟩ | exact decide_eq_true (by omega) | exact beq_iff_eq.2 (by omega) | (simp; done) | (simp; omega)
        · try simp only [Int.toNat_natCast, Nat.zero_add, e3]
          rfl
    · rw [Bool.true_or]
      refine rT_sem rqG_ok noLoopsS ((rT_go rq4_t ?_).trans ?_)
      · try simp only [Int.toNat_natCast, Nat.zero_add, e3]
        repeat' (first | exact AllT.nil | refine AllT.cons ?_ ?_)
        all_goals first | (with_reducible rfl) | (with_reducible assumption) | exact yes_of ⟨rfl, rfl⟩ | exact decide_eq_true (by omega) | exact beq_iff_eq.2 (by omega) | (simp; done) | (simp; omega)
      · try simp only [Int.toNat_natCast, Nat.zero_add, e3]
        rfl
theorem rq3_loop {P : Nat → Pc} {inn sum : Int} (ho : Ord n L R) (hn : n < 2 ^ 30) (hl : (tpN n L A (lnC n L A)).length < 2 ^ 40) (hP : ∀ q, q < (tpN n L A (lnC n L A)).length → P q = pcT n L A R s 0 (tAt (tpN n L A (lnC n L A)) q)) :
    CodeSem rqG 1 (.loop (bodyOf Try.f33 2)) (rq3S K g n L (tpN n L A (lnC n L A)).length P inn sum 0 0) (.exit 4, rq3S K g n L (tpN n L A (lnC n L A)).length P inn sum (cntN (fun z => !covN (tpN n L A (lnC n L A)) z (tpN n L A (lnC n L A)).length) n : Nat) n) := by
  have hc := fun j (hj : j < lnC n L A) => ln_le (n := n) (L := L) (A := A) j hj
  have ok := tp_ok (n := n) (L := L) (A := A) _ hc
  refine loop_of (fun k => rq3S K g n L (tpN n L A (lnC n L A)).length P inn sum (cntN (fun z => !covN (tpN n L A (lnC n L A)) z (tpN n L A (lnC n L A)).length) k : Nat) (k : Int)) n (by simp) ?_ fun k hk => ?_
  · exact rT_sem rqG_ok noLoopsS (rT_go rq3_e ⟨by simp, trivial⟩)
  · have e3 := succ64 (j := k) (by omega)
    have hcl := cntN_le (fun z => !covN (tpN n L A (lnC n L A)) z (tpN n L A (lnC n L A)).length) k
    have l4 := rq4_loop (K := K) (g := g) (inn := inn) (sum := sum) (out := (cntN (fun z => !covN (tpN n L A (lnC n L A)) z (tpN n L A (lnC n L A)).length) k : Nat)) ho ok hc hn hl hk hP
    have e4 := succ64 (j := cntN (fun z => !covN (tpN n L A (lnC n L A)) z (tpN n L A (lnC n L A)).length) k) (by omega)
    cases hcv : covN (tpN n L A (lnC n L A)) k (tpN n L A (lnC n L A)).length
    · have hk2 := uncov hk hcv
      have e5 : cntN (fun z => !covN (tpN n L A (lnC n L A)) z (tpN n L A (lnC n L A)).length) (k + 1) = cntN (fun z => !covN (tpN n L A (lnC n L A)) z (tpN n L A (lnC n L A)).length) k + 1 := by rw [cntN, hcv]; rfl
      rw [hcv] at l4
      rw [e5]
      rcases hk2 with hk2 | hk2
      · have c1 : (!((L k).k != 2)) = true := by rw [hk2]; rfl
        refine rT_sem rqG_ok (tell_ok l4) ((rT_go rq3_s ?_).trans ?_)
        · try simp only [Int.toNat_natCast, Nat.zero_add, e3, e4]
          repeat' (first | exact AllT.nil | refine AllT.cons ?_ ?_)
          all_goals first | (with_reducible rfl) | (with_reducible assumption) | exact yes_of ⟨rfl, rfl⟩ | exact decide_eq_true (by omega) | exact beq_iff_eq.2 (by omega) | (simp; done) | (simp; omega)
        · try simp only [Int.toNat_natCast, Nat.zero_add, e3, e4]
          rfl
      · have c1 : ((L k).k != 2) = true := by rw [hk2]; rfl
        have c2 : (!((L k).k != 4)) = true := by rw [hk2]; rfl
        refine rT_sem rqG_ok (tell_ok l4) ((rT_go rq3_b ?_).trans ?_)
        · try simp only [Int.toNat_natCast, Nat.zero_add, e3, e4]
          repeat' (first | exact AllT.nil | refine AllT.cons ?_ ?_)
          all_goals first | (with_reducible rfl) | (with_reducible assumption) | exact yes_of ⟨rfl, rfl⟩ | exact decide_eq_true (by omega) | exact beq_iff_eq.2 (by omega) | (simp; done) | (simp; omega)
        · try simp only [Int.toNat_natCast, Nat.zero_add, e3, e4]
          rfl
    · have e5 : cntN (fun z => !covN (tpN n L A (lnC n L A)) z (tpN n L A (lnC n L A)).length) (k + 1) = cntN (fun z => !covN (tpN n L A (lnC n L A)) z (tpN n L A (lnC n L A)).length) k := by rw [cntN, hcv]; rfl
      rw [hcv] at l4
      rw [e5]
      refine rT_sem rqG_ok (tell_ok l4) ((rT_go rq3_t ?_).trans ?_)
      · try simp only [Int.toNat_natCast, Nat.zero_add, e3, e4]
        repeat' (first | exact AllT.nil | refine AllT.cons ?_ ?_)
        all_goals first | (with_reducible rfl) | (with_reducible assumption) | exact yes_of ⟨rfl, rfl⟩ | exact decide_eq_true (by omega) | exact beq_iff_eq.2 (by omega) | (simp; done) | (simp; omega)
      · try simp only [Int.toNat_natCast, Nat.zero_add, e3, e4]
        rfl
end
theorem rowPieces_true (a : Nat → Int) (K : Nat) (g : Nat → Int) (A : Int) : ∃ keep tm d ℓ, LoopsSem (GT KRT keep 0 tm) [rowJ false K g].length ℓ ∧ (lfun (GT KRT keep 0 tm) ℓ d Try.f33 [aA a, .c (.sl 0 0 K), I64 A] [rowJ false K g]).eval = some (Bo true, [rowJ false K g]) := by
  obtain ⟨hm, _⟩ := m12_le K
  have hA : and64 A 4095 = A % 4096 := and_mask 12 (by decide) A 4095 rfl
  have hlen := ruN_len K g
  have ho : Ord (glyphs (Mt (tzA a)) (ruN K g) (m12 K)).length (at_ (glyphs (Mt (tzA a)) (ruN K g) (m12 K))) (ruN K g) := gl_Ord fun r hr => ruN_n K g hr
  have hgl := glyphs_len (M := Mt (tzA a)) (R := ruN K g) (k := m12 K)
  have hpl := plA_len (M := Mt (tzA a)) (R := ruN K g) (k := m12 K) (A := and64 A 4095) (st := 1280) (al := 0)
  have hwk := gl_wok (a := tzA a) (R := ruN K g) (k := m12 K)
  have ez : (fun i => ruN K g (0 + i)) = ruN K g := zero_fun _
  have l1 := rq1_loop (K := K) (g := g) (A := and64 A 4095) (s := hd 1280) hwk ho (by omega)
  have l3 := rq3_loop (K := K) (g := g) (A := and64 A 4095) (s := hd 1280) (P := pcAt (plA (Mt (tzA a)) (ruN K g) (m12 K) (and64 A 4095) 1280 0))
    (inn := (inT (tpN (glyphs (Mt (tzA a)) (ruN K g) (m12 K)).length (at_ (glyphs (Mt (tzA a)) (ruN K g) (m12 K))) (and64 A 4095) (lnC (glyphs (Mt (tzA a)) (ruN K g) (m12 K)).length (at_ (glyphs (Mt (tzA a)) (ruN K g) (m12 K))) (and64 A 4095))) (tpN (glyphs (Mt (tzA a)) (ruN K g) (m12 K)).length (at_ (glyphs (Mt (tzA a)) (ruN K g) (m12 K))) (and64 A 4095) (lnC (glyphs (Mt (tzA a)) (ruN K g) (m12 K)).length (at_ (glyphs (Mt (tzA a)) (ruN K g) (m12 K))) (and64 A 4095))).length : Nat))
    (sum := swT (at_ (glyphs (Mt (tzA a)) (ruN K g) (m12 K))) (tpN (glyphs (Mt (tzA a)) (ruN K g) (m12 K)).length (at_ (glyphs (Mt (tzA a)) (ruN K g) (m12 K))) (and64 A 4095) (lnC (glyphs (Mt (tzA a)) (ruN K g) (m12 K)).length (at_ (glyphs (Mt (tzA a)) (ruN K g) (m12 K))) (and64 A 4095))) (tpN (glyphs (Mt (tzA a)) (ruN K g) (m12 K)).length (at_ (glyphs (Mt (tzA a)) (ruN K g) (m12 K))) (and64 A 4095) (lnC (glyphs (Mt (tzA a)) (ruN K g) (m12 K)).length (at_ (glyphs (Mt (tzA a)) (ruN K g) (m12 K))) (and64 A 4095))).length)
    ho (by omega) (by rw [← plA_tl' (st := 1280) (al := 0)]; omega) fun q hq => plN_at hq
  have hsum := swT_b hwk (tpN (glyphs (Mt (tzA a)) (ruN K g) (m12 K)).length (at_ (glyphs (Mt (tzA a)) (ruN K g) (m12 K))) (and64 A 4095) (lnC (glyphs (Mt (tzA a)) (ruN K g) (m12 K)).length (at_ (glyphs (Mt (tzA a)) (ruN K g) (m12 K))) (and64 A 4095))) (tpN (glyphs (Mt (tzA a)) (ruN K g) (m12 K)).length (at_ (glyphs (Mt (tzA a)) (ruN K g) (m12 K))) (and64 A 4095) (lnC (glyphs (Mt (tzA a)) (ruN K g) (m12 K)).length (at_ (glyphs (Mt (tzA a)) (ruN K g) (m12 K))) (and64 A 4095))).length
  have hcnt := cnt_cov (tp_ok (n := (glyphs (Mt (tzA a)) (ruN K g) (m12 K)).length) (L := at_ (glyphs (Mt (tzA a)) (ruN K g) (m12 K))) (A := and64 A 4095) _ fun j hj => ln_le j hj) (fun j hj => ln_le j hj) _ (Nat.le_refl _)
  have hnot := cntN_not (fun z => covN (tpN (glyphs (Mt (tzA a)) (ruN K g) (m12 K)).length (at_ (glyphs (Mt (tzA a)) (ruN K g) (m12 K))) (and64 A 4095) (lnC (glyphs (Mt (tzA a)) (ruN K g) (m12 K)).length (at_ (glyphs (Mt (tzA a)) (ruN K g) (m12 K))) (and64 A 4095))) z (tpN (glyphs (Mt (tzA a)) (ruN K g) (m12 K)).length (at_ (glyphs (Mt (tzA a)) (ruN K g) (m12 K))) (and64 A 4095) (lnC (glyphs (Mt (tzA a)) (ruN K g) (m12 K)).length (at_ (glyphs (Mt (tzA a)) (ruN K g) (m12 K))) (and64 A 4095))).length) (glyphs (Mt (tzA a)) (ruN K g) (m12 K)).length
  rw [hcnt] at hnot
  rw [← plA_tl' (st := 1280) (al := 0)] at l1 l3 hsum hnot
  generalize hT : tpN (glyphs (Mt (tzA a)) (ruN K g) (m12 K)).length (at_ (glyphs (Mt (tzA a)) (ruN K g) (m12 K))) (and64 A 4095) (lnC (glyphs (Mt (tzA a)) (ruN K g) (m12 K)).length (at_ (glyphs (Mt (tzA a)) (ruN K g) (m12 K))) (and64 A 4095)) = T at l1 l3 hsum hnot
  have hw := rq_w (K := K) (g := g) (a := a) (A := A) (inn := (inT T (plA (Mt (tzA a)) (ruN K g) (m12 K) (and64 A 4095) 1280 0).length : Nat)) (sum := swT (at_ (glyphs (Mt (tzA a)) (ruN K g) (m12 K))) T (plA (Mt (tzA a)) (ruN K g) (m12 K) (and64 A 4095) 1280 0).length)
    (out := (cntN (fun z => !covN T z (plA (Mt (tzA a)) (ruN K g) (m12 K) (and64 A 4095) 1280 0).length) (glyphs (Mt (tzA a)) (ruN K g) (m12 K)).length : Nat)) (z := ((plA (Mt (tzA a)) (ruN K g) (m12 K) (and64 A 4095) 1280 0).length : Nat)) (z' := ((glyphs (Mt (tzA a)) (ruN K g) (m12 K)).length : Nat))
  simp only [ez] at hw
  refine ⟨_, [], 60, _, byReg_sem (r := 7) (tell_ok l1) (tell_ok l3), (Tr.go_eval hw ?_).trans rfl⟩
  have c1 : (w64 (((inT T (plA (Mt (tzA a)) (ruN K g) (m12 K) (and64 A 4095) 1280 0).length : Nat) : Int) + ((cntN (fun z => !covN T z (plA (Mt (tzA a)) (ruN K g) (m12 K) (and64 A 4095) 1280 0).length) (glyphs (Mt (tzA a)) (ruN K g) (m12 K)).length : Nat) : Int)) == ((glyphs (Mt (tzA a)) (ruN K g) (m12 K)).length : Int)) = true := by
    rw [w64_id (by omega) (by omega)]
    exact beq_iff_eq.2 (by omega)
  have ez2 : (fun i => decN (encN (runsL (fun j => vd (v1 (g (0 + j)))) (m12 K) (0 + i)))) = ruN K g := funext fun i => by rw [Nat.zero_add]; rfl
  try simp only [ez2]
  repeat' (first | exact AllT.nil | refine AllT.cons ?_ ?_)
  all_goals first
    | (with_reducible rfl)
    | exact yes_of ⟨rfl, rfl⟩
    | exact c1
    | exact decide_eq_true hsum.1
    | (simp; done)
    | (refine yes_of ?_
       repeat' (first | exact trivial | (with_reducible rfl) | refine And.intro ?_ ?_)
       all_goals first | omega | (show lenR (ruN K g) (m12 K) < 2 ^ 30; omega) | (show lenR (ruN K g) (m12 K) < 2 ^ 39; omega) | rfl)
def rowPiecesS : List Shp := [.arr 256 (.int .i64), .rows 2 [.int .i64], .one (.int .i64)]
theorem rowPieces_core : ∀ is, InsOk rowPiecesS is → ∃ keep tm d ℓ, LoopsSem (GT KRT keep 0 tm) (blksIn rowPiecesS is).length ℓ ∧ (lfun (GT KRT keep 0 tm) ℓ d Try.f33 (avsIn 0 rowPiecesS is) (blksIn rowPiecesS is)).eval = some (Bo true, blksIn rowPiecesS is) := by
  intro is0 h0
  obtain ⟨v0, is1, rfl, h1⟩ := ins_arr h0
  obtain ⟨k2, v2, is3, rfl, h3, _⟩ := ins_ints h1
  obtain ⟨v3, is4, rfl, h4⟩ := ins_i64 h3
  obtain rfl := ins_nil h4
  exact rowPieces_true v0 k2 v2 v3
end Go.Proofs.Ytcpahifgdppkbaa.QAI
end
