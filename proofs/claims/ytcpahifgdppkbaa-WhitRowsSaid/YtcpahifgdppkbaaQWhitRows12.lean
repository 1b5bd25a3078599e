/- WhitRows: the walk. -/
import Derived.Test.YtcpahifgdppkbaaQWhitRows11
section
set_option linter.unusedVariables false
set_option linter.unusedSimpArgs false
namespace Go.Proofs.Ytcpahifgdppkbaa.QAI
open Go Go.RowKit
set_option maxRecDepth 100000
abbrev wqK1 : List (Nat × Option TypeId) := [(5,none),(6,none),(7,none),(8,none)]
abbrev wqK2 : List (Nat × Option TypeId) := [(5,none),(7,none),(13,none)]
abbrev wqK3 : List (Nat × Option TypeId) := [(5,none),(7,none),(13,none),(14,none)]
noncomputable def wqG : Ctx2 := GT KWT (fun k => if k = 5 then wqK1 else if k = 22 then wqK2 else if k = 25 then wqK3 else []) 0 []
theorem wqG_ok : XOk wqG := GT_ok KWT_ok _ _ _
def wq1S (K : Nat) (g : Nat → Int) (m : Nat) (R : Nat → Rn) (ng : Nat) (L : Nat → Gl) (ink i : Int) : St := ⟨slots 251 [(5, .c (.sl 1 0 m)), (6, .c (.sl 2 0 ng)), (7, I64 ink), (8, I64 i)], [rowJ false K g, rowRn true m R, rowGl ng L]⟩
def wq2S (K : Nat) (g : Nat → Int) (m : Nat) (R : Nat → Rn) (ink i : Int) : St := ⟨slots 251 [(5, .c (.sl 1 0 m)), (7, I64 ink), (13, I64 i)], [rowJ false K g, rowRn true m R]⟩
def wq3S (K : Nat) (g : Nat → Int) (m : Nat) (R : Nat → Rn) (ink i k : Int) : St := ⟨slots 251 [(5, .c (.sl 1 0 m)), (7, I64 ink), (13, I64 i), (14, I64 k)], [rowJ false K g, rowRn true m R]⟩
theorem wq1_B2_32L {K : Nat} {g : Nat → Int} {m : Nat} {R : Nat → Rn} {ng : Nat} {L : Nat → Gl} {ink i : Int} : (rT wqG nol 1 52 (bodyOf Try.f24 0) wqK1 wqK1 (wq1S K g m R ng L ink i)).go [true, true, true, true, false, false, false, false, false, false, false, false, false, false, false, false, false, false, false, false, true, true, false, false, true, false, false, false, false, false, false, false, false, true, true, true, true, true, true, true, true, true, true, true, true, true, true, true, true, true, true, false, true, true, true, true, true, true, true, true, true, true, true, false, false, false, false, false, false, false, false, false, false, false, false, false, false, false, false, false, false, false, false, false, false, false, false, false, false, false, false, false, false, false, false, true, true, true, false, false, false, false, false, true, false, true, false, false, false, false, true, true, false, false, true, false, true, false, true, false, false, false, false, true, true, false, false, true, false, true, false, true, false, true, true, true, true, true, true, true, true, true, true, true, true, true, false, false, false, false, true, true, false, false, true, false, false, false, false, false, false, false, false, false, false, false, false, false, false, false, true, false, true, false] =
  some
    ([decide (i < ((ng : Nat) : Int)), decide ((0 : Int) ≤ i), decide (i < ((ng : Nat) : Int)), decide (0 + i.toNat < ng),
        !decide ((L (0 + i.toNat)).r < (0 : Int)), true, true, true, true, true,
        !decide ((L (0 + i.toNat)).r ≥ ((m : Nat) : Int)), true, true, true, !decide ((L (0 + i.toNat)).a < (0 : Int)),
        true, true, true, true, true, decide ((0 : Int) ≤ (L (0 + i.toNat)).r),
        decide ((L (0 + i.toNat)).r < ((m : Nat) : Int)), true, true,
        decide (0 + (L (0 + i.toNat)).r.toNat < m), true, true, true,
        !decide ((L (0 + i.toNat)).a ≥ (((R (0 + (L (0 + i.toNat)).r.toNat)).s.size : Nat) : Int)), true, true,
        true, !decide ((L (0 + i.toNat)).w < (0 : Int)), decide ((0 : Int) ≤ (L (0 + i.toNat)).r),
        decide ((L (0 + i.toNat)).r < ((m : Nat) : Int)), decide (0 + (L (0 + i.toNat)).r.toNat < m),
        decide ((0 : Int) ≤ (L (0 + i.toNat)).a),
        decide ((L (0 + i.toNat)).a < (((R (0 + (L (0 + i.toNat)).r.toNat)).s.size : Nat) : Int)),
        bt (R (0 + (L (0 + i.toNat)).r.toNat)).s (L (0 + i.toNat)).a == (32 : Int), true, true,
        true, true, true, true, true, true, (L (0 + i.toNat)).k == (2 : Int), true, true, true, true, true,
        true, true, true, decide ((0 : Int) ≤ (L (0 + i.toNat)).r), decide ((L (0 + i.toNat)).r < ((m : Nat) : Int)),
        true, true, decide (0 + (L (0 + i.toNat)).r.toNat < m), true, true,
        !!true == ((R (0 + (L (0 + i.toNat)).r.toNat)).v != (2 : Int)), true, true, true, true, true,
        !bt (R (0 + (L (0 + i.toNat)).r.toNat)).s (L (0 + i.toNat)).a == (10 : Int), true, true,
        true, true, true, true, true, true, true, true, !!((L (0 + i.toNat)).k == (4 : Int)) == false, true,
        true, true, !(L (0 + i.toNat)).k == (3 : Int), true, true, true, true, true, true, true, true, true,
        true, true, true, true, !i == (0 : Int), true, true, true, true, true, true, true, !w64 (i + (1 : Int)) == ((ng : Nat) : Int),
        true, true, true, decide ((0 : Int) ≤ w64 (i - (1 : Int))), decide (w64 (i - (1 : Int)) < ((ng : Nat) : Int)), true, true,
        decide (0 + (w64 (i - (1 : Int))).toNat < ng), true, true, true, true,
        !(L (0 + (w64 (i - (1 : Int))).toNat)).k != (1 : Int), true, true, true,
        decide ((0 : Int) ≤ w64 (i + (1 : Int))), decide (w64 (i + (1 : Int)) < ((ng : Nat) : Int)), true, true,
        decide (0 + (w64 (i + (1 : Int))).toNat < ng), true, true, true, true,
        !(L (0 + (w64 (i + (1 : Int))).toNat)).k != (1 : Int), decide (i > (0 : Int)), true, true, true,
        decide ((0 : Int) ≤ w64 (i - (1 : Int))), decide (w64 (i - (1 : Int)) < ((ng : Nat) : Int)), true, true,
        decide (0 + (w64 (i - (1 : Int))).toNat < ng), true, true, true, true,
        !decide ((L (0 + (w64 (i - (1 : Int))).toNat)).r > (L (0 + i.toNat)).r), true, true, true,
        decide ((0 : Int) ≤ w64 (i - (1 : Int))), decide (w64 (i - (1 : Int)) < ((ng : Nat) : Int)), true, true,
        decide (0 + (w64 (i - (1 : Int))).toNat < ng), true, true, true, true,
        !(L (0 + (w64 (i - (1 : Int))).toNat)).r == (L (0 + i.toNat)).r, true, true, true, true, true,
        true, true, true, true, true, true, true, true, true],
      Ex.normal,
      {
        sl :=
          slots 251
            [(5, AV.c (AC.sl 1 0 m)), (6, AV.c (AC.sl 2 0 ng)),
              (7, I64 ink), (8, I64 (w64 (i + (1 : Int))))],
        h :=
          [some { t := 2, own := false, c := Cont.row 1 K fun j => [Value.int IntKind.i64 (g j)] },
            some
              { t := 83, own := true,
                c :=
                  Cont.row 4 m fun j =>
                    [Value.int IntKind.i64 (R j).n, Value.string (R j).s, Value.int IntKind.i64 (R j).v,
                      Value.int IntKind.i64 (R j).l] },
            some
              { t := 87, own := true,
                c :=
                  Cont.row 4 ng fun j =>
                    [Value.int IntKind.i64 (L j).k, Value.int IntKind.i64 (L j).r, Value.int IntKind.i64 (L j).a,
                      Value.int IntKind.i64 (L j).w] }] }) := by kernel_rfl
theorem wq1_B3_32L {K : Nat} {g : Nat → Int} {m : Nat} {R : Nat → Rn} {ng : Nat} {L : Nat → Gl} {ink i : Int} : (rT wqG nol 1 52 (bodyOf Try.f24 0) wqK1 wqK1 (wq1S K g m R ng L ink i)).go [true, true, true, true, false, false, false, false, false, false, false, false, false, false, false, false, false, false, false, false, true, true, false, false, true, false, false, false, false, false, false, false, false, true, true, true, true, true, true, true, true, true, true, true, true, true, true, false, false, false, false, false, true, true, true, true, true, true, true, true, true, true, true, false, false, false, false, false, false, false, false, false, false, false, false, false, false, false, false, false, false, false, false, false, true, true, true, true, true, true, true, true, true, true, false, true, false, false, true, true, true, false, false, false, false, false, true, false, true, false, false, false, false, true, true, false, false, true, false, true, false, true, false, false, false, false, true, true, false, false, true, false, true, false, true, false, true, true, true, true, true, true, true, true, true, true, true, true, true, false, false, false, false, true, true, false, false, true, false, false, false, false, false, false, false, false, false, false, false, false, false, false, false, true, false, true, false] =
  some
    ([decide (i < ((ng : Nat) : Int)), decide ((0 : Int) ≤ i), decide (i < ((ng : Nat) : Int)), decide (0 + i.toNat < ng),
        !decide ((L (0 + i.toNat)).r < (0 : Int)), true, true, true, true, true,
        !decide ((L (0 + i.toNat)).r ≥ ((m : Nat) : Int)), true, true, true, !decide ((L (0 + i.toNat)).a < (0 : Int)),
        true, true, true, true, true, decide ((0 : Int) ≤ (L (0 + i.toNat)).r),
        decide ((L (0 + i.toNat)).r < ((m : Nat) : Int)), true, true,
        decide (0 + (L (0 + i.toNat)).r.toNat < m), true, true, true,
        !decide ((L (0 + i.toNat)).a ≥ (((R (0 + (L (0 + i.toNat)).r.toNat)).s.size : Nat) : Int)), true, true,
        true, !decide ((L (0 + i.toNat)).w < (0 : Int)), decide ((0 : Int) ≤ (L (0 + i.toNat)).r),
        decide ((L (0 + i.toNat)).r < ((m : Nat) : Int)), decide (0 + (L (0 + i.toNat)).r.toNat < m),
        decide ((0 : Int) ≤ (L (0 + i.toNat)).a),
        decide ((L (0 + i.toNat)).a < (((R (0 + (L (0 + i.toNat)).r.toNat)).s.size : Nat) : Int)),
        bt (R (0 + (L (0 + i.toNat)).r.toNat)).s (L (0 + i.toNat)).a == (32 : Int), true, true,
        true, true, true, true, true, true, !(L (0 + i.toNat)).k == (2 : Int), true, true, true, true, true,
        true, true, true, decide ((0 : Int) ≤ (L (0 + i.toNat)).r), decide ((L (0 + i.toNat)).r < ((m : Nat) : Int)),
        true, true, decide (0 + (L (0 + i.toNat)).r.toNat < m), true, true,
        !!((L (0 + i.toNat)).k == (3 : Int)) ==
              ((R (0 + (L (0 + i.toNat)).r.toNat)).v != (2 : Int)),
        true, true, true, true, true,
        !bt (R (0 + (L (0 + i.toNat)).r.toNat)).s (L (0 + i.toNat)).a == (10 : Int), true, true,
        true, true, true, true, true, true, true, true, !!((L (0 + i.toNat)).k == (4 : Int)) == false, true,
        true, true, (L (0 + i.toNat)).k == (3 : Int), true, true, true,
        decide ((0 : Int) ≤ (L (0 + i.toNat)).r), decide ((L (0 + i.toNat)).r < ((m : Nat) : Int)), true, true,
        decide (0 + (L (0 + i.toNat)).r.toNat < m), true, true, true, true,
        !(R (0 + (L (0 + i.toNat)).r.toNat)).v != (1 : Int), (L (0 + i.toNat)).k == (3 : Int),
        true, true, !i == (0 : Int), true, true, true, true, true, true, true, !w64 (i + (1 : Int)) == ((ng : Nat) : Int), true, true,
        true, decide ((0 : Int) ≤ w64 (i - (1 : Int))), decide (w64 (i - (1 : Int)) < ((ng : Nat) : Int)), true, true,
        decide (0 + (w64 (i - (1 : Int))).toNat < ng), true, true, true, true,
        !(L (0 + (w64 (i - (1 : Int))).toNat)).k != (1 : Int), true, true, true,
        decide ((0 : Int) ≤ w64 (i + (1 : Int))), decide (w64 (i + (1 : Int)) < ((ng : Nat) : Int)), true, true,
        decide (0 + (w64 (i + (1 : Int))).toNat < ng), true, true, true, true,
        !(L (0 + (w64 (i + (1 : Int))).toNat)).k != (1 : Int), decide (i > (0 : Int)), true, true, true,
        decide ((0 : Int) ≤ w64 (i - (1 : Int))), decide (w64 (i - (1 : Int)) < ((ng : Nat) : Int)), true, true,
        decide (0 + (w64 (i - (1 : Int))).toNat < ng), true, true, true, true,
        !decide ((L (0 + (w64 (i - (1 : Int))).toNat)).r > (L (0 + i.toNat)).r), true, true, true,
        decide ((0 : Int) ≤ w64 (i - (1 : Int))), decide (w64 (i - (1 : Int)) < ((ng : Nat) : Int)), true, true,
        decide (0 + (w64 (i - (1 : Int))).toNat < ng), true, true, true, true,
        !(L (0 + (w64 (i - (1 : Int))).toNat)).r == (L (0 + i.toNat)).r, true, true, true, true, true,
        true, true, true, true, true, true, true, true, true],
      Ex.normal,
      {
        sl :=
          slots 251
            [(5, AV.c (AC.sl 1 0 m)), (6, AV.c (AC.sl 2 0 ng)),
              (7, I64 ink), (8, I64 (w64 (i + (1 : Int))))],
        h :=
          [some { t := 2, own := false, c := Cont.row 1 K fun j => [Value.int IntKind.i64 (g j)] },
            some
              { t := 83, own := true,
                c :=
                  Cont.row 4 m fun j =>
                    [Value.int IntKind.i64 (R j).n, Value.string (R j).s, Value.int IntKind.i64 (R j).v,
                      Value.int IntKind.i64 (R j).l] },
            some
              { t := 87, own := true,
                c :=
                  Cont.row 4 ng fun j =>
                    [Value.int IntKind.i64 (L j).k, Value.int IntKind.i64 (L j).r, Value.int IntKind.i64 (L j).a,
                      Value.int IntKind.i64 (L j).w] }] }) := by kernel_rfl
theorem wq1_B2_32S {K : Nat} {g : Nat → Int} {m : Nat} {R : Nat → Rn} {ng : Nat} {L : Nat → Gl} {ink i : Int} : (rT wqG nol 1 52 (bodyOf Try.f24 0) wqK1 wqK1 (wq1S K g m R ng L ink i)).go [true, true, true, true, false, false, false, false, false, false, false, false, false, false, false, false, false, false, false, false, true, true, false, false, true, false, false, false, false, false, false, false, false, true, true, true, true, true, true, true, true, true, true, true, true, true, true, true, true, true, true, false, true, true, true, true, true, true, true, true, true, true, true, false, false, false, false, false, false, false, false, false, false, false, false, false, false, false, false, false, false, false, false, false, false, false, false, false, false, false, false, false, false, false, false, true, true, true, false, false, false, false, false, true, false, true, false, false, false, false, true, true, false, false, true, false, true, false, true, false, false, false, false, true, true, false, false, true, false, true, false, true, false, true, true, true, true, true, true, true, true, true, true, true, true, true, false, false, false, false, true, true, false, false, true, false, false, false, false, true, true, true, true, true, true, true, true, true, true, true, true, false, true, true, false, true, false] =
  some
    ([decide (i < ((ng : Nat) : Int)), decide ((0 : Int) ≤ i), decide (i < ((ng : Nat) : Int)), decide (0 + i.toNat < ng),
        !decide ((L (0 + i.toNat)).r < (0 : Int)), true, true, true, true, true,
        !decide ((L (0 + i.toNat)).r ≥ ((m : Nat) : Int)), true, true, true, !decide ((L (0 + i.toNat)).a < (0 : Int)),
        true, true, true, true, true, decide ((0 : Int) ≤ (L (0 + i.toNat)).r),
        decide ((L (0 + i.toNat)).r < ((m : Nat) : Int)), true, true,
        decide (0 + (L (0 + i.toNat)).r.toNat < m), true, true, true,
        !decide ((L (0 + i.toNat)).a ≥ (((R (0 + (L (0 + i.toNat)).r.toNat)).s.size : Nat) : Int)), true, true,
        true, !decide ((L (0 + i.toNat)).w < (0 : Int)), decide ((0 : Int) ≤ (L (0 + i.toNat)).r),
        decide ((L (0 + i.toNat)).r < ((m : Nat) : Int)), decide (0 + (L (0 + i.toNat)).r.toNat < m),
        decide ((0 : Int) ≤ (L (0 + i.toNat)).a),
        decide ((L (0 + i.toNat)).a < (((R (0 + (L (0 + i.toNat)).r.toNat)).s.size : Nat) : Int)),
        bt (R (0 + (L (0 + i.toNat)).r.toNat)).s (L (0 + i.toNat)).a == (32 : Int), true, true,
        true, true, true, true, true, true, (L (0 + i.toNat)).k == (2 : Int), true, true, true, true, true,
        true, true, true, decide ((0 : Int) ≤ (L (0 + i.toNat)).r), decide ((L (0 + i.toNat)).r < ((m : Nat) : Int)),
        true, true, decide (0 + (L (0 + i.toNat)).r.toNat < m), true, true,
        !!true == ((R (0 + (L (0 + i.toNat)).r.toNat)).v != (2 : Int)), true, true, true, true, true,
        !bt (R (0 + (L (0 + i.toNat)).r.toNat)).s (L (0 + i.toNat)).a == (10 : Int), true, true,
        true, true, true, true, true, true, true, true, !!((L (0 + i.toNat)).k == (4 : Int)) == false, true,
        true, true, !(L (0 + i.toNat)).k == (3 : Int), true, true, true, true, true, true, true, true, true,
        true, true, true, true, !i == (0 : Int), true, true, true, true, true, true, true, !w64 (i + (1 : Int)) == ((ng : Nat) : Int),
        true, true, true, decide ((0 : Int) ≤ w64 (i - (1 : Int))), decide (w64 (i - (1 : Int)) < ((ng : Nat) : Int)), true, true,
        decide (0 + (w64 (i - (1 : Int))).toNat < ng), true, true, true, true,
        !(L (0 + (w64 (i - (1 : Int))).toNat)).k != (1 : Int), true, true, true,
        decide ((0 : Int) ≤ w64 (i + (1 : Int))), decide (w64 (i + (1 : Int)) < ((ng : Nat) : Int)), true, true,
        decide (0 + (w64 (i + (1 : Int))).toNat < ng), true, true, true, true,
        !(L (0 + (w64 (i + (1 : Int))).toNat)).k != (1 : Int), decide (i > (0 : Int)), true, true, true,
        decide ((0 : Int) ≤ w64 (i - (1 : Int))), decide (w64 (i - (1 : Int)) < ((ng : Nat) : Int)), true, true,
        decide (0 + (w64 (i - (1 : Int))).toNat < ng), true, true, true, true,
        !decide ((L (0 + (w64 (i - (1 : Int))).toNat)).r > (L (0 + i.toNat)).r), true, true, true,
        decide ((0 : Int) ≤ w64 (i - (1 : Int))), decide (w64 (i - (1 : Int)) < ((ng : Nat) : Int)), true, true,
        decide (0 + (w64 (i - (1 : Int))).toNat < ng), true, true, true, true,
        (L (0 + (w64 (i - (1 : Int))).toNat)).r == (L (0 + i.toNat)).r, true, true, true,
        decide ((0 : Int) ≤ w64 (i - (1 : Int))), decide (w64 (i - (1 : Int)) < ((ng : Nat) : Int)), true, true,
        decide (0 + (w64 (i - (1 : Int))).toNat < ng), true, true, true, true, true, true, true, true,
        !decide ((L (0 + (w64 (i - (1 : Int))).toNat)).a ≥ (L (0 + i.toNat)).a)],
      Ex.normal,
      {
        sl :=
          slots 251
            [(5, AV.c (AC.sl 1 0 m)), (6, AV.c (AC.sl 2 0 ng)),
              (7, I64 ink), (8, I64 (w64 (i + (1 : Int))))],
        h :=
          [some { t := 2, own := false, c := Cont.row 1 K fun j => [Value.int IntKind.i64 (g j)] },
            some
              { t := 83, own := true,
                c :=
                  Cont.row 4 m fun j =>
                    [Value.int IntKind.i64 (R j).n, Value.string (R j).s, Value.int IntKind.i64 (R j).v,
                      Value.int IntKind.i64 (R j).l] },
            some
              { t := 87, own := true,
                c :=
                  Cont.row 4 ng fun j =>
                    [Value.int IntKind.i64 (L j).k, Value.int IntKind.i64 (L j).r, Value.int IntKind.i64 (L j).a,
                      Value.int IntKind.i64 (L j).w] }] }) := by kernel_rfl
theorem wq1_B3_32S {K : Nat} {g : Nat → Int} {m : Nat} {R : Nat → Rn} {ng : Nat} {L : Nat → Gl} {ink i : Int} : (rT wqG nol 1 52 (bodyOf Try.f24 0) wqK1 wqK1 (wq1S K g m R ng L ink i)).go [true, true, true, true, false, false, false, false, false, false, false, false, false, false, false, false, false, false, false, false, true, true, false, false, true, false, false, false, false, false, false, false, false, true, true, true, true, true, true, true, true, true, true, true, true, true, true, false, false, false, false, false, true, true, true, true, true, true, true, true, true, true, true, false, false, false, false, false, false, false, false, false, false, false, false, false, false, false, false, false, false, false, false, false, true, true, true, true, true, true, true, true, true, true, false, true, false, false, true, true, true, false, false, false, false, false, true, false, true, false, false, false, false, true, true, false, false, true, false, true, false, true, false, false, false, false, true, true, false, false, true, false, true, false, true, false, true, true, true, true, true, true, true, true, true, true, true, true, true, false, false, false, false, true, true, false, false, true, false, false, false, false, true, true, true, true, true, true, true, true, true, true, true, true, false, true, true, false, true, false] =
  some
    ([decide (i < ((ng : Nat) : Int)), decide ((0 : Int) ≤ i), decide (i < ((ng : Nat) : Int)), decide (0 + i.toNat < ng),
        !decide ((L (0 + i.toNat)).r < (0 : Int)), true, true, true, true, true,
        !decide ((L (0 + i.toNat)).r ≥ ((m : Nat) : Int)), true, true, true, !decide ((L (0 + i.toNat)).a < (0 : Int)),
        true, true, true, true, true, decide ((0 : Int) ≤ (L (0 + i.toNat)).r),
        decide ((L (0 + i.toNat)).r < ((m : Nat) : Int)), true, true,
        decide (0 + (L (0 + i.toNat)).r.toNat < m), true, true, true,
        !decide ((L (0 + i.toNat)).a ≥ (((R (0 + (L (0 + i.toNat)).r.toNat)).s.size : Nat) : Int)), true, true,
        true, !decide ((L (0 + i.toNat)).w < (0 : Int)), decide ((0 : Int) ≤ (L (0 + i.toNat)).r),
        decide ((L (0 + i.toNat)).r < ((m : Nat) : Int)), decide (0 + (L (0 + i.toNat)).r.toNat < m),
        decide ((0 : Int) ≤ (L (0 + i.toNat)).a),
        decide ((L (0 + i.toNat)).a < (((R (0 + (L (0 + i.toNat)).r.toNat)).s.size : Nat) : Int)),
        bt (R (0 + (L (0 + i.toNat)).r.toNat)).s (L (0 + i.toNat)).a == (32 : Int), true, true,
        true, true, true, true, true, true, !(L (0 + i.toNat)).k == (2 : Int), true, true, true, true, true,
        true, true, true, decide ((0 : Int) ≤ (L (0 + i.toNat)).r), decide ((L (0 + i.toNat)).r < ((m : Nat) : Int)),
        true, true, decide (0 + (L (0 + i.toNat)).r.toNat < m), true, true,
        !!((L (0 + i.toNat)).k == (3 : Int)) ==
              ((R (0 + (L (0 + i.toNat)).r.toNat)).v != (2 : Int)),
        true, true, true, true, true,
        !bt (R (0 + (L (0 + i.toNat)).r.toNat)).s (L (0 + i.toNat)).a == (10 : Int), true, true,
        true, true, true, true, true, true, true, true, !!((L (0 + i.toNat)).k == (4 : Int)) == false, true,
        true, true, (L (0 + i.toNat)).k == (3 : Int), true, true, true,
        decide ((0 : Int) ≤ (L (0 + i.toNat)).r), decide ((L (0 + i.toNat)).r < ((m : Nat) : Int)), true, true,
        decide (0 + (L (0 + i.toNat)).r.toNat < m), true, true, true, true,
        !(R (0 + (L (0 + i.toNat)).r.toNat)).v != (1 : Int), (L (0 + i.toNat)).k == (3 : Int),
        true, true, !i == (0 : Int), true, true, true, true, true, true, true, !w64 (i + (1 : Int)) == ((ng : Nat) : Int), true, true,
        true, decide ((0 : Int) ≤ w64 (i - (1 : Int))), decide (w64 (i - (1 : Int)) < ((ng : Nat) : Int)), true, true,
        decide (0 + (w64 (i - (1 : Int))).toNat < ng), true, true, true, true,
        !(L (0 + (w64 (i - (1 : Int))).toNat)).k != (1 : Int), true, true, true,
        decide ((0 : Int) ≤ w64 (i + (1 : Int))), decide (w64 (i + (1 : Int)) < ((ng : Nat) : Int)), true, true,
        decide (0 + (w64 (i + (1 : Int))).toNat < ng), true, true, true, true,
        !(L (0 + (w64 (i + (1 : Int))).toNat)).k != (1 : Int), decide (i > (0 : Int)), true, true, true,
        decide ((0 : Int) ≤ w64 (i - (1 : Int))), decide (w64 (i - (1 : Int)) < ((ng : Nat) : Int)), true, true,
        decide (0 + (w64 (i - (1 : Int))).toNat < ng), true, true, true, true,
        !decide ((L (0 + (w64 (i - (1 : Int))).toNat)).r > (L (0 + i.toNat)).r), true, true, true,
        decide ((0 : Int) ≤ w64 (i - (1 : Int))), decide (w64 (i - (1 : Int)) < ((ng : Nat) : Int)), true, true,
        decide (0 + (w64 (i - (1 : Int))).toNat < ng), true, true, true, true,
        (L (0 + (w64 (i - (1 : Int))).toNat)).r == (L (0 + i.toNat)).r, true, true, true,
        decide ((0 : Int) ≤ w64 (i - (1 : Int))), decide (w64 (i - (1 : Int)) < ((ng : Nat) : Int)), true, true,
        decide (0 + (w64 (i - (1 : Int))).toNat < ng), true, true, true, true, true, true, true, true,
        !decide ((L (0 + (w64 (i - (1 : Int))).toNat)).a ≥ (L (0 + i.toNat)).a)],
      Ex.normal,
      {
        sl :=
          slots 251
            [(5, AV.c (AC.sl 1 0 m)), (6, AV.c (AC.sl 2 0 ng)),
              (7, I64 ink), (8, I64 (w64 (i + (1 : Int))))],
        h :=
          [some { t := 2, own := false, c := Cont.row 1 K fun j => [Value.int IntKind.i64 (g j)] },
            some
              { t := 83, own := true,
                c :=
                  Cont.row 4 m fun j =>
                    [Value.int IntKind.i64 (R j).n, Value.string (R j).s, Value.int IntKind.i64 (R j).v,
                      Value.int IntKind.i64 (R j).l] },
            some
              { t := 87, own := true,
                c :=
                  Cont.row 4 ng fun j =>
                    [Value.int IntKind.i64 (L j).k, Value.int IntKind.i64 (L j).r, Value.int IntKind.i64 (L j).a,
                      Value.int IntKind.i64 (L j).w] }] }) := by kernel_rfl
theorem wq1_P_320 {K : Nat} {g : Nat → Int} {m : Nat} {R : Nat → Rn} {ng : Nat} {L : Nat → Gl} {ink i : Int} : (rT wqG nol 1 52 (bodyOf Try.f24 0) wqK1 wqK1 (wq1S K g m R ng L ink i)).go [true, true, true, true, false, false, false, false, false, false, false, false, false, false, false, false, false, false, false, false, true, true, false, false, true, false, false, false, false, false, false, false, false, true, true, true, true, true, true, true, true, true, true, true, true, true, true, false, false, false, false, false, true, true, true, true, true, true, true, true, true, true, true, false, false, false, false, false, false, false, false, false, false, false, false, false, false, false, false, false, false, false, false, false, false, false, false, false, false, false, false, false, false, false, false, false, false, false, false, false, false, false, false, false, false, false, false, false, false, false, false, false, false, false, false, false, false, false] =
  some
    ([decide (i < ((ng : Nat) : Int)), decide ((0 : Int) ≤ i), decide (i < ((ng : Nat) : Int)), decide (0 + i.toNat < ng),
        !decide ((L (0 + i.toNat)).r < (0 : Int)), true, true, true, true, true,
        !decide ((L (0 + i.toNat)).r ≥ ((m : Nat) : Int)), true, true, true, !decide ((L (0 + i.toNat)).a < (0 : Int)),
        true, true, true, true, true, decide ((0 : Int) ≤ (L (0 + i.toNat)).r),
        decide ((L (0 + i.toNat)).r < ((m : Nat) : Int)), true, true,
        decide (0 + (L (0 + i.toNat)).r.toNat < m), true, true, true,
        !decide ((L (0 + i.toNat)).a ≥ (((R (0 + (L (0 + i.toNat)).r.toNat)).s.size : Nat) : Int)), true, true,
        true, !decide ((L (0 + i.toNat)).w < (0 : Int)), decide ((0 : Int) ≤ (L (0 + i.toNat)).r),
        decide ((L (0 + i.toNat)).r < ((m : Nat) : Int)), decide (0 + (L (0 + i.toNat)).r.toNat < m),
        decide ((0 : Int) ≤ (L (0 + i.toNat)).a),
        decide ((L (0 + i.toNat)).a < (((R (0 + (L (0 + i.toNat)).r.toNat)).s.size : Nat) : Int)),
        bt (R (0 + (L (0 + i.toNat)).r.toNat)).s (L (0 + i.toNat)).a == (32 : Int), true, true,
        true, true, true, true, true, true, !(L (0 + i.toNat)).k == (2 : Int), true, true, true, true, true,
        true, true, true, decide ((0 : Int) ≤ (L (0 + i.toNat)).r), decide ((L (0 + i.toNat)).r < ((m : Nat) : Int)),
        true, true, decide (0 + (L (0 + i.toNat)).r.toNat < m), true, true,
        !!((L (0 + i.toNat)).k == (3 : Int)) ==
              ((R (0 + (L (0 + i.toNat)).r.toNat)).v != (2 : Int)),
        true, true, true, true, true,
        !bt (R (0 + (L (0 + i.toNat)).r.toNat)).s (L (0 + i.toNat)).a == (10 : Int), true, true,
        true, true, true, true, true, true, true, true, !!((L (0 + i.toNat)).k == (4 : Int)) == false, true,
        true, true, !(L (0 + i.toNat)).k == (3 : Int), true, true, true, true, true, true, true, true, true,
        true, !(L (0 + i.toNat)).k == (3 : Int), true, true, true, true, true, true, true, true, true,
        !decide (i > (0 : Int)), true, true, true, true, true, true, true, true, true, true, true, true],
      Ex.normal,
      {
        sl :=
          slots 251
            [(5, AV.c (AC.sl 1 0 m)), (6, AV.c (AC.sl 2 0 ng)),
              (7, I64 ink), (8, I64 (w64 (i + (1 : Int))))],
        h :=
          [some { t := 2, own := false, c := Cont.row 1 K fun j => [Value.int IntKind.i64 (g j)] },
            some
              { t := 83, own := true,
                c :=
                  Cont.row 4 m fun j =>
                    [Value.int IntKind.i64 (R j).n, Value.string (R j).s, Value.int IntKind.i64 (R j).v,
                      Value.int IntKind.i64 (R j).l] },
            some
              { t := 87, own := true,
                c :=
                  Cont.row 4 ng fun j =>
                    [Value.int IntKind.i64 (L j).k, Value.int IntKind.i64 (L j).r, Value.int IntKind.i64 (L j).a,
                      Value.int IntKind.i64 (L j).w] }] }) := by kernel_rfl
theorem wq1_P_32L {K : Nat} {g : Nat → Int} {m : Nat} {R : Nat → Rn} {ng : Nat} {L : Nat → Gl} {ink i : Int} : (rT wqG nol 1 52 (bodyOf Try.f24 0) wqK1 wqK1 (wq1S K g m R ng L ink i)).go [true, true, true, true, false, false, false, false, false, false, false, false, false, false, false, false, false, false, false, false, true, true, false, false, true, false, false, false, false, false, false, false, false, true, true, true, true, true, true, true, true, true, true, true, true, true, true, false, false, false, false, false, true, true, true, true, true, true, true, true, true, true, true, false, false, false, false, false, false, false, false, false, false, false, false, false, false, false, false, false, false, false, false, false, false, false, false, false, false, false, false, false, false, false, false, false, false, false, false, false, false, false, false, false, false, true, true, true, true, true, true, true, true, true, true, true, true, true, false, false, false, false, true, true, false, false, true, false, false, false, false, false, false, false, false, false, false, false, false, false, false, false, true, false, true, false] =
  some
    ([decide (i < ((ng : Nat) : Int)), decide ((0 : Int) ≤ i), decide (i < ((ng : Nat) : Int)), decide (0 + i.toNat < ng),
        !decide ((L (0 + i.toNat)).r < (0 : Int)), true, true, true, true, true,
        !decide ((L (0 + i.toNat)).r ≥ ((m : Nat) : Int)), true, true, true, !decide ((L (0 + i.toNat)).a < (0 : Int)),
        true, true, true, true, true, decide ((0 : Int) ≤ (L (0 + i.toNat)).r),
        decide ((L (0 + i.toNat)).r < ((m : Nat) : Int)), true, true,
        decide (0 + (L (0 + i.toNat)).r.toNat < m), true, true, true,
        !decide ((L (0 + i.toNat)).a ≥ (((R (0 + (L (0 + i.toNat)).r.toNat)).s.size : Nat) : Int)), true, true,
        true, !decide ((L (0 + i.toNat)).w < (0 : Int)), decide ((0 : Int) ≤ (L (0 + i.toNat)).r),
        decide ((L (0 + i.toNat)).r < ((m : Nat) : Int)), decide (0 + (L (0 + i.toNat)).r.toNat < m),
        decide ((0 : Int) ≤ (L (0 + i.toNat)).a),
        decide ((L (0 + i.toNat)).a < (((R (0 + (L (0 + i.toNat)).r.toNat)).s.size : Nat) : Int)),
        bt (R (0 + (L (0 + i.toNat)).r.toNat)).s (L (0 + i.toNat)).a == (32 : Int), true, true,
        true, true, true, true, true, true, !(L (0 + i.toNat)).k == (2 : Int), true, true, true, true, true,
        true, true, true, decide ((0 : Int) ≤ (L (0 + i.toNat)).r), decide ((L (0 + i.toNat)).r < ((m : Nat) : Int)),
        true, true, decide (0 + (L (0 + i.toNat)).r.toNat < m), true, true,
        !!((L (0 + i.toNat)).k == (3 : Int)) ==
              ((R (0 + (L (0 + i.toNat)).r.toNat)).v != (2 : Int)),
        true, true, true, true, true,
        !bt (R (0 + (L (0 + i.toNat)).r.toNat)).s (L (0 + i.toNat)).a == (10 : Int), true, true,
        true, true, true, true, true, true, true, true, !!((L (0 + i.toNat)).k == (4 : Int)) == false, true,
        true, true, !(L (0 + i.toNat)).k == (3 : Int), true, true, true, true, true, true, true, true, true,
        true, !(L (0 + i.toNat)).k == (3 : Int), true, true, true, true, true, true, true, true, true,
        decide (i > (0 : Int)), true, true, true, decide ((0 : Int) ≤ w64 (i - (1 : Int))),
        decide (w64 (i - (1 : Int)) < ((ng : Nat) : Int)), true, true, decide (0 + (w64 (i - (1 : Int))).toNat < ng), true,
        true, true, true, !decide ((L (0 + (w64 (i - (1 : Int))).toNat)).r > (L (0 + i.toNat)).r), true,
        true, true, decide ((0 : Int) ≤ w64 (i - (1 : Int))), decide (w64 (i - (1 : Int)) < ((ng : Nat) : Int)), true, true,
        decide (0 + (w64 (i - (1 : Int))).toNat < ng), true, true, true, true,
        !(L (0 + (w64 (i - (1 : Int))).toNat)).r == (L (0 + i.toNat)).r, true, true, true, true, true,
        true, true, true, true, true, true, true, true, true],
      Ex.normal,
      {
        sl :=
          slots 251
            [(5, AV.c (AC.sl 1 0 m)), (6, AV.c (AC.sl 2 0 ng)),
              (7, I64 ink), (8, I64 (w64 (i + (1 : Int))))],
        h :=
          [some { t := 2, own := false, c := Cont.row 1 K fun j => [Value.int IntKind.i64 (g j)] },
            some
              { t := 83, own := true,
                c :=
                  Cont.row 4 m fun j =>
                    [Value.int IntKind.i64 (R j).n, Value.string (R j).s, Value.int IntKind.i64 (R j).v,
                      Value.int IntKind.i64 (R j).l] },
            some
              { t := 87, own := true,
                c :=
                  Cont.row 4 ng fun j =>
                    [Value.int IntKind.i64 (L j).k, Value.int IntKind.i64 (L j).r, Value.int IntKind.i64 (L j).a,
                      Value.int IntKind.i64 (L j).w] }] }) := by kernel_rfl
theorem wq1_P_32S {K : Nat} {g : Nat → Int} {m : Nat} {R : Nat → Rn} {ng : Nat} {L : Nat → Gl} {ink i : Int} : (rT wqG nol 1 52 (bodyOf Try.f24 0) wqK1 wqK1 (wq1S K g m R ng L ink i)).go [true, true, true, true, false, false, false, false, false, false, false, false, false, false, false, false, false, false, false, false, true, true, false, false, true, false, false, false, false, false, false, false, false, true, true, true, true, true, true, true, true, true, true, true, true, true, true, false, false, false, false, false, true, true, true, true, true, true, true, true, true, true, true, false, false, false, false, false, false, false, false, false, false, false, false, false, false, false, false, false, false, false, false, false, false, false, false, false, false, false, false, false, false, false, false, false, false, false, false, false, false, false, false, false, false, true, true, true, true, true, true, true, true, true, true, true, true, true, false, false, false, false, true, true, false, false, true, false, false, false, false, true, true, true, true, true, true, true, true, true, true, true, true, false, true, true, false, true, false] =
  some
    ([decide (i < ((ng : Nat) : Int)), decide ((0 : Int) ≤ i), decide (i < ((ng : Nat) : Int)), decide (0 + i.toNat < ng),
        !decide ((L (0 + i.toNat)).r < (0 : Int)), true, true, true, true, true,
        !decide ((L (0 + i.toNat)).r ≥ ((m : Nat) : Int)), true, true, true, !decide ((L (0 + i.toNat)).a < (0 : Int)),
        true, true, true, true, true, decide ((0 : Int) ≤ (L (0 + i.toNat)).r),
        decide ((L (0 + i.toNat)).r < ((m : Nat) : Int)), true, true,
        decide (0 + (L (0 + i.toNat)).r.toNat < m), true, true, true,
        !decide ((L (0 + i.toNat)).a ≥ (((R (0 + (L (0 + i.toNat)).r.toNat)).s.size : Nat) : Int)), true, true,
        true, !decide ((L (0 + i.toNat)).w < (0 : Int)), decide ((0 : Int) ≤ (L (0 + i.toNat)).r),
        decide ((L (0 + i.toNat)).r < ((m : Nat) : Int)), decide (0 + (L (0 + i.toNat)).r.toNat < m),
        decide ((0 : Int) ≤ (L (0 + i.toNat)).a),
        decide ((L (0 + i.toNat)).a < (((R (0 + (L (0 + i.toNat)).r.toNat)).s.size : Nat) : Int)),
        bt (R (0 + (L (0 + i.toNat)).r.toNat)).s (L (0 + i.toNat)).a == (32 : Int), true, true,
        true, true, true, true, true, true, !(L (0 + i.toNat)).k == (2 : Int), true, true, true, true, true,
        true, true, true, decide ((0 : Int) ≤ (L (0 + i.toNat)).r), decide ((L (0 + i.toNat)).r < ((m : Nat) : Int)),
        true, true, decide (0 + (L (0 + i.toNat)).r.toNat < m), true, true,
        !!((L (0 + i.toNat)).k == (3 : Int)) ==
              ((R (0 + (L (0 + i.toNat)).r.toNat)).v != (2 : Int)),
        true, true, true, true, true,
        !bt (R (0 + (L (0 + i.toNat)).r.toNat)).s (L (0 + i.toNat)).a == (10 : Int), true, true,
        true, true, true, true, true, true, true, true, !!((L (0 + i.toNat)).k == (4 : Int)) == false, true,
        true, true, !(L (0 + i.toNat)).k == (3 : Int), true, true, true, true, true, true, true, true, true,
        true, !(L (0 + i.toNat)).k == (3 : Int), true, true, true, true, true, true, true, true, true,
        decide (i > (0 : Int)), true, true, true, decide ((0 : Int) ≤ w64 (i - (1 : Int))),
        decide (w64 (i - (1 : Int)) < ((ng : Nat) : Int)), true, true, decide (0 + (w64 (i - (1 : Int))).toNat < ng), true,
        true, true, true, !decide ((L (0 + (w64 (i - (1 : Int))).toNat)).r > (L (0 + i.toNat)).r), true,
        true, true, decide ((0 : Int) ≤ w64 (i - (1 : Int))), decide (w64 (i - (1 : Int)) < ((ng : Nat) : Int)), true, true,
        decide (0 + (w64 (i - (1 : Int))).toNat < ng), true, true, true, true,
        (L (0 + (w64 (i - (1 : Int))).toNat)).r == (L (0 + i.toNat)).r, true, true, true,
        decide ((0 : Int) ≤ w64 (i - (1 : Int))), decide (w64 (i - (1 : Int)) < ((ng : Nat) : Int)), true, true,
        decide (0 + (w64 (i - (1 : Int))).toNat < ng), true, true, true, true, true, true, true, true,
        !decide ((L (0 + (w64 (i - (1 : Int))).toNat)).a ≥ (L (0 + i.toNat)).a)],
      Ex.normal,
      {
        sl :=
          slots 251
            [(5, AV.c (AC.sl 1 0 m)), (6, AV.c (AC.sl 2 0 ng)),
              (7, I64 ink), (8, I64 (w64 (i + (1 : Int))))],
        h :=
          [some { t := 2, own := false, c := Cont.row 1 K fun j => [Value.int IntKind.i64 (g j)] },
            some
              { t := 83, own := true,
                c :=
                  Cont.row 4 m fun j =>
                    [Value.int IntKind.i64 (R j).n, Value.string (R j).s, Value.int IntKind.i64 (R j).v,
                      Value.int IntKind.i64 (R j).l] },
            some
              { t := 87, own := true,
                c :=
                  Cont.row 4 ng fun j =>
                    [Value.int IntKind.i64 (L j).k, Value.int IntKind.i64 (L j).r, Value.int IntKind.i64 (L j).a,
                      Value.int IntKind.i64 (L j).w] }] }) := by kernel_rfl
theorem wq1_B2_9L {K : Nat} {g : Nat → Int} {m : Nat} {R : Nat → Rn} {ng : Nat} {L : Nat → Gl} {ink i : Int} : (rT wqG nol 1 52 (bodyOf Try.f24 0) wqK1 wqK1 (wq1S K g m R ng L ink i)).go [true, true, true, true, false, false, false, false, false, false, false, false, false, false, false, false, false, false, false, false, true, true, false, false, true, false, false, false, false, false, false, false, false, true, true, true, true, true, false, false, false, true, true, true, true, true, true, true, true, true, true, false, true, true, true, true, true, true, true, true, true, true, true, false, false, false, false, false, false, false, false, false, false, false, false, false, false, false, false, false, false, false, false, false, false, false, false, false, false, false, false, false, false, false, false, true, true, true, false, false, false, false, false, true, false, true, false, false, false, false, true, true, false, false, true, false, true, false, true, false, false, false, false, true, true, false, false, true, false, true, false, true, false, true, true, true, true, true, true, true, true, true, true, true, true, true, false, false, false, false, true, true, false, false, true, false, false, false, false, false, false, false, false, false, false, false, false, false, false, false, true, false, true, false] =
  some
    ([decide (i < ((ng : Nat) : Int)), decide ((0 : Int) ≤ i), decide (i < ((ng : Nat) : Int)), decide (0 + i.toNat < ng),
        !decide ((L (0 + i.toNat)).r < (0 : Int)), true, true, true, true, true,
        !decide ((L (0 + i.toNat)).r ≥ ((m : Nat) : Int)), true, true, true, !decide ((L (0 + i.toNat)).a < (0 : Int)),
        true, true, true, true, true, decide ((0 : Int) ≤ (L (0 + i.toNat)).r),
        decide ((L (0 + i.toNat)).r < ((m : Nat) : Int)), true, true,
        decide (0 + (L (0 + i.toNat)).r.toNat < m), true, true, true,
        !decide ((L (0 + i.toNat)).a ≥ (((R (0 + (L (0 + i.toNat)).r.toNat)).s.size : Nat) : Int)), true, true,
        true, !decide ((L (0 + i.toNat)).w < (0 : Int)), decide ((0 : Int) ≤ (L (0 + i.toNat)).r),
        decide ((L (0 + i.toNat)).r < ((m : Nat) : Int)), decide (0 + (L (0 + i.toNat)).r.toNat < m),
        decide ((0 : Int) ≤ (L (0 + i.toNat)).a),
        decide ((L (0 + i.toNat)).a < (((R (0 + (L (0 + i.toNat)).r.toNat)).s.size : Nat) : Int)),
        !bt (R (0 + (L (0 + i.toNat)).r.toNat)).s (L (0 + i.toNat)).a == (32 : Int), true, true,
        bt (R (0 + (L (0 + i.toNat)).r.toNat)).s (L (0 + i.toNat)).a == (9 : Int), true, true,
        true, true, true, (L (0 + i.toNat)).k == (2 : Int), true, true, true, true, true, true, true, true,
        decide ((0 : Int) ≤ (L (0 + i.toNat)).r), decide ((L (0 + i.toNat)).r < ((m : Nat) : Int)), true, true,
        decide (0 + (L (0 + i.toNat)).r.toNat < m), true, true,
        !!true == ((R (0 + (L (0 + i.toNat)).r.toNat)).v != (2 : Int)), true, true, true, true, true,
        !bt (R (0 + (L (0 + i.toNat)).r.toNat)).s (L (0 + i.toNat)).a == (10 : Int), true, true,
        true, true, true, true, true, true, true, true, !!((L (0 + i.toNat)).k == (4 : Int)) == false, true,
        true, true, !(L (0 + i.toNat)).k == (3 : Int), true, true, true, true, true, true, true, true, true,
        true, true, true, true, !i == (0 : Int), true, true, true, true, true, true, true, !w64 (i + (1 : Int)) == ((ng : Nat) : Int),
        true, true, true, decide ((0 : Int) ≤ w64 (i - (1 : Int))), decide (w64 (i - (1 : Int)) < ((ng : Nat) : Int)), true, true,
        decide (0 + (w64 (i - (1 : Int))).toNat < ng), true, true, true, true,
        !(L (0 + (w64 (i - (1 : Int))).toNat)).k != (1 : Int), true, true, true,
        decide ((0 : Int) ≤ w64 (i + (1 : Int))), decide (w64 (i + (1 : Int)) < ((ng : Nat) : Int)), true, true,
        decide (0 + (w64 (i + (1 : Int))).toNat < ng), true, true, true, true,
        !(L (0 + (w64 (i + (1 : Int))).toNat)).k != (1 : Int), decide (i > (0 : Int)), true, true, true,
        decide ((0 : Int) ≤ w64 (i - (1 : Int))), decide (w64 (i - (1 : Int)) < ((ng : Nat) : Int)), true, true,
        decide (0 + (w64 (i - (1 : Int))).toNat < ng), true, true, true, true,
        !decide ((L (0 + (w64 (i - (1 : Int))).toNat)).r > (L (0 + i.toNat)).r), true, true, true,
        decide ((0 : Int) ≤ w64 (i - (1 : Int))), decide (w64 (i - (1 : Int)) < ((ng : Nat) : Int)), true, true,
        decide (0 + (w64 (i - (1 : Int))).toNat < ng), true, true, true, true,
        !(L (0 + (w64 (i - (1 : Int))).toNat)).r == (L (0 + i.toNat)).r, true, true, true, true, true,
        true, true, true, true, true, true, true, true, true],
      Ex.normal,
      {
        sl :=
          slots 251
            [(5, AV.c (AC.sl 1 0 m)), (6, AV.c (AC.sl 2 0 ng)),
              (7, I64 ink), (8, I64 (w64 (i + (1 : Int))))],
        h :=
          [some { t := 2, own := false, c := Cont.row 1 K fun j => [Value.int IntKind.i64 (g j)] },
            some
              { t := 83, own := true,
                c :=
                  Cont.row 4 m fun j =>
                    [Value.int IntKind.i64 (R j).n, Value.string (R j).s, Value.int IntKind.i64 (R j).v,
                      Value.int IntKind.i64 (R j).l] },
            some
              { t := 87, own := true,
                c :=
                  Cont.row 4 ng fun j =>
                    [Value.int IntKind.i64 (L j).k, Value.int IntKind.i64 (L j).r, Value.int IntKind.i64 (L j).a,
                      Value.int IntKind.i64 (L j).w] }] }) := by kernel_rfl
theorem wq1_B3_9L {K : Nat} {g : Nat → Int} {m : Nat} {R : Nat → Rn} {ng : Nat} {L : Nat → Gl} {ink i : Int} : (rT wqG nol 1 52 (bodyOf Try.f24 0) wqK1 wqK1 (wq1S K g m R ng L ink i)).go [true, true, true, true, false, false, false, false, false, false, false, false, false, false, false, false, false, false, false, false, true, true, false, false, true, false, false, false, false, false, false, false, false, true, true, true, true, true, false, false, false, true, true, true, true, true, true, false, false, false, false, false, true, true, true, true, true, true, true, true, true, true, true, false, false, false, false, false, false, false, false, false, false, false, false, false, false, false, false, false, false, false, false, false, true, true, true, true, true, true, true, true, true, true, false, true, false, false, true, true, true, false, false, false, false, false, true, false, true, false, false, false, false, true, true, false, false, true, false, true, false, true, false, false, false, false, true, true, false, false, true, false, true, false, true, false, true, true, true, true, true, true, true, true, true, true, true, true, true, false, false, false, false, true, true, false, false, true, false, false, false, false, false, false, false, false, false, false, false, false, false, false, false, true, false, true, false] =
  some
    ([decide (i < ((ng : Nat) : Int)), decide ((0 : Int) ≤ i), decide (i < ((ng : Nat) : Int)), decide (0 + i.toNat < ng),
        !decide ((L (0 + i.toNat)).r < (0 : Int)), true, true, true, true, true,
        !decide ((L (0 + i.toNat)).r ≥ ((m : Nat) : Int)), true, true, true, !decide ((L (0 + i.toNat)).a < (0 : Int)),
        true, true, true, true, true, decide ((0 : Int) ≤ (L (0 + i.toNat)).r),
        decide ((L (0 + i.toNat)).r < ((m : Nat) : Int)), true, true,
        decide (0 + (L (0 + i.toNat)).r.toNat < m), true, true, true,
        !decide ((L (0 + i.toNat)).a ≥ (((R (0 + (L (0 + i.toNat)).r.toNat)).s.size : Nat) : Int)), true, true,
        true, !decide ((L (0 + i.toNat)).w < (0 : Int)), decide ((0 : Int) ≤ (L (0 + i.toNat)).r),
        decide ((L (0 + i.toNat)).r < ((m : Nat) : Int)), decide (0 + (L (0 + i.toNat)).r.toNat < m),
        decide ((0 : Int) ≤ (L (0 + i.toNat)).a),
        decide ((L (0 + i.toNat)).a < (((R (0 + (L (0 + i.toNat)).r.toNat)).s.size : Nat) : Int)),
        !bt (R (0 + (L (0 + i.toNat)).r.toNat)).s (L (0 + i.toNat)).a == (32 : Int), true, true,
        bt (R (0 + (L (0 + i.toNat)).r.toNat)).s (L (0 + i.toNat)).a == (9 : Int), true, true,
        true, true, true, !(L (0 + i.toNat)).k == (2 : Int), true, true, true, true, true, true, true, true,
        decide ((0 : Int) ≤ (L (0 + i.toNat)).r), decide ((L (0 + i.toNat)).r < ((m : Nat) : Int)), true, true,
        decide (0 + (L (0 + i.toNat)).r.toNat < m), true, true,
        !!((L (0 + i.toNat)).k == (3 : Int)) ==
              ((R (0 + (L (0 + i.toNat)).r.toNat)).v != (2 : Int)),
        true, true, true, true, true,
        !bt (R (0 + (L (0 + i.toNat)).r.toNat)).s (L (0 + i.toNat)).a == (10 : Int), true, true,
        true, true, true, true, true, true, true, true, !!((L (0 + i.toNat)).k == (4 : Int)) == false, true,
        true, true, (L (0 + i.toNat)).k == (3 : Int), true, true, true,
        decide ((0 : Int) ≤ (L (0 + i.toNat)).r), decide ((L (0 + i.toNat)).r < ((m : Nat) : Int)), true, true,
        decide (0 + (L (0 + i.toNat)).r.toNat < m), true, true, true, true,
        !(R (0 + (L (0 + i.toNat)).r.toNat)).v != (1 : Int), (L (0 + i.toNat)).k == (3 : Int),
        true, true, !i == (0 : Int), true, true, true, true, true, true, true, !w64 (i + (1 : Int)) == ((ng : Nat) : Int), true, true,
        true, decide ((0 : Int) ≤ w64 (i - (1 : Int))), decide (w64 (i - (1 : Int)) < ((ng : Nat) : Int)), true, true,
        decide (0 + (w64 (i - (1 : Int))).toNat < ng), true, true, true, true,
        !(L (0 + (w64 (i - (1 : Int))).toNat)).k != (1 : Int), true, true, true,
        decide ((0 : Int) ≤ w64 (i + (1 : Int))), decide (w64 (i + (1 : Int)) < ((ng : Nat) : Int)), true, true,
        decide (0 + (w64 (i + (1 : Int))).toNat < ng), true, true, true, true,
        !(L (0 + (w64 (i + (1 : Int))).toNat)).k != (1 : Int), decide (i > (0 : Int)), true, true, true,
        decide ((0 : Int) ≤ w64 (i - (1 : Int))), decide (w64 (i - (1 : Int)) < ((ng : Nat) : Int)), true, true,
        decide (0 + (w64 (i - (1 : Int))).toNat < ng), true, true, true, true,
        !decide ((L (0 + (w64 (i - (1 : Int))).toNat)).r > (L (0 + i.toNat)).r), true, true, true,
        decide ((0 : Int) ≤ w64 (i - (1 : Int))), decide (w64 (i - (1 : Int)) < ((ng : Nat) : Int)), true, true,
        decide (0 + (w64 (i - (1 : Int))).toNat < ng), true, true, true, true,
        !(L (0 + (w64 (i - (1 : Int))).toNat)).r == (L (0 + i.toNat)).r, true, true, true, true, true,
        true, true, true, true, true, true, true, true, true],
      Ex.normal,
      {
        sl :=
          slots 251
            [(5, AV.c (AC.sl 1 0 m)), (6, AV.c (AC.sl 2 0 ng)),
              (7, I64 ink), (8, I64 (w64 (i + (1 : Int))))],
        h :=
          [some { t := 2, own := false, c := Cont.row 1 K fun j => [Value.int IntKind.i64 (g j)] },
            some
              { t := 83, own := true,
                c :=
                  Cont.row 4 m fun j =>
                    [Value.int IntKind.i64 (R j).n, Value.string (R j).s, Value.int IntKind.i64 (R j).v,
                      Value.int IntKind.i64 (R j).l] },
            some
              { t := 87, own := true,
                c :=
                  Cont.row 4 ng fun j =>
                    [Value.int IntKind.i64 (L j).k, Value.int IntKind.i64 (L j).r, Value.int IntKind.i64 (L j).a,
                      Value.int IntKind.i64 (L j).w] }] }) := by kernel_rfl
theorem wq1_B2_9S {K : Nat} {g : Nat → Int} {m : Nat} {R : Nat → Rn} {ng : Nat} {L : Nat → Gl} {ink i : Int} : (rT wqG nol 1 52 (bodyOf Try.f24 0) wqK1 wqK1 (wq1S K g m R ng L ink i)).go [true, true, true, true, false, false, false, false, false, false, false, false, false, false, false, false, false, false, false, false, true, true, false, false, true, false, false, false, false, false, false, false, false, true, true, true, true, true, false, false, false, true, true, true, true, true, true, true, true, true, true, false, true, true, true, true, true, true, true, true, true, true, true, false, false, false, false, false, false, false, false, false, false, false, false, false, false, false, false, false, false, false, false, false, false, false, false, false, false, false, false, false, false, false, false, true, true, true, false, false, false, false, false, true, false, true, false, false, false, false, true, true, false, false, true, false, true, false, true, false, false, false, false, true, true, false, false, true, false, true, false, true, false, true, true, true, true, true, true, true, true, true, true, true, true, true, false, false, false, false, true, true, false, false, true, false, false, false, false, true, true, true, true, true, true, true, true, true, true, true, true, false, true, true, false, true, false] =
  some
    ([decide (i < ((ng : Nat) : Int)), decide ((0 : Int) ≤ i), decide (i < ((ng : Nat) : Int)), decide (0 + i.toNat < ng),
        !decide ((L (0 + i.toNat)).r < (0 : Int)), true, true, true, true, true,
        !decide ((L (0 + i.toNat)).r ≥ ((m : Nat) : Int)), true, true, true, !decide ((L (0 + i.toNat)).a < (0 : Int)),
        true, true, true, true, true, decide ((0 : Int) ≤ (L (0 + i.toNat)).r),
        decide ((L (0 + i.toNat)).r < ((m : Nat) : Int)), true, true,
        decide (0 + (L (0 + i.toNat)).r.toNat < m), true, true, true,
        !decide ((L (0 + i.toNat)).a ≥ (((R (0 + (L (0 + i.toNat)).r.toNat)).s.size : Nat) : Int)), true, true,
        true, !decide ((L (0 + i.toNat)).w < (0 : Int)), decide ((0 : Int) ≤ (L (0 + i.toNat)).r),
        decide ((L (0 + i.toNat)).r < ((m : Nat) : Int)), decide (0 + (L (0 + i.toNat)).r.toNat < m),
        decide ((0 : Int) ≤ (L (0 + i.toNat)).a),
        decide ((L (0 + i.toNat)).a < (((R (0 + (L (0 + i.toNat)).r.toNat)).s.size : Nat) : Int)),
        !bt (R (0 + (L (0 + i.toNat)).r.toNat)).s (L (0 + i.toNat)).a == (32 : Int), true, true,
        bt (R (0 + (L (0 + i.toNat)).r.toNat)).s (L (0 + i.toNat)).a == (9 : Int), true, true,
        true, true, true, (L (0 + i.toNat)).k == (2 : Int), true, true, true, true, true, true, true, true,
        decide ((0 : Int) ≤ (L (0 + i.toNat)).r), decide ((L (0 + i.toNat)).r < ((m : Nat) : Int)), true, true,
        decide (0 + (L (0 + i.toNat)).r.toNat < m), true, true,
        !!true == ((R (0 + (L (0 + i.toNat)).r.toNat)).v != (2 : Int)), true, true, true, true, true,
        !bt (R (0 + (L (0 + i.toNat)).r.toNat)).s (L (0 + i.toNat)).a == (10 : Int), true, true,
        true, true, true, true, true, true, true, true, !!((L (0 + i.toNat)).k == (4 : Int)) == false, true,
        true, true, !(L (0 + i.toNat)).k == (3 : Int), true, true, true, true, true, true, true, true, true,
        true, true, true, true, !i == (0 : Int), true, true, true, true, true, true, true, !w64 (i + (1 : Int)) == ((ng : Nat) : Int),
        true, true, true, decide ((0 : Int) ≤ w64 (i - (1 : Int))), decide (w64 (i - (1 : Int)) < ((ng : Nat) : Int)), true, true,
        decide (0 + (w64 (i - (1 : Int))).toNat < ng), true, true, true, true,
        !(L (0 + (w64 (i - (1 : Int))).toNat)).k != (1 : Int), true, true, true,
        decide ((0 : Int) ≤ w64 (i + (1 : Int))), decide (w64 (i + (1 : Int)) < ((ng : Nat) : Int)), true, true,
        decide (0 + (w64 (i + (1 : Int))).toNat < ng), true, true, true, true,
        !(L (0 + (w64 (i + (1 : Int))).toNat)).k != (1 : Int), decide (i > (0 : Int)), true, true, true,
        decide ((0 : Int) ≤ w64 (i - (1 : Int))), decide (w64 (i - (1 : Int)) < ((ng : Nat) : Int)), true, true,
        decide (0 + (w64 (i - (1 : Int))).toNat < ng), true, true, true, true,
        !decide ((L (0 + (w64 (i - (1 : Int))).toNat)).r > (L (0 + i.toNat)).r), true, true, true,
        decide ((0 : Int) ≤ w64 (i - (1 : Int))), decide (w64 (i - (1 : Int)) < ((ng : Nat) : Int)), true, true,
        decide (0 + (w64 (i - (1 : Int))).toNat < ng), true, true, true, true,
        (L (0 + (w64 (i - (1 : Int))).toNat)).r == (L (0 + i.toNat)).r, true, true, true,
        decide ((0 : Int) ≤ w64 (i - (1 : Int))), decide (w64 (i - (1 : Int)) < ((ng : Nat) : Int)), true, true,
        decide (0 + (w64 (i - (1 : Int))).toNat < ng), true, true, true, true, true, true, true, true,
        !decide ((L (0 + (w64 (i - (1 : Int))).toNat)).a ≥ (L (0 + i.toNat)).a)],
      Ex.normal,
      {
        sl :=
          slots 251
            [(5, AV.c (AC.sl 1 0 m)), (6, AV.c (AC.sl 2 0 ng)),
              (7, I64 ink), (8, I64 (w64 (i + (1 : Int))))],
        h :=
          [some { t := 2, own := false, c := Cont.row 1 K fun j => [Value.int IntKind.i64 (g j)] },
            some
              { t := 83, own := true,
                c :=
                  Cont.row 4 m fun j =>
                    [Value.int IntKind.i64 (R j).n, Value.string (R j).s, Value.int IntKind.i64 (R j).v,
                      Value.int IntKind.i64 (R j).l] },
            some
              { t := 87, own := true,
                c :=
                  Cont.row 4 ng fun j =>
                    [Value.int IntKind.i64 (L j).k, Value.int IntKind.i64 (L j).r, Value.int IntKind.i64 (L j).a,
                      Value.int IntKind.i64 (L j).w] }] }) := by kernel_rfl
theorem wq1_B3_9S {K : Nat} {g : Nat → Int} {m : Nat} {R : Nat → Rn} {ng : Nat} {L : Nat → Gl} {ink i : Int} : (rT wqG nol 1 52 (bodyOf Try.f24 0) wqK1 wqK1 (wq1S K g m R ng L ink i)).go [true, true, true, true, false, false, false, false, false, false, false, false, false, false, false, false, false, false, false, false, true, true, false, false, true, false, false, false, false, false, false, false, false, true, true, true, true, true, false, false, false, true, true, true, true, true, true, false, false, false, false, false, true, true, true, true, true, true, true, true, true, true, true, false, false, false, false, false, false, false, false, false, false, false, false, false, false, false, false, false, false, false, false, false, true, true, true, true, true, true, true, true, true, true, false, true, false, false, true, true, true, false, false, false, false, false, true, false, true, false, false, false, false, true, true, false, false, true, false, true, false, true, false, false, false, false, true, true, false, false, true, false, true, false, true, false, true, true, true, true, true, true, true, true, true, true, true, true, true, false, false, false, false, true, true, false, false, true, false, false, false, false, true, true, true, true, true, true, true, true, true, true, true, true, false, true, true, false, true, false] =
  some
    ([decide (i < ((ng : Nat) : Int)), decide ((0 : Int) ≤ i), decide (i < ((ng : Nat) : Int)), decide (0 + i.toNat < ng),
        !decide ((L (0 + i.toNat)).r < (0 : Int)), true, true, true, true, true,
        !decide ((L (0 + i.toNat)).r ≥ ((m : Nat) : Int)), true, true, true, !decide ((L (0 + i.toNat)).a < (0 : Int)),
        true, true, true, true, true, decide ((0 : Int) ≤ (L (0 + i.toNat)).r),
        decide ((L (0 + i.toNat)).r < ((m : Nat) : Int)), true, true,
        decide (0 + (L (0 + i.toNat)).r.toNat < m), true, true, true,
        !decide ((L (0 + i.toNat)).a ≥ (((R (0 + (L (0 + i.toNat)).r.toNat)).s.size : Nat) : Int)), true, true,
        true, !decide ((L (0 + i.toNat)).w < (0 : Int)), decide ((0 : Int) ≤ (L (0 + i.toNat)).r),
        decide ((L (0 + i.toNat)).r < ((m : Nat) : Int)), decide (0 + (L (0 + i.toNat)).r.toNat < m),
        decide ((0 : Int) ≤ (L (0 + i.toNat)).a),
        decide ((L (0 + i.toNat)).a < (((R (0 + (L (0 + i.toNat)).r.toNat)).s.size : Nat) : Int)),
        !bt (R (0 + (L (0 + i.toNat)).r.toNat)).s (L (0 + i.toNat)).a == (32 : Int), true, true,
        bt (R (0 + (L (0 + i.toNat)).r.toNat)).s (L (0 + i.toNat)).a == (9 : Int), true, true,
        true, true, true, !(L (0 + i.toNat)).k == (2 : Int), true, true, true, true, true, true, true, true,
        decide ((0 : Int) ≤ (L (0 + i.toNat)).r), decide ((L (0 + i.toNat)).r < ((m : Nat) : Int)), true, true,
        decide (0 + (L (0 + i.toNat)).r.toNat < m), true, true,
        !!((L (0 + i.toNat)).k == (3 : Int)) ==
              ((R (0 + (L (0 + i.toNat)).r.toNat)).v != (2 : Int)),
        true, true, true, true, true,
        !bt (R (0 + (L (0 + i.toNat)).r.toNat)).s (L (0 + i.toNat)).a == (10 : Int), true, true,
        true, true, true, true, true, true, true, true, !!((L (0 + i.toNat)).k == (4 : Int)) == false, true,
        true, true, (L (0 + i.toNat)).k == (3 : Int), true, true, true,
        decide ((0 : Int) ≤ (L (0 + i.toNat)).r), decide ((L (0 + i.toNat)).r < ((m : Nat) : Int)), true, true,
        decide (0 + (L (0 + i.toNat)).r.toNat < m), true, true, true, true,
        !(R (0 + (L (0 + i.toNat)).r.toNat)).v != (1 : Int), (L (0 + i.toNat)).k == (3 : Int),
        true, true, !i == (0 : Int), true, true, true, true, true, true, true, !w64 (i + (1 : Int)) == ((ng : Nat) : Int), true, true,
        true, decide ((0 : Int) ≤ w64 (i - (1 : Int))), decide (w64 (i - (1 : Int)) < ((ng : Nat) : Int)), true, true,
        decide (0 + (w64 (i - (1 : Int))).toNat < ng), true, true, true, true,
        !(L (0 + (w64 (i - (1 : Int))).toNat)).k != (1 : Int), true, true, true,
        decide ((0 : Int) ≤ w64 (i + (1 : Int))), decide (w64 (i + (1 : Int)) < ((ng : Nat) : Int)), true, true,
        decide (0 + (w64 (i + (1 : Int))).toNat < ng), true, true, true, true,
        !(L (0 + (w64 (i + (1 : Int))).toNat)).k != (1 : Int), decide (i > (0 : Int)), true, true, true,
        decide ((0 : Int) ≤ w64 (i - (1 : Int))), decide (w64 (i - (1 : Int)) < ((ng : Nat) : Int)), true, true,
        decide (0 + (w64 (i - (1 : Int))).toNat < ng), true, true, true, true,
        !decide ((L (0 + (w64 (i - (1 : Int))).toNat)).r > (L (0 + i.toNat)).r), true, true, true,
        decide ((0 : Int) ≤ w64 (i - (1 : Int))), decide (w64 (i - (1 : Int)) < ((ng : Nat) : Int)), true, true,
        decide (0 + (w64 (i - (1 : Int))).toNat < ng), true, true, true, true,
        (L (0 + (w64 (i - (1 : Int))).toNat)).r == (L (0 + i.toNat)).r, true, true, true,
        decide ((0 : Int) ≤ w64 (i - (1 : Int))), decide (w64 (i - (1 : Int)) < ((ng : Nat) : Int)), true, true,
        decide (0 + (w64 (i - (1 : Int))).toNat < ng), true, true, true, true, true, true, true, true,
        !decide ((L (0 + (w64 (i - (1 : Int))).toNat)).a ≥ (L (0 + i.toNat)).a)],
      Ex.normal,
      {
        sl :=
          slots 251
            [(5, AV.c (AC.sl 1 0 m)), (6, AV.c (AC.sl 2 0 ng)),
              (7, I64 ink), (8, I64 (w64 (i + (1 : Int))))],
        h :=
          [some { t := 2, own := false, c := Cont.row 1 K fun j => [Value.int IntKind.i64 (g j)] },
            some
              { t := 83, own := true,
                c :=
                  Cont.row 4 m fun j =>
                    [Value.int IntKind.i64 (R j).n, Value.string (R j).s, Value.int IntKind.i64 (R j).v,
                      Value.int IntKind.i64 (R j).l] },
            some
              { t := 87, own := true,
                c :=
                  Cont.row 4 ng fun j =>
                    [Value.int IntKind.i64 (L j).k, Value.int IntKind.i64 (L j).r, Value.int IntKind.i64 (L j).a,
                      Value.int IntKind.i64 (L j).w] }] }) := by kernel_rfl
theorem wq1_P_90 {K : Nat} {g : Nat → Int} {m : Nat} {R : Nat → Rn} {ng : Nat} {L : Nat → Gl} {ink i : Int} : (rT wqG nol 1 52 (bodyOf Try.f24 0) wqK1 wqK1 (wq1S K g m R ng L ink i)).go [true, true, true, true, false, false, false, false, false, false, false, false, false, false, false, false, false, false, false, false, true, true, false, false, true, false, false, false, false, false, false, false, false, true, true, true, true, true, false, false, false, true, true, true, true, true, true, false, false, false, false, false, true, true, true, true, true, true, true, true, true, true, true, false, false, false, false, false, false, false, false, false, false, false, false, false, false, false, false, false, false, false, false, false, false, false, false, false, false, false, false, false, false, false, false, false, false, false, false, false, false, false, false, false, false, false, false, false, false, false, false, false, false, false, false, false, false, false] =
  some
    ([decide (i < ((ng : Nat) : Int)), decide ((0 : Int) ≤ i), decide (i < ((ng : Nat) : Int)), decide (0 + i.toNat < ng),
        !decide ((L (0 + i.toNat)).r < (0 : Int)), true, true, true, true, true,
        !decide ((L (0 + i.toNat)).r ≥ ((m : Nat) : Int)), true, true, true, !decide ((L (0 + i.toNat)).a < (0 : Int)),
        true, true, true, true, true, decide ((0 : Int) ≤ (L (0 + i.toNat)).r),
        decide ((L (0 + i.toNat)).r < ((m : Nat) : Int)), true, true,
        decide (0 + (L (0 + i.toNat)).r.toNat < m), true, true, true,
        !decide ((L (0 + i.toNat)).a ≥ (((R (0 + (L (0 + i.toNat)).r.toNat)).s.size : Nat) : Int)), true, true,
        true, !decide ((L (0 + i.toNat)).w < (0 : Int)), decide ((0 : Int) ≤ (L (0 + i.toNat)).r),
        decide ((L (0 + i.toNat)).r < ((m : Nat) : Int)), decide (0 + (L (0 + i.toNat)).r.toNat < m),
        decide ((0 : Int) ≤ (L (0 + i.toNat)).a),
        decide ((L (0 + i.toNat)).a < (((R (0 + (L (0 + i.toNat)).r.toNat)).s.size : Nat) : Int)),
        !bt (R (0 + (L (0 + i.toNat)).r.toNat)).s (L (0 + i.toNat)).a == (32 : Int), true, true,
        bt (R (0 + (L (0 + i.toNat)).r.toNat)).s (L (0 + i.toNat)).a == (9 : Int), true, true,
        true, true, true, !(L (0 + i.toNat)).k == (2 : Int), true, true, true, true, true, true, true, true,
        decide ((0 : Int) ≤ (L (0 + i.toNat)).r), decide ((L (0 + i.toNat)).r < ((m : Nat) : Int)), true, true,
        decide (0 + (L (0 + i.toNat)).r.toNat < m), true, true,
        !!((L (0 + i.toNat)).k == (3 : Int)) ==
              ((R (0 + (L (0 + i.toNat)).r.toNat)).v != (2 : Int)),
        true, true, true, true, true,
        !bt (R (0 + (L (0 + i.toNat)).r.toNat)).s (L (0 + i.toNat)).a == (10 : Int), true, true,
        true, true, true, true, true, true, true, true, !!((L (0 + i.toNat)).k == (4 : Int)) == false, true,
        true, true, !(L (0 + i.toNat)).k == (3 : Int), true, true, true, true, true, true, true, true, true,
        true, !(L (0 + i.toNat)).k == (3 : Int), true, true, true, true, true, true, true, true, true,
        !decide (i > (0 : Int)), true, true, true, true, true, true, true, true, true, true, true, true],
      Ex.normal,
      {
        sl :=
          slots 251
            [(5, AV.c (AC.sl 1 0 m)), (6, AV.c (AC.sl 2 0 ng)),
              (7, I64 ink), (8, I64 (w64 (i + (1 : Int))))],
        h :=
          [some { t := 2, own := false, c := Cont.row 1 K fun j => [Value.int IntKind.i64 (g j)] },
            some
              { t := 83, own := true,
                c :=
                  Cont.row 4 m fun j =>
                    [Value.int IntKind.i64 (R j).n, Value.string (R j).s, Value.int IntKind.i64 (R j).v,
                      Value.int IntKind.i64 (R j).l] },
            some
              { t := 87, own := true,
                c :=
                  Cont.row 4 ng fun j =>
                    [Value.int IntKind.i64 (L j).k, Value.int IntKind.i64 (L j).r, Value.int IntKind.i64 (L j).a,
                      Value.int IntKind.i64 (L j).w] }] }) := by kernel_rfl
theorem wq1_P_9L {K : Nat} {g : Nat → Int} {m : Nat} {R : Nat → Rn} {ng : Nat} {L : Nat → Gl} {ink i : Int} : (rT wqG nol 1 52 (bodyOf Try.f24 0) wqK1 wqK1 (wq1S K g m R ng L ink i)).go [true, true, true, true, false, false, false, false, false, false, false, false, false, false, false, false, false, false, false, false, true, true, false, false, true, false, false, false, false, false, false, false, false, true, true, true, true, true, false, false, false, true, true, true, true, true, true, false, false, false, false, false, true, true, true, true, true, true, true, true, true, true, true, false, false, false, false, false, false, false, false, false, false, false, false, false, false, false, false, false, false, false, false, false, false, false, false, false, false, false, false, false, false, false, false, false, false, false, false, false, false, false, false, false, false, true, true, true, true, true, true, true, true, true, true, true, true, true, false, false, false, false, true, true, false, false, true, false, false, false, false, false, false, false, false, false, false, false, false, false, false, false, true, false, true, false] =
  some
    ([decide (i < ((ng : Nat) : Int)), decide ((0 : Int) ≤ i), decide (i < ((ng : Nat) : Int)), decide (0 + i.toNat < ng),
        !decide ((L (0 + i.toNat)).r < (0 : Int)), true, true, true, true, true,
        !decide ((L (0 + i.toNat)).r ≥ ((m : Nat) : Int)), true, true, true, !decide ((L (0 + i.toNat)).a < (0 : Int)),
        true, true, true, true, true, decide ((0 : Int) ≤ (L (0 + i.toNat)).r),
        decide ((L (0 + i.toNat)).r < ((m : Nat) : Int)), true, true,
        decide (0 + (L (0 + i.toNat)).r.toNat < m), true, true, true,
        !decide ((L (0 + i.toNat)).a ≥ (((R (0 + (L (0 + i.toNat)).r.toNat)).s.size : Nat) : Int)), true, true,
        true, !decide ((L (0 + i.toNat)).w < (0 : Int)), decide ((0 : Int) ≤ (L (0 + i.toNat)).r),
        decide ((L (0 + i.toNat)).r < ((m : Nat) : Int)), decide (0 + (L (0 + i.toNat)).r.toNat < m),
        decide ((0 : Int) ≤ (L (0 + i.toNat)).a),
        decide ((L (0 + i.toNat)).a < (((R (0 + (L (0 + i.toNat)).r.toNat)).s.size : Nat) : Int)),
        !bt (R (0 + (L (0 + i.toNat)).r.toNat)).s (L (0 + i.toNat)).a == (32 : Int), true, true,
        bt (R (0 + (L (0 + i.toNat)).r.toNat)).s (L (0 + i.toNat)).a == (9 : Int), true, true,
        true, true, true, !(L (0 + i.toNat)).k == (2 : Int), true, true, true, true, true, true, true, true,
        decide ((0 : Int) ≤ (L (0 + i.toNat)).r), decide ((L (0 + i.toNat)).r < ((m : Nat) : Int)), true, true,
        decide (0 + (L (0 + i.toNat)).r.toNat < m), true, true,
        !!((L (0 + i.toNat)).k == (3 : Int)) ==
              ((R (0 + (L (0 + i.toNat)).r.toNat)).v != (2 : Int)),
        true, true, true, true, true,
        !bt (R (0 + (L (0 + i.toNat)).r.toNat)).s (L (0 + i.toNat)).a == (10 : Int), true, true,
        true, true, true, true, true, true, true, true, !!((L (0 + i.toNat)).k == (4 : Int)) == false, true,
        true, true, !(L (0 + i.toNat)).k == (3 : Int), true, true, true, true, true, true, true, true, true,
        true, !(L (0 + i.toNat)).k == (3 : Int), true, true, true, true, true, true, true, true, true,
        decide (i > (0 : Int)), true, true, true, decide ((0 : Int) ≤ w64 (i - (1 : Int))),
        decide (w64 (i - (1 : Int)) < ((ng : Nat) : Int)), true, true, decide (0 + (w64 (i - (1 : Int))).toNat < ng), true,
        true, true, true, !decide ((L (0 + (w64 (i - (1 : Int))).toNat)).r > (L (0 + i.toNat)).r), true,
        true, true, decide ((0 : Int) ≤ w64 (i - (1 : Int))), decide (w64 (i - (1 : Int)) < ((ng : Nat) : Int)), true, true,
        decide (0 + (w64 (i - (1 : Int))).toNat < ng), true, true, true, true,
        !(L (0 + (w64 (i - (1 : Int))).toNat)).r == (L (0 + i.toNat)).r, true, true, true, true, true,
        true, true, true, true, true, true, true, true, true],
      Ex.normal,
      {
        sl :=
          slots 251
            [(5, AV.c (AC.sl 1 0 m)), (6, AV.c (AC.sl 2 0 ng)),
              (7, I64 ink), (8, I64 (w64 (i + (1 : Int))))],
        h :=
          [some { t := 2, own := false, c := Cont.row 1 K fun j => [Value.int IntKind.i64 (g j)] },
            some
              { t := 83, own := true,
                c :=
                  Cont.row 4 m fun j =>
                    [Value.int IntKind.i64 (R j).n, Value.string (R j).s, Value.int IntKind.i64 (R j).v,
                      Value.int IntKind.i64 (R j).l] },
            some
              { t := 87, own := true,
                c :=
                  Cont.row 4 ng fun j =>
                    [Value.int IntKind.i64 (L j).k, Value.int IntKind.i64 (L j).r, Value.int IntKind.i64 (L j).a,
                      Value.int IntKind.i64 (L j).w] }] }) := by kernel_rfl
theorem wq1_P_9S {K : Nat} {g : Nat → Int} {m : Nat} {R : Nat → Rn} {ng : Nat} {L : Nat → Gl} {ink i : Int} : (rT wqG nol 1 52 (bodyOf Try.f24 0) wqK1 wqK1 (wq1S K g m R ng L ink i)).go [true, true, true, true, false, false, false, false, false, false, false, false, false, false, false, false, false, false, false, false, true, true, false, false, true, false, false, false, false, false, false, false, false, true, true, true, true, true, false, false, false, true, true, true, true, true, true, false, false, false, false, false, true, true, true, true, true, true, true, true, true, true, true, false, false, false, false, false, false, false, false, false, false, false, false, false, false, false, false, false, false, false, false, false, false, false, false, false, false, false, false, false, false, false, false, false, false, false, false, false, false, false, false, false, false, true, true, true, true, true, true, true, true, true, true, true, true, true, false, false, false, false, true, true, false, false, true, false, false, false, false, true, true, true, true, true, true, true, true, true, true, true, true, false, true, true, false, true, false] =
  some
    ([decide (i < ((ng : Nat) : Int)), decide ((0 : Int) ≤ i), decide (i < ((ng : Nat) : Int)), decide (0 + i.toNat < ng),
        !decide ((L (0 + i.toNat)).r < (0 : Int)), true, true, true, true, true,
        !decide ((L (0 + i.toNat)).r ≥ ((m : Nat) : Int)), true, true, true, !decide ((L (0 + i.toNat)).a < (0 : Int)),
        true, true, true, true, true, decide ((0 : Int) ≤ (L (0 + i.toNat)).r),
        decide ((L (0 + i.toNat)).r < ((m : Nat) : Int)), true, true,
        decide (0 + (L (0 + i.toNat)).r.toNat < m), true, true, true,
        !decide ((L (0 + i.toNat)).a ≥ (((R (0 + (L (0 + i.toNat)).r.toNat)).s.size : Nat) : Int)), true, true,
        true, !decide ((L (0 + i.toNat)).w < (0 : Int)), decide ((0 : Int) ≤ (L (0 + i.toNat)).r),
        decide ((L (0 + i.toNat)).r < ((m : Nat) : Int)), decide (0 + (L (0 + i.toNat)).r.toNat < m),
        decide ((0 : Int) ≤ (L (0 + i.toNat)).a),
        decide ((L (0 + i.toNat)).a < (((R (0 + (L (0 + i.toNat)).r.toNat)).s.size : Nat) : Int)),
        !bt (R (0 + (L (0 + i.toNat)).r.toNat)).s (L (0 + i.toNat)).a == (32 : Int), true, true,
        bt (R (0 + (L (0 + i.toNat)).r.toNat)).s (L (0 + i.toNat)).a == (9 : Int), true, true,
        true, true, true, !(L (0 + i.toNat)).k == (2 : Int), true, true, true, true, true, true, true, true,
        decide ((0 : Int) ≤ (L (0 + i.toNat)).r), decide ((L (0 + i.toNat)).r < ((m : Nat) : Int)), true, true,
        decide (0 + (L (0 + i.toNat)).r.toNat < m), true, true,
        !!((L (0 + i.toNat)).k == (3 : Int)) ==
              ((R (0 + (L (0 + i.toNat)).r.toNat)).v != (2 : Int)),
        true, true, true, true, true,
        !bt (R (0 + (L (0 + i.toNat)).r.toNat)).s (L (0 + i.toNat)).a == (10 : Int), true, true,
        true, true, true, true, true, true, true, true, !!((L (0 + i.toNat)).k == (4 : Int)) == false, true,
        true, true, !(L (0 + i.toNat)).k == (3 : Int), true, true, true, true, true, true, true, true, true,
        true, !(L (0 + i.toNat)).k == (3 : Int), true, true, true, true, true, true, true, true, true,
        decide (i > (0 : Int)), true, true, true, decide ((0 : Int) ≤ w64 (i - (1 : Int))),
        decide (w64 (i - (1 : Int)) < ((ng : Nat) : Int)), true, true, decide (0 + (w64 (i - (1 : Int))).toNat < ng), true,
        true, true, true, !decide ((L (0 + (w64 (i - (1 : Int))).toNat)).r > (L (0 + i.toNat)).r), true,
        true, true, decide ((0 : Int) ≤ w64 (i - (1 : Int))), decide (w64 (i - (1 : Int)) < ((ng : Nat) : Int)), true, true,
        decide (0 + (w64 (i - (1 : Int))).toNat < ng), true, true, true, true,
        (L (0 + (w64 (i - (1 : Int))).toNat)).r == (L (0 + i.toNat)).r, true, true, true,
        decide ((0 : Int) ≤ w64 (i - (1 : Int))), decide (w64 (i - (1 : Int)) < ((ng : Nat) : Int)), true, true,
        decide (0 + (w64 (i - (1 : Int))).toNat < ng), true, true, true, true, true, true, true, true,
        !decide ((L (0 + (w64 (i - (1 : Int))).toNat)).a ≥ (L (0 + i.toNat)).a)],
      Ex.normal,
      {
        sl :=
          slots 251
            [(5, AV.c (AC.sl 1 0 m)), (6, AV.c (AC.sl 2 0 ng)),
              (7, I64 ink), (8, I64 (w64 (i + (1 : Int))))],
        h :=
          [some { t := 2, own := false, c := Cont.row 1 K fun j => [Value.int IntKind.i64 (g j)] },
            some
              { t := 83, own := true,
                c :=
                  Cont.row 4 m fun j =>
                    [Value.int IntKind.i64 (R j).n, Value.string (R j).s, Value.int IntKind.i64 (R j).v,
                      Value.int IntKind.i64 (R j).l] },
            some
              { t := 87, own := true,
                c :=
                  Cont.row 4 ng fun j =>
                    [Value.int IntKind.i64 (L j).k, Value.int IntKind.i64 (L j).r, Value.int IntKind.i64 (L j).a,
                      Value.int IntKind.i64 (L j).w] }] }) := by kernel_rfl
theorem wq1_B2_10L {K : Nat} {g : Nat → Int} {m : Nat} {R : Nat → Rn} {ng : Nat} {L : Nat → Gl} {ink i : Int} : (rT wqG nol 1 52 (bodyOf Try.f24 0) wqK1 wqK1 (wq1S K g m R ng L ink i)).go [true, true, true, true, false, false, false, false, false, false, false, false, false, false, false, false, false, false, false, false, true, true, false, false, true, false, false, false, false, false, false, false, false, true, true, true, true, true, false, false, false, false, false, false, true, true, true, true, true, true, true, false, true, true, true, true, true, true, true, true, true, true, true, false, false, false, false, false, false, true, true, true, true, true, true, true, true, true, true, false, true, false, false, false, false, false, false, false, false, false, false, false, false, false, false, false, false, false, true, true, true, false, false, false, false, false, true, false, true, false, false, false, false, true, true, false, false, true, false, true, false, true, false, false, false, false, true, true, false, false, true, false, true, false, true, false, true, true, true, true, true, true, true, true, true, true, true, true, true, false, false, false, false, true, true, false, false, true, false, false, false, false, false, false, false, false, false, false, false, false, false, false, false, true, false, true, false] =
  some
    ([decide (i < ((ng : Nat) : Int)), decide ((0 : Int) ≤ i), decide (i < ((ng : Nat) : Int)), decide (0 + i.toNat < ng),
        !decide ((L (0 + i.toNat)).r < (0 : Int)), true, true, true, true, true,
        !decide ((L (0 + i.toNat)).r ≥ ((m : Nat) : Int)), true, true, true, !decide ((L (0 + i.toNat)).a < (0 : Int)),
        true, true, true, true, true, decide ((0 : Int) ≤ (L (0 + i.toNat)).r),
        decide ((L (0 + i.toNat)).r < ((m : Nat) : Int)), true, true,
        decide (0 + (L (0 + i.toNat)).r.toNat < m), true, true, true,
        !decide ((L (0 + i.toNat)).a ≥ (((R (0 + (L (0 + i.toNat)).r.toNat)).s.size : Nat) : Int)), true, true,
        true, !decide ((L (0 + i.toNat)).w < (0 : Int)), decide ((0 : Int) ≤ (L (0 + i.toNat)).r),
        decide ((L (0 + i.toNat)).r < ((m : Nat) : Int)), decide (0 + (L (0 + i.toNat)).r.toNat < m),
        decide ((0 : Int) ≤ (L (0 + i.toNat)).a),
        decide ((L (0 + i.toNat)).a < (((R (0 + (L (0 + i.toNat)).r.toNat)).s.size : Nat) : Int)),
        !bt (R (0 + (L (0 + i.toNat)).r.toNat)).s (L (0 + i.toNat)).a == (32 : Int), true, true,
        !bt (R (0 + (L (0 + i.toNat)).r.toNat)).s (L (0 + i.toNat)).a == (9 : Int), true, true,
        bt (R (0 + (L (0 + i.toNat)).r.toNat)).s (L (0 + i.toNat)).a == (10 : Int), true, true,
        (L (0 + i.toNat)).k == (2 : Int), true, true, true, true, true, true, true, true,
        decide ((0 : Int) ≤ (L (0 + i.toNat)).r), decide ((L (0 + i.toNat)).r < ((m : Nat) : Int)), true, true,
        decide (0 + (L (0 + i.toNat)).r.toNat < m), true, true,
        !!true == ((R (0 + (L (0 + i.toNat)).r.toNat)).v != (2 : Int)), true, true, true, true, true,
        bt (R (0 + (L (0 + i.toNat)).r.toNat)).s (L (0 + i.toNat)).a == (10 : Int), true, true,
        true, decide ((0 : Int) ≤ (L (0 + i.toNat)).r), decide ((L (0 + i.toNat)).r < ((m : Nat) : Int)), true, true,
        decide (0 + (L (0 + i.toNat)).r.toNat < m), true, true, true, true, true,
        !!((L (0 + i.toNat)).k == (4 : Int)) ==
              ((R (0 + (L (0 + i.toNat)).r.toNat)).v == (2 : Int)),
        true, true, true, !(L (0 + i.toNat)).k == (3 : Int), true, true, true, true, true, true, true, true,
        true, true, true, true, true, !i == (0 : Int), true, true, true, true, true, true, true,
        !w64 (i + (1 : Int)) == ((ng : Nat) : Int), true, true, true, decide ((0 : Int) ≤ w64 (i - (1 : Int))),
        decide (w64 (i - (1 : Int)) < ((ng : Nat) : Int)), true, true, decide (0 + (w64 (i - (1 : Int))).toNat < ng), true,
        true, true, true, !(L (0 + (w64 (i - (1 : Int))).toNat)).k != (1 : Int), true, true, true,
        decide ((0 : Int) ≤ w64 (i + (1 : Int))), decide (w64 (i + (1 : Int)) < ((ng : Nat) : Int)), true, true,
        decide (0 + (w64 (i + (1 : Int))).toNat < ng), true, true, true, true,
        !(L (0 + (w64 (i + (1 : Int))).toNat)).k != (1 : Int), decide (i > (0 : Int)), true, true, true,
        decide ((0 : Int) ≤ w64 (i - (1 : Int))), decide (w64 (i - (1 : Int)) < ((ng : Nat) : Int)), true, true,
        decide (0 + (w64 (i - (1 : Int))).toNat < ng), true, true, true, true,
        !decide ((L (0 + (w64 (i - (1 : Int))).toNat)).r > (L (0 + i.toNat)).r), true, true, true,
        decide ((0 : Int) ≤ w64 (i - (1 : Int))), decide (w64 (i - (1 : Int)) < ((ng : Nat) : Int)), true, true,
        decide (0 + (w64 (i - (1 : Int))).toNat < ng), true, true, true, true,
        !(L (0 + (w64 (i - (1 : Int))).toNat)).r == (L (0 + i.toNat)).r, true, true, true, true, true,
        true, true, true, true, true, true, true, true, true],
      Ex.normal,
      {
        sl :=
          slots 251
            [(5, AV.c (AC.sl 1 0 m)), (6, AV.c (AC.sl 2 0 ng)),
              (7, I64 ink), (8, I64 (w64 (i + (1 : Int))))],
        h :=
          [some { t := 2, own := false, c := Cont.row 1 K fun j => [Value.int IntKind.i64 (g j)] },
            some
              { t := 83, own := true,
                c :=
                  Cont.row 4 m fun j =>
                    [Value.int IntKind.i64 (R j).n, Value.string (R j).s, Value.int IntKind.i64 (R j).v,
                      Value.int IntKind.i64 (R j).l] },
            some
              { t := 87, own := true,
                c :=
                  Cont.row 4 ng fun j =>
                    [Value.int IntKind.i64 (L j).k, Value.int IntKind.i64 (L j).r, Value.int IntKind.i64 (L j).a,
                      Value.int IntKind.i64 (L j).w] }] }) := by kernel_rfl
theorem wq1_B3_10L {K : Nat} {g : Nat → Int} {m : Nat} {R : Nat → Rn} {ng : Nat} {L : Nat → Gl} {ink i : Int} : (rT wqG nol 1 52 (bodyOf Try.f24 0) wqK1 wqK1 (wq1S K g m R ng L ink i)).go [true, true, true, true, false, false, false, false, false, false, false, false, false, false, false, false, false, false, false, false, true, true, false, false, true, false, false, false, false, false, false, false, false, true, true, true, true, true, false, false, false, false, false, false, true, true, true, false, false, false, false, false, true, true, true, true, true, true, true, true, true, true, true, false, false, false, false, false, false, true, true, true, true, true, true, true, true, true, true, false, true, false, false, false, false, false, false, true, true, true, true, true, true, true, true, true, true, false, true, false, false, true, true, true, false, false, false, false, false, true, false, true, false, false, false, false, true, true, false, false, true, false, true, false, true, false, false, false, false, true, true, false, false, true, false, true, false, true, false, true, true, true, true, true, true, true, true, true, true, true, true, true, false, false, false, false, true, true, false, false, true, false, false, false, false, false, false, false, false, false, false, false, false, false, false, false, true, false, true, false] =
  some
    ([decide (i < ((ng : Nat) : Int)), decide ((0 : Int) ≤ i), decide (i < ((ng : Nat) : Int)), decide (0 + i.toNat < ng),
        !decide ((L (0 + i.toNat)).r < (0 : Int)), true, true, true, true, true,
        !decide ((L (0 + i.toNat)).r ≥ ((m : Nat) : Int)), true, true, true, !decide ((L (0 + i.toNat)).a < (0 : Int)),
        true, true, true, true, true, decide ((0 : Int) ≤ (L (0 + i.toNat)).r),
        decide ((L (0 + i.toNat)).r < ((m : Nat) : Int)), true, true,
        decide (0 + (L (0 + i.toNat)).r.toNat < m), true, true, true,
        !decide ((L (0 + i.toNat)).a ≥ (((R (0 + (L (0 + i.toNat)).r.toNat)).s.size : Nat) : Int)), true, true,
        true, !decide ((L (0 + i.toNat)).w < (0 : Int)), decide ((0 : Int) ≤ (L (0 + i.toNat)).r),
        decide ((L (0 + i.toNat)).r < ((m : Nat) : Int)), decide (0 + (L (0 + i.toNat)).r.toNat < m),
        decide ((0 : Int) ≤ (L (0 + i.toNat)).a),
        decide ((L (0 + i.toNat)).a < (((R (0 + (L (0 + i.toNat)).r.toNat)).s.size : Nat) : Int)),
        !bt (R (0 + (L (0 + i.toNat)).r.toNat)).s (L (0 + i.toNat)).a == (32 : Int), true, true,
        !bt (R (0 + (L (0 + i.toNat)).r.toNat)).s (L (0 + i.toNat)).a == (9 : Int), true, true,
        bt (R (0 + (L (0 + i.toNat)).r.toNat)).s (L (0 + i.toNat)).a == (10 : Int), true, true,
        !(L (0 + i.toNat)).k == (2 : Int), true, true, true, true, true, true, true, true,
        decide ((0 : Int) ≤ (L (0 + i.toNat)).r), decide ((L (0 + i.toNat)).r < ((m : Nat) : Int)), true, true,
        decide (0 + (L (0 + i.toNat)).r.toNat < m), true, true,
        !!((L (0 + i.toNat)).k == (3 : Int)) ==
              ((R (0 + (L (0 + i.toNat)).r.toNat)).v != (2 : Int)),
        true, true, true, true, true,
        bt (R (0 + (L (0 + i.toNat)).r.toNat)).s (L (0 + i.toNat)).a == (10 : Int), true, true,
        true, decide ((0 : Int) ≤ (L (0 + i.toNat)).r), decide ((L (0 + i.toNat)).r < ((m : Nat) : Int)), true, true,
        decide (0 + (L (0 + i.toNat)).r.toNat < m), true, true, true, true, true,
        !!((L (0 + i.toNat)).k == (4 : Int)) ==
              ((R (0 + (L (0 + i.toNat)).r.toNat)).v == (2 : Int)),
        true, true, true, (L (0 + i.toNat)).k == (3 : Int), true, true, true,
        decide ((0 : Int) ≤ (L (0 + i.toNat)).r), decide ((L (0 + i.toNat)).r < ((m : Nat) : Int)), true, true,
        decide (0 + (L (0 + i.toNat)).r.toNat < m), true, true, true, true,
        !(R (0 + (L (0 + i.toNat)).r.toNat)).v != (1 : Int), (L (0 + i.toNat)).k == (3 : Int),
        true, true, !i == (0 : Int), true, true, true, true, true, true, true, !w64 (i + (1 : Int)) == ((ng : Nat) : Int), true, true,
        true, decide ((0 : Int) ≤ w64 (i - (1 : Int))), decide (w64 (i - (1 : Int)) < ((ng : Nat) : Int)), true, true,
        decide (0 + (w64 (i - (1 : Int))).toNat < ng), true, true, true, true,
        !(L (0 + (w64 (i - (1 : Int))).toNat)).k != (1 : Int), true, true, true,
        decide ((0 : Int) ≤ w64 (i + (1 : Int))), decide (w64 (i + (1 : Int)) < ((ng : Nat) : Int)), true, true,
        decide (0 + (w64 (i + (1 : Int))).toNat < ng), true, true, true, true,
        !(L (0 + (w64 (i + (1 : Int))).toNat)).k != (1 : Int), decide (i > (0 : Int)), true, true, true,
        decide ((0 : Int) ≤ w64 (i - (1 : Int))), decide (w64 (i - (1 : Int)) < ((ng : Nat) : Int)), true, true,
        decide (0 + (w64 (i - (1 : Int))).toNat < ng), true, true, true, true,
        !decide ((L (0 + (w64 (i - (1 : Int))).toNat)).r > (L (0 + i.toNat)).r), true, true, true,
        decide ((0 : Int) ≤ w64 (i - (1 : Int))), decide (w64 (i - (1 : Int)) < ((ng : Nat) : Int)), true, true,
        decide (0 + (w64 (i - (1 : Int))).toNat < ng), true, true, true, true,
        !(L (0 + (w64 (i - (1 : Int))).toNat)).r == (L (0 + i.toNat)).r, true, true, true, true, true,
        true, true, true, true, true, true, true, true, true],
      Ex.normal,
      {
        sl :=
          slots 251
            [(5, AV.c (AC.sl 1 0 m)), (6, AV.c (AC.sl 2 0 ng)),
              (7, I64 ink), (8, I64 (w64 (i + (1 : Int))))],
        h :=
          [some { t := 2, own := false, c := Cont.row 1 K fun j => [Value.int IntKind.i64 (g j)] },
            some
              { t := 83, own := true,
                c :=
                  Cont.row 4 m fun j =>
                    [Value.int IntKind.i64 (R j).n, Value.string (R j).s, Value.int IntKind.i64 (R j).v,
                      Value.int IntKind.i64 (R j).l] },
            some
              { t := 87, own := true,
                c :=
                  Cont.row 4 ng fun j =>
                    [Value.int IntKind.i64 (L j).k, Value.int IntKind.i64 (L j).r, Value.int IntKind.i64 (L j).a,
                      Value.int IntKind.i64 (L j).w] }] }) := by kernel_rfl
theorem wq1_B2_10S {K : Nat} {g : Nat → Int} {m : Nat} {R : Nat → Rn} {ng : Nat} {L : Nat → Gl} {ink i : Int} : (rT wqG nol 1 52 (bodyOf Try.f24 0) wqK1 wqK1 (wq1S K g m R ng L ink i)).go [true, true, true, true, false, false, false, false, false, false, false, false, false, false, false, false, false, false, false, false, true, true, false, false, true, false, false, false, false, false, false, false, false, true, true, true, true, true, false, false, false, false, false, false, true, true, true, true, true, true, true, false, true, true, true, true, true, true, true, true, true, true, true, false, false, false, false, false, false, true, true, true, true, true, true, true, true, true, true, false, true, false, false, false, false, false, false, false, false, false, false, false, false, false, false, false, false, false, true, true, true, false, false, false, false, false, true, false, true, false, false, false, false, true, true, false, false, true, false, true, false, true, false, false, false, false, true, true, false, false, true, false, true, false, true, false, true, true, true, true, true, true, true, true, true, true, true, true, true, false, false, false, false, true, true, false, false, true, false, false, false, false, true, true, true, true, true, true, true, true, true, true, true, true, false, true, true, false, true, false] =
  some
    ([decide (i < ((ng : Nat) : Int)), decide ((0 : Int) ≤ i), decide (i < ((ng : Nat) : Int)), decide (0 + i.toNat < ng),
        !decide ((L (0 + i.toNat)).r < (0 : Int)), true, true, true, true, true,
        !decide ((L (0 + i.toNat)).r ≥ ((m : Nat) : Int)), true, true, true, !decide ((L (0 + i.toNat)).a < (0 : Int)),
        true, true, true, true, true, decide ((0 : Int) ≤ (L (0 + i.toNat)).r),
        decide ((L (0 + i.toNat)).r < ((m : Nat) : Int)), true, true,
        decide (0 + (L (0 + i.toNat)).r.toNat < m), true, true, true,
        !decide ((L (0 + i.toNat)).a ≥ (((R (0 + (L (0 + i.toNat)).r.toNat)).s.size : Nat) : Int)), true, true,
        true, !decide ((L (0 + i.toNat)).w < (0 : Int)), decide ((0 : Int) ≤ (L (0 + i.toNat)).r),
        decide ((L (0 + i.toNat)).r < ((m : Nat) : Int)), decide (0 + (L (0 + i.toNat)).r.toNat < m),
        decide ((0 : Int) ≤ (L (0 + i.toNat)).a),
        decide ((L (0 + i.toNat)).a < (((R (0 + (L (0 + i.toNat)).r.toNat)).s.size : Nat) : Int)),
        !bt (R (0 + (L (0 + i.toNat)).r.toNat)).s (L (0 + i.toNat)).a == (32 : Int), true, true,
        !bt (R (0 + (L (0 + i.toNat)).r.toNat)).s (L (0 + i.toNat)).a == (9 : Int), true, true,
        bt (R (0 + (L (0 + i.toNat)).r.toNat)).s (L (0 + i.toNat)).a == (10 : Int), true, true,
        (L (0 + i.toNat)).k == (2 : Int), true, true, true, true, true, true, true, true,
        decide ((0 : Int) ≤ (L (0 + i.toNat)).r), decide ((L (0 + i.toNat)).r < ((m : Nat) : Int)), true, true,
        decide (0 + (L (0 + i.toNat)).r.toNat < m), true, true,
        !!true == ((R (0 + (L (0 + i.toNat)).r.toNat)).v != (2 : Int)), true, true, true, true, true,
        bt (R (0 + (L (0 + i.toNat)).r.toNat)).s (L (0 + i.toNat)).a == (10 : Int), true, true,
        true, decide ((0 : Int) ≤ (L (0 + i.toNat)).r), decide ((L (0 + i.toNat)).r < ((m : Nat) : Int)), true, true,
        decide (0 + (L (0 + i.toNat)).r.toNat < m), true, true, true, true, true,
        !!((L (0 + i.toNat)).k == (4 : Int)) ==
              ((R (0 + (L (0 + i.toNat)).r.toNat)).v == (2 : Int)),
        true, true, true, !(L (0 + i.toNat)).k == (3 : Int), true, true, true, true, true, true, true, true,
        true, true, true, true, true, !i == (0 : Int), true, true, true, true, true, true, true,
        !w64 (i + (1 : Int)) == ((ng : Nat) : Int), true, true, true, decide ((0 : Int) ≤ w64 (i - (1 : Int))),
        decide (w64 (i - (1 : Int)) < ((ng : Nat) : Int)), true, true, decide (0 + (w64 (i - (1 : Int))).toNat < ng), true,
        true, true, true, !(L (0 + (w64 (i - (1 : Int))).toNat)).k != (1 : Int), true, true, true,
        decide ((0 : Int) ≤ w64 (i + (1 : Int))), decide (w64 (i + (1 : Int)) < ((ng : Nat) : Int)), true, true,
        decide (0 + (w64 (i + (1 : Int))).toNat < ng), true, true, true, true,
        !(L (0 + (w64 (i + (1 : Int))).toNat)).k != (1 : Int), decide (i > (0 : Int)), true, true, true,
        decide ((0 : Int) ≤ w64 (i - (1 : Int))), decide (w64 (i - (1 : Int)) < ((ng : Nat) : Int)), true, true,
        decide (0 + (w64 (i - (1 : Int))).toNat < ng), true, true, true, true,
        !decide ((L (0 + (w64 (i - (1 : Int))).toNat)).r > (L (0 + i.toNat)).r), true, true, true,
        decide ((0 : Int) ≤ w64 (i - (1 : Int))), decide (w64 (i - (1 : Int)) < ((ng : Nat) : Int)), true, true,
        decide (0 + (w64 (i - (1 : Int))).toNat < ng), true, true, true, true,
        (L (0 + (w64 (i - (1 : Int))).toNat)).r == (L (0 + i.toNat)).r, true, true, true,
        decide ((0 : Int) ≤ w64 (i - (1 : Int))), decide (w64 (i - (1 : Int)) < ((ng : Nat) : Int)), true, true,
        decide (0 + (w64 (i - (1 : Int))).toNat < ng), true, true, true, true, true, true, true, true,
        !decide ((L (0 + (w64 (i - (1 : Int))).toNat)).a ≥ (L (0 + i.toNat)).a)],
      Ex.normal,
      {
        sl :=
          slots 251
            [(5, AV.c (AC.sl 1 0 m)), (6, AV.c (AC.sl 2 0 ng)),
              (7, I64 ink), (8, I64 (w64 (i + (1 : Int))))],
        h :=
          [some { t := 2, own := false, c := Cont.row 1 K fun j => [Value.int IntKind.i64 (g j)] },
            some
              { t := 83, own := true,
                c :=
                  Cont.row 4 m fun j =>
                    [Value.int IntKind.i64 (R j).n, Value.string (R j).s, Value.int IntKind.i64 (R j).v,
                      Value.int IntKind.i64 (R j).l] },
            some
              { t := 87, own := true,
                c :=
                  Cont.row 4 ng fun j =>
                    [Value.int IntKind.i64 (L j).k, Value.int IntKind.i64 (L j).r, Value.int IntKind.i64 (L j).a,
                      Value.int IntKind.i64 (L j).w] }] }) := by kernel_rfl
theorem wq1_B3_10S {K : Nat} {g : Nat → Int} {m : Nat} {R : Nat → Rn} {ng : Nat} {L : Nat → Gl} {ink i : Int} : (rT wqG nol 1 52 (bodyOf Try.f24 0) wqK1 wqK1 (wq1S K g m R ng L ink i)).go [true, true, true, true, false, false, false, false, false, false, false, false, false, false, false, false, false, false, false, false, true, true, false, false, true, false, false, false, false, false, false, false, false, true, true, true, true, true, false, false, false, false, false, false, true, true, true, false, false, false, false, false, true, true, true, true, true, true, true, true, true, true, true, false, false, false, false, false, false, true, true, true, true, true, true, true, true, true, true, false, true, false, false, false, false, false, false, true, true, true, true, true, true, true, true, true, true, false, true, false, false, true, true, true, false, false, false, false, false, true, false, true, false, false, false, false, true, true, false, false, true, false, true, false, true, false, false, false, false, true, true, false, false, true, false, true, false, true, false, true, true, true, true, true, true, true, true, true, true, true, true, true, false, false, false, false, true, true, false, false, true, false, false, false, false, true, true, true, true, true, true, true, true, true, true, true, true, false, true, true, false, true, false] =
  some
    ([decide (i < ((ng : Nat) : Int)), decide ((0 : Int) ≤ i), decide (i < ((ng : Nat) : Int)), decide (0 + i.toNat < ng),
        !decide ((L (0 + i.toNat)).r < (0 : Int)), true, true, true, true, true,
        !decide ((L (0 + i.toNat)).r ≥ ((m : Nat) : Int)), true, true, true, !decide ((L (0 + i.toNat)).a < (0 : Int)),
        true, true, true, true, true, decide ((0 : Int) ≤ (L (0 + i.toNat)).r),
        decide ((L (0 + i.toNat)).r < ((m : Nat) : Int)), true, true,
        decide (0 + (L (0 + i.toNat)).r.toNat < m), true, true, true,
        !decide ((L (0 + i.toNat)).a ≥ (((R (0 + (L (0 + i.toNat)).r.toNat)).s.size : Nat) : Int)), true, true,
        true, !decide ((L (0 + i.toNat)).w < (0 : Int)), decide ((0 : Int) ≤ (L (0 + i.toNat)).r),
        decide ((L (0 + i.toNat)).r < ((m : Nat) : Int)), decide (0 + (L (0 + i.toNat)).r.toNat < m),
        decide ((0 : Int) ≤ (L (0 + i.toNat)).a),
        decide ((L (0 + i.toNat)).a < (((R (0 + (L (0 + i.toNat)).r.toNat)).s.size : Nat) : Int)),
        !bt (R (0 + (L (0 + i.toNat)).r.toNat)).s (L (0 + i.toNat)).a == (32 : Int), true, true,
        !bt (R (0 + (L (0 + i.toNat)).r.toNat)).s (L (0 + i.toNat)).a == (9 : Int), true, true,
        bt (R (0 + (L (0 + i.toNat)).r.toNat)).s (L (0 + i.toNat)).a == (10 : Int), true, true,
        !(L (0 + i.toNat)).k == (2 : Int), true, true, true, true, true, true, true, true,
        decide ((0 : Int) ≤ (L (0 + i.toNat)).r), decide ((L (0 + i.toNat)).r < ((m : Nat) : Int)), true, true,
        decide (0 + (L (0 + i.toNat)).r.toNat < m), true, true,
        !!((L (0 + i.toNat)).k == (3 : Int)) ==
              ((R (0 + (L (0 + i.toNat)).r.toNat)).v != (2 : Int)),
        true, true, true, true, true,
        bt (R (0 + (L (0 + i.toNat)).r.toNat)).s (L (0 + i.toNat)).a == (10 : Int), true, true,
        true, decide ((0 : Int) ≤ (L (0 + i.toNat)).r), decide ((L (0 + i.toNat)).r < ((m : Nat) : Int)), true, true,
        decide (0 + (L (0 + i.toNat)).r.toNat < m), true, true, true, true, true,
        !!((L (0 + i.toNat)).k == (4 : Int)) ==
              ((R (0 + (L (0 + i.toNat)).r.toNat)).v == (2 : Int)),
        true, true, true, (L (0 + i.toNat)).k == (3 : Int), true, true, true,
        decide ((0 : Int) ≤ (L (0 + i.toNat)).r), decide ((L (0 + i.toNat)).r < ((m : Nat) : Int)), true, true,
        decide (0 + (L (0 + i.toNat)).r.toNat < m), true, true, true, true,
        !(R (0 + (L (0 + i.toNat)).r.toNat)).v != (1 : Int), (L (0 + i.toNat)).k == (3 : Int),
        true, true, !i == (0 : Int), true, true, true, true, true, true, true, !w64 (i + (1 : Int)) == ((ng : Nat) : Int), true, true,
        true, decide ((0 : Int) ≤ w64 (i - (1 : Int))), decide (w64 (i - (1 : Int)) < ((ng : Nat) : Int)), true, true,
        decide (0 + (w64 (i - (1 : Int))).toNat < ng), true, true, true, true,
        !(L (0 + (w64 (i - (1 : Int))).toNat)).k != (1 : Int), true, true, true,
        decide ((0 : Int) ≤ w64 (i + (1 : Int))), decide (w64 (i + (1 : Int)) < ((ng : Nat) : Int)), true, true,
        decide (0 + (w64 (i + (1 : Int))).toNat < ng), true, true, true, true,
        !(L (0 + (w64 (i + (1 : Int))).toNat)).k != (1 : Int), decide (i > (0 : Int)), true, true, true,
        decide ((0 : Int) ≤ w64 (i - (1 : Int))), decide (w64 (i - (1 : Int)) < ((ng : Nat) : Int)), true, true,
        decide (0 + (w64 (i - (1 : Int))).toNat < ng), true, true, true, true,
        !decide ((L (0 + (w64 (i - (1 : Int))).toNat)).r > (L (0 + i.toNat)).r), true, true, true,
        decide ((0 : Int) ≤ w64 (i - (1 : Int))), decide (w64 (i - (1 : Int)) < ((ng : Nat) : Int)), true, true,
        decide (0 + (w64 (i - (1 : Int))).toNat < ng), true, true, true, true,
        (L (0 + (w64 (i - (1 : Int))).toNat)).r == (L (0 + i.toNat)).r, true, true, true,
        decide ((0 : Int) ≤ w64 (i - (1 : Int))), decide (w64 (i - (1 : Int)) < ((ng : Nat) : Int)), true, true,
        decide (0 + (w64 (i - (1 : Int))).toNat < ng), true, true, true, true, true, true, true, true,
        !decide ((L (0 + (w64 (i - (1 : Int))).toNat)).a ≥ (L (0 + i.toNat)).a)],
      Ex.normal,
      {
        sl :=
          slots 251
            [(5, AV.c (AC.sl 1 0 m)), (6, AV.c (AC.sl 2 0 ng)),
              (7, I64 ink), (8, I64 (w64 (i + (1 : Int))))],
        h :=
          [some { t := 2, own := false, c := Cont.row 1 K fun j => [Value.int IntKind.i64 (g j)] },
            some
              { t := 83, own := true,
                c :=
                  Cont.row 4 m fun j =>
                    [Value.int IntKind.i64 (R j).n, Value.string (R j).s, Value.int IntKind.i64 (R j).v,
                      Value.int IntKind.i64 (R j).l] },
            some
              { t := 87, own := true,
                c :=
                  Cont.row 4 ng fun j =>
                    [Value.int IntKind.i64 (L j).k, Value.int IntKind.i64 (L j).r, Value.int IntKind.i64 (L j).a,
                      Value.int IntKind.i64 (L j).w] }] }) := by kernel_rfl
theorem wq1_P_100 {K : Nat} {g : Nat → Int} {m : Nat} {R : Nat → Rn} {ng : Nat} {L : Nat → Gl} {ink i : Int} : (rT wqG nol 1 52 (bodyOf Try.f24 0) wqK1 wqK1 (wq1S K g m R ng L ink i)).go [true, true, true, true, false, false, false, false, false, false, false, false, false, false, false, false, false, false, false, false, true, true, false, false, true, false, false, false, false, false, false, false, false, true, true, true, true, true, false, false, false, false, false, false, true, true, true, false, false, false, false, false, true, true, true, true, true, true, true, true, true, true, true, false, false, false, false, false, false, true, true, true, true, true, true, true, true, true, true, false, true, false, false, false, false, false, false, false, false, false, false, false, false, false, false, false, false, false, false, false, false, false, false, false, false, false, false, false, false, false, false, false, false, false, false, false, false, false, false, false, false] =
  some
    ([decide (i < ((ng : Nat) : Int)), decide ((0 : Int) ≤ i), decide (i < ((ng : Nat) : Int)), decide (0 + i.toNat < ng),
        !decide ((L (0 + i.toNat)).r < (0 : Int)), true, true, true, true, true,
        !decide ((L (0 + i.toNat)).r ≥ ((m : Nat) : Int)), true, true, true, !decide ((L (0 + i.toNat)).a < (0 : Int)),
        true, true, true, true, true, decide ((0 : Int) ≤ (L (0 + i.toNat)).r),
        decide ((L (0 + i.toNat)).r < ((m : Nat) : Int)), true, true,
        decide (0 + (L (0 + i.toNat)).r.toNat < m), true, true, true,
        !decide ((L (0 + i.toNat)).a ≥ (((R (0 + (L (0 + i.toNat)).r.toNat)).s.size : Nat) : Int)), true, true,
        true, !decide ((L (0 + i.toNat)).w < (0 : Int)), decide ((0 : Int) ≤ (L (0 + i.toNat)).r),
        decide ((L (0 + i.toNat)).r < ((m : Nat) : Int)), decide (0 + (L (0 + i.toNat)).r.toNat < m),
        decide ((0 : Int) ≤ (L (0 + i.toNat)).a),
        decide ((L (0 + i.toNat)).a < (((R (0 + (L (0 + i.toNat)).r.toNat)).s.size : Nat) : Int)),
        !bt (R (0 + (L (0 + i.toNat)).r.toNat)).s (L (0 + i.toNat)).a == (32 : Int), true, true,
        !bt (R (0 + (L (0 + i.toNat)).r.toNat)).s (L (0 + i.toNat)).a == (9 : Int), true, true,
        bt (R (0 + (L (0 + i.toNat)).r.toNat)).s (L (0 + i.toNat)).a == (10 : Int), true, true,
        !(L (0 + i.toNat)).k == (2 : Int), true, true, true, true, true, true, true, true,
        decide ((0 : Int) ≤ (L (0 + i.toNat)).r), decide ((L (0 + i.toNat)).r < ((m : Nat) : Int)), true, true,
        decide (0 + (L (0 + i.toNat)).r.toNat < m), true, true,
        !!((L (0 + i.toNat)).k == (3 : Int)) ==
              ((R (0 + (L (0 + i.toNat)).r.toNat)).v != (2 : Int)),
        true, true, true, true, true,
        bt (R (0 + (L (0 + i.toNat)).r.toNat)).s (L (0 + i.toNat)).a == (10 : Int), true, true,
        true, decide ((0 : Int) ≤ (L (0 + i.toNat)).r), decide ((L (0 + i.toNat)).r < ((m : Nat) : Int)), true, true,
        decide (0 + (L (0 + i.toNat)).r.toNat < m), true, true, true, true, true,
        !!((L (0 + i.toNat)).k == (4 : Int)) ==
              ((R (0 + (L (0 + i.toNat)).r.toNat)).v == (2 : Int)),
        true, true, true, !(L (0 + i.toNat)).k == (3 : Int), true, true, true, true, true, true, true, true,
        true, true, !(L (0 + i.toNat)).k == (3 : Int), true, true, true, true, true, true, true, true, true,
        !decide (i > (0 : Int)), true, true, true, true, true, true, true, true, true, true, true, true],
      Ex.normal,
      {
        sl :=
          slots 251
            [(5, AV.c (AC.sl 1 0 m)), (6, AV.c (AC.sl 2 0 ng)),
              (7, I64 ink), (8, I64 (w64 (i + (1 : Int))))],
        h :=
          [some { t := 2, own := false, c := Cont.row 1 K fun j => [Value.int IntKind.i64 (g j)] },
            some
              { t := 83, own := true,
                c :=
                  Cont.row 4 m fun j =>
                    [Value.int IntKind.i64 (R j).n, Value.string (R j).s, Value.int IntKind.i64 (R j).v,
                      Value.int IntKind.i64 (R j).l] },
            some
              { t := 87, own := true,
                c :=
                  Cont.row 4 ng fun j =>
                    [Value.int IntKind.i64 (L j).k, Value.int IntKind.i64 (L j).r, Value.int IntKind.i64 (L j).a,
                      Value.int IntKind.i64 (L j).w] }] }) := by kernel_rfl
theorem wq1_P_10L {K : Nat} {g : Nat → Int} {m : Nat} {R : Nat → Rn} {ng : Nat} {L : Nat → Gl} {ink i : Int} : (rT wqG nol 1 52 (bodyOf Try.f24 0) wqK1 wqK1 (wq1S K g m R ng L ink i)).go [true, true, true, true, false, false, false, false, false, false, false, false, false, false, false, false, false, false, false, false, true, true, false, false, true, false, false, false, false, false, false, false, false, true, true, true, true, true, false, false, false, false, false, false, true, true, true, false, false, false, false, false, true, true, true, true, true, true, true, true, true, true, true, false, false, false, false, false, false, true, true, true, true, true, true, true, true, true, true, false, true, false, false, false, false, false, false, false, false, false, false, false, false, false, false, false, false, false, false, false, false, false, false, false, false, false, false, false, true, true, true, true, true, true, true, true, true, true, true, true, true, false, false, false, false, true, true, false, false, true, false, false, false, false, false, false, false, false, false, false, false, false, false, false, false, true, false, true, false] =
  some
    ([decide (i < ((ng : Nat) : Int)), decide ((0 : Int) ≤ i), decide (i < ((ng : Nat) : Int)), decide (0 + i.toNat < ng),
        !decide ((L (0 + i.toNat)).r < (0 : Int)), true, true, true, true, true,
        !decide ((L (0 + i.toNat)).r ≥ ((m : Nat) : Int)), true, true, true, !decide ((L (0 + i.toNat)).a < (0 : Int)),
        true, true, true, true, true, decide ((0 : Int) ≤ (L (0 + i.toNat)).r),
        decide ((L (0 + i.toNat)).r < ((m : Nat) : Int)), true, true,
        decide (0 + (L (0 + i.toNat)).r.toNat < m), true, true, true,
        !decide ((L (0 + i.toNat)).a ≥ (((R (0 + (L (0 + i.toNat)).r.toNat)).s.size : Nat) : Int)), true, true,
        true, !decide ((L (0 + i.toNat)).w < (0 : Int)), decide ((0 : Int) ≤ (L (0 + i.toNat)).r),
        decide ((L (0 + i.toNat)).r < ((m : Nat) : Int)), decide (0 + (L (0 + i.toNat)).r.toNat < m),
        decide ((0 : Int) ≤ (L (0 + i.toNat)).a),
        decide ((L (0 + i.toNat)).a < (((R (0 + (L (0 + i.toNat)).r.toNat)).s.size : Nat) : Int)),
        !bt (R (0 + (L (0 + i.toNat)).r.toNat)).s (L (0 + i.toNat)).a == (32 : Int), true, true,
        !bt (R (0 + (L (0 + i.toNat)).r.toNat)).s (L (0 + i.toNat)).a == (9 : Int), true, true,
        bt (R (0 + (L (0 + i.toNat)).r.toNat)).s (L (0 + i.toNat)).a == (10 : Int), true, true,
        !(L (0 + i.toNat)).k == (2 : Int), true, true, true, true, true, true, true, true,
        decide ((0 : Int) ≤ (L (0 + i.toNat)).r), decide ((L (0 + i.toNat)).r < ((m : Nat) : Int)), true, true,
        decide (0 + (L (0 + i.toNat)).r.toNat < m), true, true,
        !!((L (0 + i.toNat)).k == (3 : Int)) ==
              ((R (0 + (L (0 + i.toNat)).r.toNat)).v != (2 : Int)),
        true, true, true, true, true,
        bt (R (0 + (L (0 + i.toNat)).r.toNat)).s (L (0 + i.toNat)).a == (10 : Int), true, true,
        true, decide ((0 : Int) ≤ (L (0 + i.toNat)).r), decide ((L (0 + i.toNat)).r < ((m : Nat) : Int)), true, true,
        decide (0 + (L (0 + i.toNat)).r.toNat < m), true, true, true, true, true,
        !!((L (0 + i.toNat)).k == (4 : Int)) ==
              ((R (0 + (L (0 + i.toNat)).r.toNat)).v == (2 : Int)),
        true, true, true, !(L (0 + i.toNat)).k == (3 : Int), true, true, true, true, true, true, true, true,
        true, true, !(L (0 + i.toNat)).k == (3 : Int), true, true, true, true, true, true, true, true, true,
        decide (i > (0 : Int)), true, true, true, decide ((0 : Int) ≤ w64 (i - (1 : Int))),
        decide (w64 (i - (1 : Int)) < ((ng : Nat) : Int)), true, true, decide (0 + (w64 (i - (1 : Int))).toNat < ng), true,
        true, true, true, !decide ((L (0 + (w64 (i - (1 : Int))).toNat)).r > (L (0 + i.toNat)).r), true,
        true, true, decide ((0 : Int) ≤ w64 (i - (1 : Int))), decide (w64 (i - (1 : Int)) < ((ng : Nat) : Int)), true, true,
        decide (0 + (w64 (i - (1 : Int))).toNat < ng), true, true, true, true,
        !(L (0 + (w64 (i - (1 : Int))).toNat)).r == (L (0 + i.toNat)).r, true, true, true, true, true,
        true, true, true, true, true, true, true, true, true],
      Ex.normal,
      {
        sl :=
          slots 251
            [(5, AV.c (AC.sl 1 0 m)), (6, AV.c (AC.sl 2 0 ng)),
              (7, I64 ink), (8, I64 (w64 (i + (1 : Int))))],
        h :=
          [some { t := 2, own := false, c := Cont.row 1 K fun j => [Value.int IntKind.i64 (g j)] },
            some
              { t := 83, own := true,
                c :=
                  Cont.row 4 m fun j =>
                    [Value.int IntKind.i64 (R j).n, Value.string (R j).s, Value.int IntKind.i64 (R j).v,
                      Value.int IntKind.i64 (R j).l] },
            some
              { t := 87, own := true,
                c :=
                  Cont.row 4 ng fun j =>
                    [Value.int IntKind.i64 (L j).k, Value.int IntKind.i64 (L j).r, Value.int IntKind.i64 (L j).a,
                      Value.int IntKind.i64 (L j).w] }] }) := by kernel_rfl
theorem wq1_P_10S {K : Nat} {g : Nat → Int} {m : Nat} {R : Nat → Rn} {ng : Nat} {L : Nat → Gl} {ink i : Int} : (rT wqG nol 1 52 (bodyOf Try.f24 0) wqK1 wqK1 (wq1S K g m R ng L ink i)).go [true, true, true, true, false, false, false, false, false, false, false, false, false, false, false, false, false, false, false, false, true, true, false, false, true, false, false, false, false, false, false, false, false, true, true, true, true, true, false, false, false, false, false, false, true, true, true, false, false, false, false, false, true, true, true, true, true, true, true, true, true, true, true, false, false, false, false, false, false, true, true, true, true, true, true, true, true, true, true, false, true, false, false, false, false, false, false, false, false, false, false, false, false, false, false, false, false, false, false, false, false, false, false, false, false, false, false, false, true, true, true, true, true, true, true, true, true, true, true, true, true, false, false, false, false, true, true, false, false, true, false, false, false, false, true, true, true, true, true, true, true, true, true, true, true, true, false, true, true, false, true, false] =
  some
    ([decide (i < ((ng : Nat) : Int)), decide ((0 : Int) ≤ i), decide (i < ((ng : Nat) : Int)), decide (0 + i.toNat < ng),
        !decide ((L (0 + i.toNat)).r < (0 : Int)), true, true, true, true, true,
        !decide ((L (0 + i.toNat)).r ≥ ((m : Nat) : Int)), true, true, true, !decide ((L (0 + i.toNat)).a < (0 : Int)),
        true, true, true, true, true, decide ((0 : Int) ≤ (L (0 + i.toNat)).r),
        decide ((L (0 + i.toNat)).r < ((m : Nat) : Int)), true, true,
        decide (0 + (L (0 + i.toNat)).r.toNat < m), true, true, true,
        !decide ((L (0 + i.toNat)).a ≥ (((R (0 + (L (0 + i.toNat)).r.toNat)).s.size : Nat) : Int)), true, true,
        true, !decide ((L (0 + i.toNat)).w < (0 : Int)), decide ((0 : Int) ≤ (L (0 + i.toNat)).r),
        decide ((L (0 + i.toNat)).r < ((m : Nat) : Int)), decide (0 + (L (0 + i.toNat)).r.toNat < m),
        decide ((0 : Int) ≤ (L (0 + i.toNat)).a),
        decide ((L (0 + i.toNat)).a < (((R (0 + (L (0 + i.toNat)).r.toNat)).s.size : Nat) : Int)),
        !bt (R (0 + (L (0 + i.toNat)).r.toNat)).s (L (0 + i.toNat)).a == (32 : Int), true, true,
        !bt (R (0 + (L (0 + i.toNat)).r.toNat)).s (L (0 + i.toNat)).a == (9 : Int), true, true,
        bt (R (0 + (L (0 + i.toNat)).r.toNat)).s (L (0 + i.toNat)).a == (10 : Int), true, true,
        !(L (0 + i.toNat)).k == (2 : Int), true, true, true, true, true, true, true, true,
        decide ((0 : Int) ≤ (L (0 + i.toNat)).r), decide ((L (0 + i.toNat)).r < ((m : Nat) : Int)), true, true,
        decide (0 + (L (0 + i.toNat)).r.toNat < m), true, true,
        !!((L (0 + i.toNat)).k == (3 : Int)) ==
              ((R (0 + (L (0 + i.toNat)).r.toNat)).v != (2 : Int)),
        true, true, true, true, true,
        bt (R (0 + (L (0 + i.toNat)).r.toNat)).s (L (0 + i.toNat)).a == (10 : Int), true, true,
        true, decide ((0 : Int) ≤ (L (0 + i.toNat)).r), decide ((L (0 + i.toNat)).r < ((m : Nat) : Int)), true, true,
        decide (0 + (L (0 + i.toNat)).r.toNat < m), true, true, true, true, true,
        !!((L (0 + i.toNat)).k == (4 : Int)) ==
              ((R (0 + (L (0 + i.toNat)).r.toNat)).v == (2 : Int)),
        true, true, true, !(L (0 + i.toNat)).k == (3 : Int), true, true, true, true, true, true, true, true,
        true, true, !(L (0 + i.toNat)).k == (3 : Int), true, true, true, true, true, true, true, true, true,
        decide (i > (0 : Int)), true, true, true, decide ((0 : Int) ≤ w64 (i - (1 : Int))),
        decide (w64 (i - (1 : Int)) < ((ng : Nat) : Int)), true, true, decide (0 + (w64 (i - (1 : Int))).toNat < ng), true,
        true, true, true, !decide ((L (0 + (w64 (i - (1 : Int))).toNat)).r > (L (0 + i.toNat)).r), true,
        true, true, decide ((0 : Int) ≤ w64 (i - (1 : Int))), decide (w64 (i - (1 : Int)) < ((ng : Nat) : Int)), true, true,
        decide (0 + (w64 (i - (1 : Int))).toNat < ng), true, true, true, true,
        (L (0 + (w64 (i - (1 : Int))).toNat)).r == (L (0 + i.toNat)).r, true, true, true,
        decide ((0 : Int) ≤ w64 (i - (1 : Int))), decide (w64 (i - (1 : Int)) < ((ng : Nat) : Int)), true, true,
        decide (0 + (w64 (i - (1 : Int))).toNat < ng), true, true, true, true, true, true, true, true,
        !decide ((L (0 + (w64 (i - (1 : Int))).toNat)).a ≥ (L (0 + i.toNat)).a)],
      Ex.normal,
      {
        sl :=
          slots 251
            [(5, AV.c (AC.sl 1 0 m)), (6, AV.c (AC.sl 2 0 ng)),
              (7, I64 ink), (8, I64 (w64 (i + (1 : Int))))],
        h :=
          [some { t := 2, own := false, c := Cont.row 1 K fun j => [Value.int IntKind.i64 (g j)] },
            some
              { t := 83, own := true,
                c :=
                  Cont.row 4 m fun j =>
                    [Value.int IntKind.i64 (R j).n, Value.string (R j).s, Value.int IntKind.i64 (R j).v,
                      Value.int IntKind.i64 (R j).l] },
            some
              { t := 87, own := true,
                c :=
                  Cont.row 4 ng fun j =>
                    [Value.int IntKind.i64 (L j).k, Value.int IntKind.i64 (L j).r, Value.int IntKind.i64 (L j).a,
                      Value.int IntKind.i64 (L j).w] }] }) := by kernel_rfl
theorem wq1_B2_13L {K : Nat} {g : Nat → Int} {m : Nat} {R : Nat → Rn} {ng : Nat} {L : Nat → Gl} {ink i : Int} : (rT wqG nol 1 52 (bodyOf Try.f24 0) wqK1 wqK1 (wq1S K g m R ng L ink i)).go [true, true, true, true, false, false, false, false, false, false, false, false, false, false, false, false, false, false, false, false, true, true, false, false, true, false, false, false, false, false, false, false, false, true, true, true, true, true, false, false, false, false, false, false, false, false, false, true, true, true, true, false, true, true, true, true, true, true, true, true, true, true, true, false, false, false, false, false, false, false, false, false, false, false, false, false, false, false, false, false, false, false, false, false, false, false, false, false, false, false, false, false, false, false, false, true, true, true, false, false, false, false, false, true, false, true, false, false, false, false, true, true, false, false, true, false, true, false, true, false, false, false, false, true, true, false, false, true, false, true, false, true, false, true, true, true, true, true, true, true, true, true, true, true, true, true, false, false, false, false, true, true, false, false, true, false, false, false, false, false, false, false, false, false, false, false, false, false, false, false, true, false, true, false] =
  some
    ([decide (i < ((ng : Nat) : Int)), decide ((0 : Int) ≤ i), decide (i < ((ng : Nat) : Int)), decide (0 + i.toNat < ng),
        !decide ((L (0 + i.toNat)).r < (0 : Int)), true, true, true, true, true,
        !decide ((L (0 + i.toNat)).r ≥ ((m : Nat) : Int)), true, true, true, !decide ((L (0 + i.toNat)).a < (0 : Int)),
        true, true, true, true, true, decide ((0 : Int) ≤ (L (0 + i.toNat)).r),
        decide ((L (0 + i.toNat)).r < ((m : Nat) : Int)), true, true,
        decide (0 + (L (0 + i.toNat)).r.toNat < m), true, true, true,
        !decide ((L (0 + i.toNat)).a ≥ (((R (0 + (L (0 + i.toNat)).r.toNat)).s.size : Nat) : Int)), true, true,
        true, !decide ((L (0 + i.toNat)).w < (0 : Int)), decide ((0 : Int) ≤ (L (0 + i.toNat)).r),
        decide ((L (0 + i.toNat)).r < ((m : Nat) : Int)), decide (0 + (L (0 + i.toNat)).r.toNat < m),
        decide ((0 : Int) ≤ (L (0 + i.toNat)).a),
        decide ((L (0 + i.toNat)).a < (((R (0 + (L (0 + i.toNat)).r.toNat)).s.size : Nat) : Int)),
        !bt (R (0 + (L (0 + i.toNat)).r.toNat)).s (L (0 + i.toNat)).a == (32 : Int), true, true,
        !bt (R (0 + (L (0 + i.toNat)).r.toNat)).s (L (0 + i.toNat)).a == (9 : Int), true, true,
        !bt (R (0 + (L (0 + i.toNat)).r.toNat)).s (L (0 + i.toNat)).a == (10 : Int), true, true,
        (L (0 + i.toNat)).k == (2 : Int), true, true, true,
        !!bt (R (0 + (L (0 + i.toNat)).r.toNat)).s (L (0 + i.toNat)).a == (13 : Int),
        bt (R (0 + (L (0 + i.toNat)).r.toNat)).s (L (0 + i.toNat)).a == (13 : Int), true, true,
        true, decide ((0 : Int) ≤ (L (0 + i.toNat)).r), decide ((L (0 + i.toNat)).r < ((m : Nat) : Int)), true, true,
        decide (0 + (L (0 + i.toNat)).r.toNat < m), true, true,
        !!true == ((R (0 + (L (0 + i.toNat)).r.toNat)).v != (2 : Int)), true, true, true, true, true,
        !bt (R (0 + (L (0 + i.toNat)).r.toNat)).s (L (0 + i.toNat)).a == (10 : Int), true, true,
        true, true, true, true, true, true, true, true, !!((L (0 + i.toNat)).k == (4 : Int)) == false, true,
        true, true, !(L (0 + i.toNat)).k == (3 : Int), true, true, true, true, true, true, true, true, true,
        true, true, true, true, !i == (0 : Int), true, true, true, true, true, true, true, !w64 (i + (1 : Int)) == ((ng : Nat) : Int),
        true, true, true, decide ((0 : Int) ≤ w64 (i - (1 : Int))), decide (w64 (i - (1 : Int)) < ((ng : Nat) : Int)), true, true,
        decide (0 + (w64 (i - (1 : Int))).toNat < ng), true, true, true, true,
        !(L (0 + (w64 (i - (1 : Int))).toNat)).k != (1 : Int), true, true, true,
        decide ((0 : Int) ≤ w64 (i + (1 : Int))), decide (w64 (i + (1 : Int)) < ((ng : Nat) : Int)), true, true,
        decide (0 + (w64 (i + (1 : Int))).toNat < ng), true, true, true, true,
        !(L (0 + (w64 (i + (1 : Int))).toNat)).k != (1 : Int), decide (i > (0 : Int)), true, true, true,
        decide ((0 : Int) ≤ w64 (i - (1 : Int))), decide (w64 (i - (1 : Int)) < ((ng : Nat) : Int)), true, true,
        decide (0 + (w64 (i - (1 : Int))).toNat < ng), true, true, true, true,
        !decide ((L (0 + (w64 (i - (1 : Int))).toNat)).r > (L (0 + i.toNat)).r), true, true, true,
        decide ((0 : Int) ≤ w64 (i - (1 : Int))), decide (w64 (i - (1 : Int)) < ((ng : Nat) : Int)), true, true,
        decide (0 + (w64 (i - (1 : Int))).toNat < ng), true, true, true, true,
        !(L (0 + (w64 (i - (1 : Int))).toNat)).r == (L (0 + i.toNat)).r, true, true, true, true, true,
        true, true, true, true, true, true, true, true, true],
      Ex.normal,
      {
        sl :=
          slots 251
            [(5, AV.c (AC.sl 1 0 m)), (6, AV.c (AC.sl 2 0 ng)),
              (7, I64 ink), (8, I64 (w64 (i + (1 : Int))))],
        h :=
          [some { t := 2, own := false, c := Cont.row 1 K fun j => [Value.int IntKind.i64 (g j)] },
            some
              { t := 83, own := true,
                c :=
                  Cont.row 4 m fun j =>
                    [Value.int IntKind.i64 (R j).n, Value.string (R j).s, Value.int IntKind.i64 (R j).v,
                      Value.int IntKind.i64 (R j).l] },
            some
              { t := 87, own := true,
                c :=
                  Cont.row 4 ng fun j =>
                    [Value.int IntKind.i64 (L j).k, Value.int IntKind.i64 (L j).r, Value.int IntKind.i64 (L j).a,
                      Value.int IntKind.i64 (L j).w] }] }) := by kernel_rfl
theorem wq1_B3_13L {K : Nat} {g : Nat → Int} {m : Nat} {R : Nat → Rn} {ng : Nat} {L : Nat → Gl} {ink i : Int} : (rT wqG nol 1 52 (bodyOf Try.f24 0) wqK1 wqK1 (wq1S K g m R ng L ink i)).go [true, true, true, true, false, false, false, false, false, false, false, false, false, false, false, false, false, false, false, false, true, true, false, false, true, false, false, false, false, false, false, false, false, true, true, true, true, true, false, false, false, false, false, false, false, false, false, false, false, false, false, false, true, true, true, true, true, true, true, true, true, true, true, false, false, false, false, false, false, false, false, false, false, false, false, false, false, false, false, false, false, false, false, false, true, true, true, true, true, true, true, true, true, true, false, true, false, false, true, true, true, false, false, false, false, false, true, false, true, false, false, false, false, true, true, false, false, true, false, true, false, true, false, false, false, false, true, true, false, false, true, false, true, false, true, false, true, true, true, true, true, true, true, true, true, true, true, true, true, false, false, false, false, true, true, false, false, true, false, false, false, false, false, false, false, false, false, false, false, false, false, false, false, true, false, true, false] =
  some
    ([decide (i < ((ng : Nat) : Int)), decide ((0 : Int) ≤ i), decide (i < ((ng : Nat) : Int)), decide (0 + i.toNat < ng),
        !decide ((L (0 + i.toNat)).r < (0 : Int)), true, true, true, true, true,
        !decide ((L (0 + i.toNat)).r ≥ ((m : Nat) : Int)), true, true, true, !decide ((L (0 + i.toNat)).a < (0 : Int)),
        true, true, true, true, true, decide ((0 : Int) ≤ (L (0 + i.toNat)).r),
        decide ((L (0 + i.toNat)).r < ((m : Nat) : Int)), true, true,
        decide (0 + (L (0 + i.toNat)).r.toNat < m), true, true, true,
        !decide ((L (0 + i.toNat)).a ≥ (((R (0 + (L (0 + i.toNat)).r.toNat)).s.size : Nat) : Int)), true, true,
        true, !decide ((L (0 + i.toNat)).w < (0 : Int)), decide ((0 : Int) ≤ (L (0 + i.toNat)).r),
        decide ((L (0 + i.toNat)).r < ((m : Nat) : Int)), decide (0 + (L (0 + i.toNat)).r.toNat < m),
        decide ((0 : Int) ≤ (L (0 + i.toNat)).a),
        decide ((L (0 + i.toNat)).a < (((R (0 + (L (0 + i.toNat)).r.toNat)).s.size : Nat) : Int)),
        !bt (R (0 + (L (0 + i.toNat)).r.toNat)).s (L (0 + i.toNat)).a == (32 : Int), true, true,
        !bt (R (0 + (L (0 + i.toNat)).r.toNat)).s (L (0 + i.toNat)).a == (9 : Int), true, true,
        !bt (R (0 + (L (0 + i.toNat)).r.toNat)).s (L (0 + i.toNat)).a == (10 : Int), true, true,
        !(L (0 + i.toNat)).k == (2 : Int), true, true, true,
        !!bt (R (0 + (L (0 + i.toNat)).r.toNat)).s (L (0 + i.toNat)).a == (13 : Int),
        bt (R (0 + (L (0 + i.toNat)).r.toNat)).s (L (0 + i.toNat)).a == (13 : Int), true, true,
        true, decide ((0 : Int) ≤ (L (0 + i.toNat)).r), decide ((L (0 + i.toNat)).r < ((m : Nat) : Int)), true, true,
        decide (0 + (L (0 + i.toNat)).r.toNat < m), true, true,
        !!((L (0 + i.toNat)).k == (3 : Int)) ==
              ((R (0 + (L (0 + i.toNat)).r.toNat)).v != (2 : Int)),
        true, true, true, true, true,
        !bt (R (0 + (L (0 + i.toNat)).r.toNat)).s (L (0 + i.toNat)).a == (10 : Int), true, true,
        true, true, true, true, true, true, true, true, !!((L (0 + i.toNat)).k == (4 : Int)) == false, true,
        true, true, (L (0 + i.toNat)).k == (3 : Int), true, true, true,
        decide ((0 : Int) ≤ (L (0 + i.toNat)).r), decide ((L (0 + i.toNat)).r < ((m : Nat) : Int)), true, true,
        decide (0 + (L (0 + i.toNat)).r.toNat < m), true, true, true, true,
        !(R (0 + (L (0 + i.toNat)).r.toNat)).v != (1 : Int), (L (0 + i.toNat)).k == (3 : Int),
        true, true, !i == (0 : Int), true, true, true, true, true, true, true, !w64 (i + (1 : Int)) == ((ng : Nat) : Int), true, true,
        true, decide ((0 : Int) ≤ w64 (i - (1 : Int))), decide (w64 (i - (1 : Int)) < ((ng : Nat) : Int)), true, true,
        decide (0 + (w64 (i - (1 : Int))).toNat < ng), true, true, true, true,
        !(L (0 + (w64 (i - (1 : Int))).toNat)).k != (1 : Int), true, true, true,
        decide ((0 : Int) ≤ w64 (i + (1 : Int))), decide (w64 (i + (1 : Int)) < ((ng : Nat) : Int)), true, true,
        decide (0 + (w64 (i + (1 : Int))).toNat < ng), true, true, true, true,
        !(L (0 + (w64 (i + (1 : Int))).toNat)).k != (1 : Int), decide (i > (0 : Int)), true, true, true,
        decide ((0 : Int) ≤ w64 (i - (1 : Int))), decide (w64 (i - (1 : Int)) < ((ng : Nat) : Int)), true, true,
        decide (0 + (w64 (i - (1 : Int))).toNat < ng), true, true, true, true,
        !decide ((L (0 + (w64 (i - (1 : Int))).toNat)).r > (L (0 + i.toNat)).r), true, true, true,
        decide ((0 : Int) ≤ w64 (i - (1 : Int))), decide (w64 (i - (1 : Int)) < ((ng : Nat) : Int)), true, true,
        decide (0 + (w64 (i - (1 : Int))).toNat < ng), true, true, true, true,
        !(L (0 + (w64 (i - (1 : Int))).toNat)).r == (L (0 + i.toNat)).r, true, true, true, true, true,
        true, true, true, true, true, true, true, true, true],
      Ex.normal,
      {
        sl :=
          slots 251
            [(5, AV.c (AC.sl 1 0 m)), (6, AV.c (AC.sl 2 0 ng)),
              (7, I64 ink), (8, I64 (w64 (i + (1 : Int))))],
        h :=
          [some { t := 2, own := false, c := Cont.row 1 K fun j => [Value.int IntKind.i64 (g j)] },
            some
              { t := 83, own := true,
                c :=
                  Cont.row 4 m fun j =>
                    [Value.int IntKind.i64 (R j).n, Value.string (R j).s, Value.int IntKind.i64 (R j).v,
                      Value.int IntKind.i64 (R j).l] },
            some
              { t := 87, own := true,
                c :=
                  Cont.row 4 ng fun j =>
                    [Value.int IntKind.i64 (L j).k, Value.int IntKind.i64 (L j).r, Value.int IntKind.i64 (L j).a,
                      Value.int IntKind.i64 (L j).w] }] }) := by kernel_rfl
theorem wq1_B2_13S {K : Nat} {g : Nat → Int} {m : Nat} {R : Nat → Rn} {ng : Nat} {L : Nat → Gl} {ink i : Int} : (rT wqG nol 1 52 (bodyOf Try.f24 0) wqK1 wqK1 (wq1S K g m R ng L ink i)).go [true, true, true, true, false, false, false, false, false, false, false, false, false, false, false, false, false, false, false, false, true, true, false, false, true, false, false, false, false, false, false, false, false, true, true, true, true, true, false, false, false, false, false, false, false, false, false, true, true, true, true, false, true, true, true, true, true, true, true, true, true, true, true, false, false, false, false, false, false, false, false, false, false, false, false, false, false, false, false, false, false, false, false, false, false, false, false, false, false, false, false, false, false, false, false, true, true, true, false, false, false, false, false, true, false, true, false, false, false, false, true, true, false, false, true, false, true, false, true, false, false, false, false, true, true, false, false, true, false, true, false, true, false, true, true, true, true, true, true, true, true, true, true, true, true, true, false, false, false, false, true, true, false, false, true, false, false, false, false, true, true, true, true, true, true, true, true, true, true, true, true, false, true, true, false, true, false] =
  some
    ([decide (i < ((ng : Nat) : Int)), decide ((0 : Int) ≤ i), decide (i < ((ng : Nat) : Int)), decide (0 + i.toNat < ng),
        !decide ((L (0 + i.toNat)).r < (0 : Int)), true, true, true, true, true,
        !decide ((L (0 + i.toNat)).r ≥ ((m : Nat) : Int)), true, true, true, !decide ((L (0 + i.toNat)).a < (0 : Int)),
        true, true, true, true, true, decide ((0 : Int) ≤ (L (0 + i.toNat)).r),
        decide ((L (0 + i.toNat)).r < ((m : Nat) : Int)), true, true,
        decide (0 + (L (0 + i.toNat)).r.toNat < m), true, true, true,
        !decide ((L (0 + i.toNat)).a ≥ (((R (0 + (L (0 + i.toNat)).r.toNat)).s.size : Nat) : Int)), true, true,
        true, !decide ((L (0 + i.toNat)).w < (0 : Int)), decide ((0 : Int) ≤ (L (0 + i.toNat)).r),
        decide ((L (0 + i.toNat)).r < ((m : Nat) : Int)), decide (0 + (L (0 + i.toNat)).r.toNat < m),
        decide ((0 : Int) ≤ (L (0 + i.toNat)).a),
        decide ((L (0 + i.toNat)).a < (((R (0 + (L (0 + i.toNat)).r.toNat)).s.size : Nat) : Int)),
        !bt (R (0 + (L (0 + i.toNat)).r.toNat)).s (L (0 + i.toNat)).a == (32 : Int), true, true,
        !bt (R (0 + (L (0 + i.toNat)).r.toNat)).s (L (0 + i.toNat)).a == (9 : Int), true, true,
        !bt (R (0 + (L (0 + i.toNat)).r.toNat)).s (L (0 + i.toNat)).a == (10 : Int), true, true,
        (L (0 + i.toNat)).k == (2 : Int), true, true, true,
        !!bt (R (0 + (L (0 + i.toNat)).r.toNat)).s (L (0 + i.toNat)).a == (13 : Int),
        bt (R (0 + (L (0 + i.toNat)).r.toNat)).s (L (0 + i.toNat)).a == (13 : Int), true, true,
        true, decide ((0 : Int) ≤ (L (0 + i.toNat)).r), decide ((L (0 + i.toNat)).r < ((m : Nat) : Int)), true, true,
        decide (0 + (L (0 + i.toNat)).r.toNat < m), true, true,
        !!true == ((R (0 + (L (0 + i.toNat)).r.toNat)).v != (2 : Int)), true, true, true, true, true,
        !bt (R (0 + (L (0 + i.toNat)).r.toNat)).s (L (0 + i.toNat)).a == (10 : Int), true, true,
        true, true, true, true, true, true, true, true, !!((L (0 + i.toNat)).k == (4 : Int)) == false, true,
        true, true, !(L (0 + i.toNat)).k == (3 : Int), true, true, true, true, true, true, true, true, true,
        true, true, true, true, !i == (0 : Int), true, true, true, true, true, true, true, !w64 (i + (1 : Int)) == ((ng : Nat) : Int),
        true, true, true, decide ((0 : Int) ≤ w64 (i - (1 : Int))), decide (w64 (i - (1 : Int)) < ((ng : Nat) : Int)), true, true,
        decide (0 + (w64 (i - (1 : Int))).toNat < ng), true, true, true, true,
        !(L (0 + (w64 (i - (1 : Int))).toNat)).k != (1 : Int), true, true, true,
        decide ((0 : Int) ≤ w64 (i + (1 : Int))), decide (w64 (i + (1 : Int)) < ((ng : Nat) : Int)), true, true,
        decide (0 + (w64 (i + (1 : Int))).toNat < ng), true, true, true, true,
        !(L (0 + (w64 (i + (1 : Int))).toNat)).k != (1 : Int), decide (i > (0 : Int)), true, true, true,
        decide ((0 : Int) ≤ w64 (i - (1 : Int))), decide (w64 (i - (1 : Int)) < ((ng : Nat) : Int)), true, true,
        decide (0 + (w64 (i - (1 : Int))).toNat < ng), true, true, true, true,
        !decide ((L (0 + (w64 (i - (1 : Int))).toNat)).r > (L (0 + i.toNat)).r), true, true, true,
        decide ((0 : Int) ≤ w64 (i - (1 : Int))), decide (w64 (i - (1 : Int)) < ((ng : Nat) : Int)), true, true,
        decide (0 + (w64 (i - (1 : Int))).toNat < ng), true, true, true, true,
        (L (0 + (w64 (i - (1 : Int))).toNat)).r == (L (0 + i.toNat)).r, true, true, true,
        decide ((0 : Int) ≤ w64 (i - (1 : Int))), decide (w64 (i - (1 : Int)) < ((ng : Nat) : Int)), true, true,
        decide (0 + (w64 (i - (1 : Int))).toNat < ng), true, true, true, true, true, true, true, true,
        !decide ((L (0 + (w64 (i - (1 : Int))).toNat)).a ≥ (L (0 + i.toNat)).a)],
      Ex.normal,
      {
        sl :=
          slots 251
            [(5, AV.c (AC.sl 1 0 m)), (6, AV.c (AC.sl 2 0 ng)),
              (7, I64 ink), (8, I64 (w64 (i + (1 : Int))))],
        h :=
          [some { t := 2, own := false, c := Cont.row 1 K fun j => [Value.int IntKind.i64 (g j)] },
            some
              { t := 83, own := true,
                c :=
                  Cont.row 4 m fun j =>
                    [Value.int IntKind.i64 (R j).n, Value.string (R j).s, Value.int IntKind.i64 (R j).v,
                      Value.int IntKind.i64 (R j).l] },
            some
              { t := 87, own := true,
                c :=
                  Cont.row 4 ng fun j =>
                    [Value.int IntKind.i64 (L j).k, Value.int IntKind.i64 (L j).r, Value.int IntKind.i64 (L j).a,
                      Value.int IntKind.i64 (L j).w] }] }) := by kernel_rfl
theorem wq1_B3_13S {K : Nat} {g : Nat → Int} {m : Nat} {R : Nat → Rn} {ng : Nat} {L : Nat → Gl} {ink i : Int} : (rT wqG nol 1 52 (bodyOf Try.f24 0) wqK1 wqK1 (wq1S K g m R ng L ink i)).go [true, true, true, true, false, false, false, false, false, false, false, false, false, false, false, false, false, false, false, false, true, true, false, false, true, false, false, false, false, false, false, false, false, true, true, true, true, true, false, false, false, false, false, false, false, false, false, false, false, false, false, false, true, true, true, true, true, true, true, true, true, true, true, false, false, false, false, false, false, false, false, false, false, false, false, false, false, false, false, false, false, false, false, false, true, true, true, true, true, true, true, true, true, true, false, true, false, false, true, true, true, false, false, false, false, false, true, false, true, false, false, false, false, true, true, false, false, true, false, true, false, true, false, false, false, false, true, true, false, false, true, false, true, false, true, false, true, true, true, true, true, true, true, true, true, true, true, true, true, false, false, false, false, true, true, false, false, true, false, false, false, false, true, true, true, true, true, true, true, true, true, true, true, true, false, true, true, false, true, false] =
  some
    ([decide (i < ((ng : Nat) : Int)), decide ((0 : Int) ≤ i), decide (i < ((ng : Nat) : Int)), decide (0 + i.toNat < ng),
        !decide ((L (0 + i.toNat)).r < (0 : Int)), true, true, true, true, true,
        !decide ((L (0 + i.toNat)).r ≥ ((m : Nat) : Int)), true, true, true, !decide ((L (0 + i.toNat)).a < (0 : Int)),
        true, true, true, true, true, decide ((0 : Int) ≤ (L (0 + i.toNat)).r),
        decide ((L (0 + i.toNat)).r < ((m : Nat) : Int)), true, true,
        decide (0 + (L (0 + i.toNat)).r.toNat < m), true, true, true,
        !decide ((L (0 + i.toNat)).a ≥ (((R (0 + (L (0 + i.toNat)).r.toNat)).s.size : Nat) : Int)), true, true,
        true, !decide ((L (0 + i.toNat)).w < (0 : Int)), decide ((0 : Int) ≤ (L (0 + i.toNat)).r),
        decide ((L (0 + i.toNat)).r < ((m : Nat) : Int)), decide (0 + (L (0 + i.toNat)).r.toNat < m),
        decide ((0 : Int) ≤ (L (0 + i.toNat)).a),
        decide ((L (0 + i.toNat)).a < (((R (0 + (L (0 + i.toNat)).r.toNat)).s.size : Nat) : Int)),
        !bt (R (0 + (L (0 + i.toNat)).r.toNat)).s (L (0 + i.toNat)).a == (32 : Int), true, true,
        !bt (R (0 + (L (0 + i.toNat)).r.toNat)).s (L (0 + i.toNat)).a == (9 : Int), true, true,
        !bt (R (0 + (L (0 + i.toNat)).r.toNat)).s (L (0 + i.toNat)).a == (10 : Int), true, true,
        !(L (0 + i.toNat)).k == (2 : Int), true, true, true,
        !!bt (R (0 + (L (0 + i.toNat)).r.toNat)).s (L (0 + i.toNat)).a == (13 : Int),
        bt (R (0 + (L (0 + i.toNat)).r.toNat)).s (L (0 + i.toNat)).a == (13 : Int), true, true,
        true, decide ((0 : Int) ≤ (L (0 + i.toNat)).r), decide ((L (0 + i.toNat)).r < ((m : Nat) : Int)), true, true,
        decide (0 + (L (0 + i.toNat)).r.toNat < m), true, true,
        !!((L (0 + i.toNat)).k == (3 : Int)) ==
              ((R (0 + (L (0 + i.toNat)).r.toNat)).v != (2 : Int)),
        true, true, true, true, true,
        !bt (R (0 + (L (0 + i.toNat)).r.toNat)).s (L (0 + i.toNat)).a == (10 : Int), true, true,
        true, true, true, true, true, true, true, true, !!((L (0 + i.toNat)).k == (4 : Int)) == false, true,
        true, true, (L (0 + i.toNat)).k == (3 : Int), true, true, true,
        decide ((0 : Int) ≤ (L (0 + i.toNat)).r), decide ((L (0 + i.toNat)).r < ((m : Nat) : Int)), true, true,
        decide (0 + (L (0 + i.toNat)).r.toNat < m), true, true, true, true,
        !(R (0 + (L (0 + i.toNat)).r.toNat)).v != (1 : Int), (L (0 + i.toNat)).k == (3 : Int),
        true, true, !i == (0 : Int), true, true, true, true, true, true, true, !w64 (i + (1 : Int)) == ((ng : Nat) : Int), true, true,
        true, decide ((0 : Int) ≤ w64 (i - (1 : Int))), decide (w64 (i - (1 : Int)) < ((ng : Nat) : Int)), true, true,
        decide (0 + (w64 (i - (1 : Int))).toNat < ng), true, true, true, true,
        !(L (0 + (w64 (i - (1 : Int))).toNat)).k != (1 : Int), true, true, true,
        decide ((0 : Int) ≤ w64 (i + (1 : Int))), decide (w64 (i + (1 : Int)) < ((ng : Nat) : Int)), true, true,
        decide (0 + (w64 (i + (1 : Int))).toNat < ng), true, true, true, true,
        !(L (0 + (w64 (i + (1 : Int))).toNat)).k != (1 : Int), decide (i > (0 : Int)), true, true, true,
        decide ((0 : Int) ≤ w64 (i - (1 : Int))), decide (w64 (i - (1 : Int)) < ((ng : Nat) : Int)), true, true,
        decide (0 + (w64 (i - (1 : Int))).toNat < ng), true, true, true, true,
        !decide ((L (0 + (w64 (i - (1 : Int))).toNat)).r > (L (0 + i.toNat)).r), true, true, true,
        decide ((0 : Int) ≤ w64 (i - (1 : Int))), decide (w64 (i - (1 : Int)) < ((ng : Nat) : Int)), true, true,
        decide (0 + (w64 (i - (1 : Int))).toNat < ng), true, true, true, true,
        (L (0 + (w64 (i - (1 : Int))).toNat)).r == (L (0 + i.toNat)).r, true, true, true,
        decide ((0 : Int) ≤ w64 (i - (1 : Int))), decide (w64 (i - (1 : Int)) < ((ng : Nat) : Int)), true, true,
        decide (0 + (w64 (i - (1 : Int))).toNat < ng), true, true, true, true, true, true, true, true,
        !decide ((L (0 + (w64 (i - (1 : Int))).toNat)).a ≥ (L (0 + i.toNat)).a)],
      Ex.normal,
      {
        sl :=
          slots 251
            [(5, AV.c (AC.sl 1 0 m)), (6, AV.c (AC.sl 2 0 ng)),
              (7, I64 ink), (8, I64 (w64 (i + (1 : Int))))],
        h :=
          [some { t := 2, own := false, c := Cont.row 1 K fun j => [Value.int IntKind.i64 (g j)] },
            some
              { t := 83, own := true,
                c :=
                  Cont.row 4 m fun j =>
                    [Value.int IntKind.i64 (R j).n, Value.string (R j).s, Value.int IntKind.i64 (R j).v,
                      Value.int IntKind.i64 (R j).l] },
            some
              { t := 87, own := true,
                c :=
                  Cont.row 4 ng fun j =>
                    [Value.int IntKind.i64 (L j).k, Value.int IntKind.i64 (L j).r, Value.int IntKind.i64 (L j).a,
                      Value.int IntKind.i64 (L j).w] }] }) := by kernel_rfl
theorem wq1_P_130 {K : Nat} {g : Nat → Int} {m : Nat} {R : Nat → Rn} {ng : Nat} {L : Nat → Gl} {ink i : Int} : (rT wqG nol 1 52 (bodyOf Try.f24 0) wqK1 wqK1 (wq1S K g m R ng L ink i)).go [true, true, true, true, false, false, false, false, false, false, false, false, false, false, false, false, false, false, false, false, true, true, false, false, true, false, false, false, false, false, false, false, false, true, true, true, true, true, false, false, false, false, false, false, false, false, false, false, false, false, false, false, true, true, true, true, true, true, true, true, true, true, true, false, false, false, false, false, false, false, false, false, false, false, false, false, false, false, false, false, false, false, false, false, false, false, false, false, false, false, false, false, false, false, false, false, false, false, false, false, false, false, false, false, false, false, false, false, false, false, false, false, false, false, false, false, false, false] =
  some
    ([decide (i < ((ng : Nat) : Int)), decide ((0 : Int) ≤ i), decide (i < ((ng : Nat) : Int)), decide (0 + i.toNat < ng),
        !decide ((L (0 + i.toNat)).r < (0 : Int)), true, true, true, true, true,
        !decide ((L (0 + i.toNat)).r ≥ ((m : Nat) : Int)), true, true, true, !decide ((L (0 + i.toNat)).a < (0 : Int)),
        true, true, true, true, true, decide ((0 : Int) ≤ (L (0 + i.toNat)).r),
        decide ((L (0 + i.toNat)).r < ((m : Nat) : Int)), true, true,
        decide (0 + (L (0 + i.toNat)).r.toNat < m), true, true, true,
        !decide ((L (0 + i.toNat)).a ≥ (((R (0 + (L (0 + i.toNat)).r.toNat)).s.size : Nat) : Int)), true, true,
        true, !decide ((L (0 + i.toNat)).w < (0 : Int)), decide ((0 : Int) ≤ (L (0 + i.toNat)).r),
        decide ((L (0 + i.toNat)).r < ((m : Nat) : Int)), decide (0 + (L (0 + i.toNat)).r.toNat < m),
        decide ((0 : Int) ≤ (L (0 + i.toNat)).a),
        decide ((L (0 + i.toNat)).a < (((R (0 + (L (0 + i.toNat)).r.toNat)).s.size : Nat) : Int)),
        !bt (R (0 + (L (0 + i.toNat)).r.toNat)).s (L (0 + i.toNat)).a == (32 : Int), true, true,
        !bt (R (0 + (L (0 + i.toNat)).r.toNat)).s (L (0 + i.toNat)).a == (9 : Int), true, true,
        !bt (R (0 + (L (0 + i.toNat)).r.toNat)).s (L (0 + i.toNat)).a == (10 : Int), true, true,
        !(L (0 + i.toNat)).k == (2 : Int), true, true, true,
        !!bt (R (0 + (L (0 + i.toNat)).r.toNat)).s (L (0 + i.toNat)).a == (13 : Int),
        bt (R (0 + (L (0 + i.toNat)).r.toNat)).s (L (0 + i.toNat)).a == (13 : Int), true, true,
        true, decide ((0 : Int) ≤ (L (0 + i.toNat)).r), decide ((L (0 + i.toNat)).r < ((m : Nat) : Int)), true, true,
        decide (0 + (L (0 + i.toNat)).r.toNat < m), true, true,
        !!((L (0 + i.toNat)).k == (3 : Int)) ==
              ((R (0 + (L (0 + i.toNat)).r.toNat)).v != (2 : Int)),
        true, true, true, true, true,
        !bt (R (0 + (L (0 + i.toNat)).r.toNat)).s (L (0 + i.toNat)).a == (10 : Int), true, true,
        true, true, true, true, true, true, true, true, !!((L (0 + i.toNat)).k == (4 : Int)) == false, true,
        true, true, !(L (0 + i.toNat)).k == (3 : Int), true, true, true, true, true, true, true, true, true,
        true, !(L (0 + i.toNat)).k == (3 : Int), true, true, true, true, true, true, true, true, true,
        !decide (i > (0 : Int)), true, true, true, true, true, true, true, true, true, true, true, true],
      Ex.normal,
      {
        sl :=
          slots 251
            [(5, AV.c (AC.sl 1 0 m)), (6, AV.c (AC.sl 2 0 ng)),
              (7, I64 ink), (8, I64 (w64 (i + (1 : Int))))],
        h :=
          [some { t := 2, own := false, c := Cont.row 1 K fun j => [Value.int IntKind.i64 (g j)] },
            some
              { t := 83, own := true,
                c :=
                  Cont.row 4 m fun j =>
                    [Value.int IntKind.i64 (R j).n, Value.string (R j).s, Value.int IntKind.i64 (R j).v,
                      Value.int IntKind.i64 (R j).l] },
            some
              { t := 87, own := true,
                c :=
                  Cont.row 4 ng fun j =>
                    [Value.int IntKind.i64 (L j).k, Value.int IntKind.i64 (L j).r, Value.int IntKind.i64 (L j).a,
                      Value.int IntKind.i64 (L j).w] }] }) := by kernel_rfl
theorem wq1_P_13L {K : Nat} {g : Nat → Int} {m : Nat} {R : Nat → Rn} {ng : Nat} {L : Nat → Gl} {ink i : Int} : (rT wqG nol 1 52 (bodyOf Try.f24 0) wqK1 wqK1 (wq1S K g m R ng L ink i)).go [true, true, true, true, false, false, false, false, false, false, false, false, false, false, false, false, false, false, false, false, true, true, false, false, true, false, false, false, false, false, false, false, false, true, true, true, true, true, false, false, false, false, false, false, false, false, false, false, false, false, false, false, true, true, true, true, true, true, true, true, true, true, true, false, false, false, false, false, false, false, false, false, false, false, false, false, false, false, false, false, false, false, false, false, false, false, false, false, false, false, false, false, false, false, false, false, false, false, false, false, false, false, false, false, false, true, true, true, true, true, true, true, true, true, true, true, true, true, false, false, false, false, true, true, false, false, true, false, false, false, false, false, false, false, false, false, false, false, false, false, false, false, true, false, true, false] =
  some
    ([decide (i < ((ng : Nat) : Int)), decide ((0 : Int) ≤ i), decide (i < ((ng : Nat) : Int)), decide (0 + i.toNat < ng),
        !decide ((L (0 + i.toNat)).r < (0 : Int)), true, true, true, true, true,
        !decide ((L (0 + i.toNat)).r ≥ ((m : Nat) : Int)), true, true, true, !decide ((L (0 + i.toNat)).a < (0 : Int)),
        true, true, true, true, true, decide ((0 : Int) ≤ (L (0 + i.toNat)).r),
        decide ((L (0 + i.toNat)).r < ((m : Nat) : Int)), true, true,
        decide (0 + (L (0 + i.toNat)).r.toNat < m), true, true, true,
        !decide ((L (0 + i.toNat)).a ≥ (((R (0 + (L (0 + i.toNat)).r.toNat)).s.size : Nat) : Int)), true, true,
        true, !decide ((L (0 + i.toNat)).w < (0 : Int)), decide ((0 : Int) ≤ (L (0 + i.toNat)).r),
        decide ((L (0 + i.toNat)).r < ((m : Nat) : Int)), decide (0 + (L (0 + i.toNat)).r.toNat < m),
        decide ((0 : Int) ≤ (L (0 + i.toNat)).a),
        decide ((L (0 + i.toNat)).a < (((R (0 + (L (0 + i.toNat)).r.toNat)).s.size : Nat) : Int)),
        !bt (R (0 + (L (0 + i.toNat)).r.toNat)).s (L (0 + i.toNat)).a == (32 : Int), true, true,
        !bt (R (0 + (L (0 + i.toNat)).r.toNat)).s (L (0 + i.toNat)).a == (9 : Int), true, true,
        !bt (R (0 + (L (0 + i.toNat)).r.toNat)).s (L (0 + i.toNat)).a == (10 : Int), true, true,
        !(L (0 + i.toNat)).k == (2 : Int), true, true, true,
        !!bt (R (0 + (L (0 + i.toNat)).r.toNat)).s (L (0 + i.toNat)).a == (13 : Int),
        bt (R (0 + (L (0 + i.toNat)).r.toNat)).s (L (0 + i.toNat)).a == (13 : Int), true, true,
        true, decide ((0 : Int) ≤ (L (0 + i.toNat)).r), decide ((L (0 + i.toNat)).r < ((m : Nat) : Int)), true, true,
        decide (0 + (L (0 + i.toNat)).r.toNat < m), true, true,
        !!((L (0 + i.toNat)).k == (3 : Int)) ==
              ((R (0 + (L (0 + i.toNat)).r.toNat)).v != (2 : Int)),
        true, true, true, true, true,
        !bt (R (0 + (L (0 + i.toNat)).r.toNat)).s (L (0 + i.toNat)).a == (10 : Int), true, true,
        true, true, true, true, true, true, true, true, !!((L (0 + i.toNat)).k == (4 : Int)) == false, true,
        true, true, !(L (0 + i.toNat)).k == (3 : Int), true, true, true, true, true, true, true, true, true,
        true, !(L (0 + i.toNat)).k == (3 : Int), true, true, true, true, true, true, true, true, true,
        decide (i > (0 : Int)), true, true, true, decide ((0 : Int) ≤ w64 (i - (1 : Int))),
        decide (w64 (i - (1 : Int)) < ((ng : Nat) : Int)), true, true, decide (0 + (w64 (i - (1 : Int))).toNat < ng), true,
        true, true, true, !decide ((L (0 + (w64 (i - (1 : Int))).toNat)).r > (L (0 + i.toNat)).r), true,
        true, true, decide ((0 : Int) ≤ w64 (i - (1 : Int))), decide (w64 (i - (1 : Int)) < ((ng : Nat) : Int)), true, true,
        decide (0 + (w64 (i - (1 : Int))).toNat < ng), true, true, true, true,
        !(L (0 + (w64 (i - (1 : Int))).toNat)).r == (L (0 + i.toNat)).r, true, true, true, true, true,
        true, true, true, true, true, true, true, true, true],
      Ex.normal,
      {
        sl :=
          slots 251
            [(5, AV.c (AC.sl 1 0 m)), (6, AV.c (AC.sl 2 0 ng)),
              (7, I64 ink), (8, I64 (w64 (i + (1 : Int))))],
        h :=
          [some { t := 2, own := false, c := Cont.row 1 K fun j => [Value.int IntKind.i64 (g j)] },
            some
              { t := 83, own := true,
                c :=
                  Cont.row 4 m fun j =>
                    [Value.int IntKind.i64 (R j).n, Value.string (R j).s, Value.int IntKind.i64 (R j).v,
                      Value.int IntKind.i64 (R j).l] },
            some
              { t := 87, own := true,
                c :=
                  Cont.row 4 ng fun j =>
                    [Value.int IntKind.i64 (L j).k, Value.int IntKind.i64 (L j).r, Value.int IntKind.i64 (L j).a,
                      Value.int IntKind.i64 (L j).w] }] }) := by kernel_rfl
theorem wq1_P_13S {K : Nat} {g : Nat → Int} {m : Nat} {R : Nat → Rn} {ng : Nat} {L : Nat → Gl} {ink i : Int} : (rT wqG nol 1 52 (bodyOf Try.f24 0) wqK1 wqK1 (wq1S K g m R ng L ink i)).go [true, true, true, true, false, false, false, false, false, false, false, false, false, false, false, false, false, false, false, false, true, true, false, false, true, false, false, false, false, false, false, false, false, true, true, true, true, true, false, false, false, false, false, false, false, false, false, false, false, false, false, false, true, true, true, true, true, true, true, true, true, true, true, false, false, false, false, false, false, false, false, false, false, false, false, false, false, false, false, false, false, false, false, false, false, false, false, false, false, false, false, false, false, false, false, false, false, false, false, false, false, false, false, false, false, true, true, true, true, true, true, true, true, true, true, true, true, true, false, false, false, false, true, true, false, false, true, false, false, false, false, true, true, true, true, true, true, true, true, true, true, true, true, false, true, true, false, true, false] =
  some
    ([decide (i < ((ng : Nat) : Int)), decide ((0 : Int) ≤ i), decide (i < ((ng : Nat) : Int)), decide (0 + i.toNat < ng),
        !decide ((L (0 + i.toNat)).r < (0 : Int)), true, true, true, true, true,
        !decide ((L (0 + i.toNat)).r ≥ ((m : Nat) : Int)), true, true, true, !decide ((L (0 + i.toNat)).a < (0 : Int)),
        true, true, true, true, true, decide ((0 : Int) ≤ (L (0 + i.toNat)).r),
        decide ((L (0 + i.toNat)).r < ((m : Nat) : Int)), true, true,
        decide (0 + (L (0 + i.toNat)).r.toNat < m), true, true, true,
        !decide ((L (0 + i.toNat)).a ≥ (((R (0 + (L (0 + i.toNat)).r.toNat)).s.size : Nat) : Int)), true, true,
        true, !decide ((L (0 + i.toNat)).w < (0 : Int)), decide ((0 : Int) ≤ (L (0 + i.toNat)).r),
        decide ((L (0 + i.toNat)).r < ((m : Nat) : Int)), decide (0 + (L (0 + i.toNat)).r.toNat < m),
        decide ((0 : Int) ≤ (L (0 + i.toNat)).a),
        decide ((L (0 + i.toNat)).a < (((R (0 + (L (0 + i.toNat)).r.toNat)).s.size : Nat) : Int)),
        !bt (R (0 + (L (0 + i.toNat)).r.toNat)).s (L (0 + i.toNat)).a == (32 : Int), true, true,
        !bt (R (0 + (L (0 + i.toNat)).r.toNat)).s (L (0 + i.toNat)).a == (9 : Int), true, true,
        !bt (R (0 + (L (0 + i.toNat)).r.toNat)).s (L (0 + i.toNat)).a == (10 : Int), true, true,
        !(L (0 + i.toNat)).k == (2 : Int), true, true, true,
        !!bt (R (0 + (L (0 + i.toNat)).r.toNat)).s (L (0 + i.toNat)).a == (13 : Int),
        bt (R (0 + (L (0 + i.toNat)).r.toNat)).s (L (0 + i.toNat)).a == (13 : Int), true, true,
        true, decide ((0 : Int) ≤ (L (0 + i.toNat)).r), decide ((L (0 + i.toNat)).r < ((m : Nat) : Int)), true, true,
        decide (0 + (L (0 + i.toNat)).r.toNat < m), true, true,
        !!((L (0 + i.toNat)).k == (3 : Int)) ==
              ((R (0 + (L (0 + i.toNat)).r.toNat)).v != (2 : Int)),
        true, true, true, true, true,
        !bt (R (0 + (L (0 + i.toNat)).r.toNat)).s (L (0 + i.toNat)).a == (10 : Int), true, true,
        true, true, true, true, true, true, true, true, !!((L (0 + i.toNat)).k == (4 : Int)) == false, true,
        true, true, !(L (0 + i.toNat)).k == (3 : Int), true, true, true, true, true, true, true, true, true,
        true, !(L (0 + i.toNat)).k == (3 : Int), true, true, true, true, true, true, true, true, true,
        decide (i > (0 : Int)), true, true, true, decide ((0 : Int) ≤ w64 (i - (1 : Int))),
        decide (w64 (i - (1 : Int)) < ((ng : Nat) : Int)), true, true, decide (0 + (w64 (i - (1 : Int))).toNat < ng), true,
        true, true, true, !decide ((L (0 + (w64 (i - (1 : Int))).toNat)).r > (L (0 + i.toNat)).r), true,
        true, true, decide ((0 : Int) ≤ w64 (i - (1 : Int))), decide (w64 (i - (1 : Int)) < ((ng : Nat) : Int)), true, true,
        decide (0 + (w64 (i - (1 : Int))).toNat < ng), true, true, true, true,
        (L (0 + (w64 (i - (1 : Int))).toNat)).r == (L (0 + i.toNat)).r, true, true, true,
        decide ((0 : Int) ≤ w64 (i - (1 : Int))), decide (w64 (i - (1 : Int)) < ((ng : Nat) : Int)), true, true,
        decide (0 + (w64 (i - (1 : Int))).toNat < ng), true, true, true, true, true, true, true, true,
        !decide ((L (0 + (w64 (i - (1 : Int))).toNat)).a ≥ (L (0 + i.toNat)).a)],
      Ex.normal,
      {
        sl :=
          slots 251
            [(5, AV.c (AC.sl 1 0 m)), (6, AV.c (AC.sl 2 0 ng)),
              (7, I64 ink), (8, I64 (w64 (i + (1 : Int))))],
        h :=
          [some { t := 2, own := false, c := Cont.row 1 K fun j => [Value.int IntKind.i64 (g j)] },
            some
              { t := 83, own := true,
                c :=
                  Cont.row 4 m fun j =>
                    [Value.int IntKind.i64 (R j).n, Value.string (R j).s, Value.int IntKind.i64 (R j).v,
                      Value.int IntKind.i64 (R j).l] },
            some
              { t := 87, own := true,
                c :=
                  Cont.row 4 ng fun j =>
                    [Value.int IntKind.i64 (L j).k, Value.int IntKind.i64 (L j).r, Value.int IntKind.i64 (L j).a,
                      Value.int IntKind.i64 (L j).w] }] }) := by kernel_rfl
theorem wq1_O0 {K : Nat} {g : Nat → Int} {m : Nat} {R : Nat → Rn} {ng : Nat} {L : Nat → Gl} {ink i : Int} : (rT wqG nol 1 52 (bodyOf Try.f24 0) wqK1 wqK1 (wq1S K g m R ng L ink i)).go [true, true, true, true, false, false, false, false, false, false, false, false, false, false, false, false, false, false, false, false, true, true, false, false, true, false, false, false, false, false, false, false, false, true, true, true, true, true, false, false, false, false, false, false, false, false, false, false, false, false, false, true, false, false, false, false, false, false, false, false, false, false, false, false, false, false, false, false, false, false, false, false, false, false, false, false, false, false, false, false, false, false, false, false, false, false, false, false, false, false, false, false, false, false, false, false, false, false, false, false, false, false, false, false, false, false, false, false, false, false, false, false, false, false, false] =
  some
    ([decide (i < ((ng : Nat) : Int)), decide ((0 : Int) ≤ i), decide (i < ((ng : Nat) : Int)), decide (0 + i.toNat < ng),
        !decide ((L (0 + i.toNat)).r < (0 : Int)), true, true, true, true, true,
        !decide ((L (0 + i.toNat)).r ≥ ((m : Nat) : Int)), true, true, true, !decide ((L (0 + i.toNat)).a < (0 : Int)),
        true, true, true, true, true, decide ((0 : Int) ≤ (L (0 + i.toNat)).r),
        decide ((L (0 + i.toNat)).r < ((m : Nat) : Int)), true, true,
        decide (0 + (L (0 + i.toNat)).r.toNat < m), true, true, true,
        !decide ((L (0 + i.toNat)).a ≥ (((R (0 + (L (0 + i.toNat)).r.toNat)).s.size : Nat) : Int)), true, true,
        true, !decide ((L (0 + i.toNat)).w < (0 : Int)), decide ((0 : Int) ≤ (L (0 + i.toNat)).r),
        decide ((L (0 + i.toNat)).r < ((m : Nat) : Int)), decide (0 + (L (0 + i.toNat)).r.toNat < m),
        decide ((0 : Int) ≤ (L (0 + i.toNat)).a),
        decide ((L (0 + i.toNat)).a < (((R (0 + (L (0 + i.toNat)).r.toNat)).s.size : Nat) : Int)),
        !bt (R (0 + (L (0 + i.toNat)).r.toNat)).s (L (0 + i.toNat)).a == (32 : Int), true, true,
        !bt (R (0 + (L (0 + i.toNat)).r.toNat)).s (L (0 + i.toNat)).a == (9 : Int), true, true,
        !bt (R (0 + (L (0 + i.toNat)).r.toNat)).s (L (0 + i.toNat)).a == (10 : Int), true, true,
        !(L (0 + i.toNat)).k == (2 : Int), true, true, true,
        !bt (R (0 + (L (0 + i.toNat)).r.toNat)).s (L (0 + i.toNat)).a == (13 : Int),
        !bt (R (0 + (L (0 + i.toNat)).r.toNat)).s (L (0 + i.toNat)).a == (13 : Int), true, true,
        true, true, true, true, true, !!((L (0 + i.toNat)).k == (3 : Int)) == false, true, true, true, true,
        true, !bt (R (0 + (L (0 + i.toNat)).r.toNat)).s (L (0 + i.toNat)).a == (10 : Int), true,
        true, true, true, true, true, true, true, true, true, !!((L (0 + i.toNat)).k == (4 : Int)) == false,
        true, true, true, !(L (0 + i.toNat)).k == (3 : Int), true, true, true, true, true, true, true, true,
        true, true, !(L (0 + i.toNat)).k == (3 : Int), true, true, true, true, true, true, true, true, true,
        !decide (i > (0 : Int)), true, true, true, true, true, true, true, true, true, true, true, true],
      Ex.normal,
      {
        sl :=
          slots 251
            [(5, AV.c (AC.sl 1 0 m)), (6, AV.c (AC.sl 2 0 ng)),
              (7, I64 (w64 (ink + (1 : Int)))), (8, I64 (w64 (i + (1 : Int))))],
        h :=
          [some { t := 2, own := false, c := Cont.row 1 K fun j => [Value.int IntKind.i64 (g j)] },
            some
              { t := 83, own := true,
                c :=
                  Cont.row 4 m fun j =>
                    [Value.int IntKind.i64 (R j).n, Value.string (R j).s, Value.int IntKind.i64 (R j).v,
                      Value.int IntKind.i64 (R j).l] },
            some
              { t := 87, own := true,
                c :=
                  Cont.row 4 ng fun j =>
                    [Value.int IntKind.i64 (L j).k, Value.int IntKind.i64 (L j).r, Value.int IntKind.i64 (L j).a,
                      Value.int IntKind.i64 (L j).w] }] }) := by kernel_rfl
theorem wq1_OL {K : Nat} {g : Nat → Int} {m : Nat} {R : Nat → Rn} {ng : Nat} {L : Nat → Gl} {ink i : Int} : (rT wqG nol 1 52 (bodyOf Try.f24 0) wqK1 wqK1 (wq1S K g m R ng L ink i)).go [true, true, true, true, false, false, false, false, false, false, false, false, false, false, false, false, false, false, false, false, true, true, false, false, true, false, false, false, false, false, false, false, false, true, true, true, true, true, false, false, false, false, false, false, false, false, false, false, false, false, false, true, false, false, false, false, false, false, false, false, false, false, false, false, false, false, false, false, false, false, false, false, false, false, false, false, false, false, false, false, false, false, false, false, false, false, false, false, false, false, false, false, false, false, false, false, false, false, false, false, false, false, true, true, true, true, true, true, true, true, true, true, true, true, true, false, false, false, false, true, true, false, false, true, false, false, false, false, false, false, false, false, false, false, false, false, false, false, false, true, false, true, false] =
  some
    ([decide (i < ((ng : Nat) : Int)), decide ((0 : Int) ≤ i), decide (i < ((ng : Nat) : Int)), decide (0 + i.toNat < ng),
        !decide ((L (0 + i.toNat)).r < (0 : Int)), true, true, true, true, true,
        !decide ((L (0 + i.toNat)).r ≥ ((m : Nat) : Int)), true, true, true, !decide ((L (0 + i.toNat)).a < (0 : Int)),
        true, true, true, true, true, decide ((0 : Int) ≤ (L (0 + i.toNat)).r),
        decide ((L (0 + i.toNat)).r < ((m : Nat) : Int)), true, true,
        decide (0 + (L (0 + i.toNat)).r.toNat < m), true, true, true,
        !decide ((L (0 + i.toNat)).a ≥ (((R (0 + (L (0 + i.toNat)).r.toNat)).s.size : Nat) : Int)), true, true,
        true, !decide ((L (0 + i.toNat)).w < (0 : Int)), decide ((0 : Int) ≤ (L (0 + i.toNat)).r),
        decide ((L (0 + i.toNat)).r < ((m : Nat) : Int)), decide (0 + (L (0 + i.toNat)).r.toNat < m),
        decide ((0 : Int) ≤ (L (0 + i.toNat)).a),
        decide ((L (0 + i.toNat)).a < (((R (0 + (L (0 + i.toNat)).r.toNat)).s.size : Nat) : Int)),
        !bt (R (0 + (L (0 + i.toNat)).r.toNat)).s (L (0 + i.toNat)).a == (32 : Int), true, true,
        !bt (R (0 + (L (0 + i.toNat)).r.toNat)).s (L (0 + i.toNat)).a == (9 : Int), true, true,
        !bt (R (0 + (L (0 + i.toNat)).r.toNat)).s (L (0 + i.toNat)).a == (10 : Int), true, true,
        !(L (0 + i.toNat)).k == (2 : Int), true, true, true,
        !bt (R (0 + (L (0 + i.toNat)).r.toNat)).s (L (0 + i.toNat)).a == (13 : Int),
        !bt (R (0 + (L (0 + i.toNat)).r.toNat)).s (L (0 + i.toNat)).a == (13 : Int), true, true,
        true, true, true, true, true, !!((L (0 + i.toNat)).k == (3 : Int)) == false, true, true, true, true,
        true, !bt (R (0 + (L (0 + i.toNat)).r.toNat)).s (L (0 + i.toNat)).a == (10 : Int), true,
        true, true, true, true, true, true, true, true, true, !!((L (0 + i.toNat)).k == (4 : Int)) == false,
        true, true, true, !(L (0 + i.toNat)).k == (3 : Int), true, true, true, true, true, true, true, true,
        true, true, !(L (0 + i.toNat)).k == (3 : Int), true, true, true, true, true, true, true, true, true,
        decide (i > (0 : Int)), true, true, true, decide ((0 : Int) ≤ w64 (i - (1 : Int))),
        decide (w64 (i - (1 : Int)) < ((ng : Nat) : Int)), true, true, decide (0 + (w64 (i - (1 : Int))).toNat < ng), true,
        true, true, true, !decide ((L (0 + (w64 (i - (1 : Int))).toNat)).r > (L (0 + i.toNat)).r), true,
        true, true, decide ((0 : Int) ≤ w64 (i - (1 : Int))), decide (w64 (i - (1 : Int)) < ((ng : Nat) : Int)), true, true,
        decide (0 + (w64 (i - (1 : Int))).toNat < ng), true, true, true, true,
        !(L (0 + (w64 (i - (1 : Int))).toNat)).r == (L (0 + i.toNat)).r, true, true, true, true, true,
        true, true, true, true, true, true, true, true, true],
      Ex.normal,
      {
        sl :=
          slots 251
            [(5, AV.c (AC.sl 1 0 m)), (6, AV.c (AC.sl 2 0 ng)),
              (7, I64 (w64 (ink + (1 : Int)))), (8, I64 (w64 (i + (1 : Int))))],
        h :=
          [some { t := 2, own := false, c := Cont.row 1 K fun j => [Value.int IntKind.i64 (g j)] },
            some
              { t := 83, own := true,
                c :=
                  Cont.row 4 m fun j =>
                    [Value.int IntKind.i64 (R j).n, Value.string (R j).s, Value.int IntKind.i64 (R j).v,
                      Value.int IntKind.i64 (R j).l] },
            some
              { t := 87, own := true,
                c :=
                  Cont.row 4 ng fun j =>
                    [Value.int IntKind.i64 (L j).k, Value.int IntKind.i64 (L j).r, Value.int IntKind.i64 (L j).a,
                      Value.int IntKind.i64 (L j).w] }] }) := by kernel_rfl
theorem wq1_OS {K : Nat} {g : Nat → Int} {m : Nat} {R : Nat → Rn} {ng : Nat} {L : Nat → Gl} {ink i : Int} : (rT wqG nol 1 52 (bodyOf Try.f24 0) wqK1 wqK1 (wq1S K g m R ng L ink i)).go [true, true, true, true, false, false, false, false, false, false, false, false, false, false, false, false, false, false, false, false, true, true, false, false, true, false, false, false, false, false, false, false, false, true, true, true, true, true, false, false, false, false, false, false, false, false, false, false, false, false, false, true, false, false, false, false, false, false, false, false, false, false, false, false, false, false, false, false, false, false, false, false, false, false, false, false, false, false, false, false, false, false, false, false, false, false, false, false, false, false, false, false, false, false, false, false, false, false, false, false, false, false, true, true, true, true, true, true, true, true, true, true, true, true, true, false, false, false, false, true, true, false, false, true, false, false, false, false, true, true, true, true, true, true, true, true, true, true, true, true, false, true, true, false, true, false] =
  some
    ([decide (i < ((ng : Nat) : Int)), decide ((0 : Int) ≤ i), decide (i < ((ng : Nat) : Int)), decide (0 + i.toNat < ng),
        !decide ((L (0 + i.toNat)).r < (0 : Int)), true, true, true, true, true,
        !decide ((L (0 + i.toNat)).r ≥ ((m : Nat) : Int)), true, true, true, !decide ((L (0 + i.toNat)).a < (0 : Int)),
        true, true, true, true, true, decide ((0 : Int) ≤ (L (0 + i.toNat)).r),
        decide ((L (0 + i.toNat)).r < ((m : Nat) : Int)), true, true,
        decide (0 + (L (0 + i.toNat)).r.toNat < m), true, true, true,
        !decide ((L (0 + i.toNat)).a ≥ (((R (0 + (L (0 + i.toNat)).r.toNat)).s.size : Nat) : Int)), true, true,
        true, !decide ((L (0 + i.toNat)).w < (0 : Int)), decide ((0 : Int) ≤ (L (0 + i.toNat)).r),
        decide ((L (0 + i.toNat)).r < ((m : Nat) : Int)), decide (0 + (L (0 + i.toNat)).r.toNat < m),
        decide ((0 : Int) ≤ (L (0 + i.toNat)).a),
        decide ((L (0 + i.toNat)).a < (((R (0 + (L (0 + i.toNat)).r.toNat)).s.size : Nat) : Int)),
        !bt (R (0 + (L (0 + i.toNat)).r.toNat)).s (L (0 + i.toNat)).a == (32 : Int), true, true,
        !bt (R (0 + (L (0 + i.toNat)).r.toNat)).s (L (0 + i.toNat)).a == (9 : Int), true, true,
        !bt (R (0 + (L (0 + i.toNat)).r.toNat)).s (L (0 + i.toNat)).a == (10 : Int), true, true,
        !(L (0 + i.toNat)).k == (2 : Int), true, true, true,
        !bt (R (0 + (L (0 + i.toNat)).r.toNat)).s (L (0 + i.toNat)).a == (13 : Int),
        !bt (R (0 + (L (0 + i.toNat)).r.toNat)).s (L (0 + i.toNat)).a == (13 : Int), true, true,
        true, true, true, true, true, !!((L (0 + i.toNat)).k == (3 : Int)) == false, true, true, true, true,
        true, !bt (R (0 + (L (0 + i.toNat)).r.toNat)).s (L (0 + i.toNat)).a == (10 : Int), true,
        true, true, true, true, true, true, true, true, true, !!((L (0 + i.toNat)).k == (4 : Int)) == false,
        true, true, true, !(L (0 + i.toNat)).k == (3 : Int), true, true, true, true, true, true, true, true,
        true, true, !(L (0 + i.toNat)).k == (3 : Int), true, true, true, true, true, true, true, true, true,
        decide (i > (0 : Int)), true, true, true, decide ((0 : Int) ≤ w64 (i - (1 : Int))),
        decide (w64 (i - (1 : Int)) < ((ng : Nat) : Int)), true, true, decide (0 + (w64 (i - (1 : Int))).toNat < ng), true,
        true, true, true, !decide ((L (0 + (w64 (i - (1 : Int))).toNat)).r > (L (0 + i.toNat)).r), true,
        true, true, decide ((0 : Int) ≤ w64 (i - (1 : Int))), decide (w64 (i - (1 : Int)) < ((ng : Nat) : Int)), true, true,
        decide (0 + (w64 (i - (1 : Int))).toNat < ng), true, true, true, true,
        (L (0 + (w64 (i - (1 : Int))).toNat)).r == (L (0 + i.toNat)).r, true, true, true,
        decide ((0 : Int) ≤ w64 (i - (1 : Int))), decide (w64 (i - (1 : Int)) < ((ng : Nat) : Int)), true, true,
        decide (0 + (w64 (i - (1 : Int))).toNat < ng), true, true, true, true, true, true, true, true,
        !decide ((L (0 + (w64 (i - (1 : Int))).toNat)).a ≥ (L (0 + i.toNat)).a)],
      Ex.normal,
      {
        sl :=
          slots 251
            [(5, AV.c (AC.sl 1 0 m)), (6, AV.c (AC.sl 2 0 ng)),
              (7, I64 (w64 (ink + (1 : Int)))), (8, I64 (w64 (i + (1 : Int))))],
        h :=
          [some { t := 2, own := false, c := Cont.row 1 K fun j => [Value.int IntKind.i64 (g j)] },
            some
              { t := 83, own := true,
                c :=
                  Cont.row 4 m fun j =>
                    [Value.int IntKind.i64 (R j).n, Value.string (R j).s, Value.int IntKind.i64 (R j).v,
                      Value.int IntKind.i64 (R j).l] },
            some
              { t := 87, own := true,
                c :=
                  Cont.row 4 ng fun j =>
                    [Value.int IntKind.i64 (L j).k, Value.int IntKind.i64 (L j).r, Value.int IntKind.i64 (L j).a,
                      Value.int IntKind.i64 (L j).w] }] }) := by kernel_rfl
theorem wq1_e {K : Nat} {g : Nat → Int} {m : Nat} {R : Nat → Rn} {ng : Nat} {L : Nat → Gl} {ink i : Int} : (rT wqG nol 1 52 (bodyOf Try.f24 0) wqK1 wqK1 (wq1S K g m R ng L ink i)).go [false] =
  some
    ([!decide (i < ((ng : Nat) : Int))], Ex.exit 0,
      {
        sl :=
          slots 251
            [(5, AV.c (AC.sl 1 0 m)), (6, AV.c (AC.sl 2 0 ng)),
              (7, I64 ink), (8, I64 i)],
        h :=
          [some { t := 2, own := false, c := Cont.row 1 K fun j => [Value.int IntKind.i64 (g j)] },
            some
              { t := 83, own := true,
                c :=
                  Cont.row 4 m fun j =>
                    [Value.int IntKind.i64 (R j).n, Value.string (R j).s, Value.int IntKind.i64 (R j).v,
                      Value.int IntKind.i64 (R j).l] },
            some
              { t := 87, own := true,
                c :=
                  Cont.row 4 ng fun j =>
                    [Value.int IntKind.i64 (L j).k, Value.int IntKind.i64 (L j).r, Value.int IntKind.i64 (L j).a,
                      Value.int IntKind.i64 (L j).w] }] }) := by kernel_rfl
theorem wq3_32 {K : Nat} {g : Nat → Int} {m : Nat} {R : Nat → Rn} {ink i k : Int} : (rT wqG nol 1 45 (bodyOf Try.f24 2) wqK3 wqK3 (wq3S K g m R ink i k)).go [true, true, true, true, true, true, true, true, true, false, false, false, false, false, false, false, false, false, false] =
  some
    ([decide ((0 : Int) ≤ i), decide (i < ((m : Nat) : Int)), decide (0 + i.toNat < m),
        decide (k < (((R (0 + i.toNat)).s.size : Nat) : Int)), decide ((0 : Int) ≤ i), decide (i < ((m : Nat) : Int)),
        decide (0 + i.toNat < m), decide ((0 : Int) ≤ k), decide (k < (((R (0 + i.toNat)).s.size : Nat) : Int)),
        !bt (R (0 + i.toNat)).s k != (32 : Int), true, true, true, true, true, true, true, true, true],
      Ex.normal,
      {
        sl :=
          slots 251
            [(5, AV.c (AC.sl 1 0 m)), (7, I64 ink), (13, I64 i),
              (14, I64 (w64 (k + (1 : Int))))],
        h :=
          [some { t := 2, own := false, c := Cont.row 1 K fun j => [Value.int IntKind.i64 (g j)] },
            some
              { t := 83, own := true,
                c :=
                  Cont.row 4 m fun j =>
                    [Value.int IntKind.i64 (R j).n, Value.string (R j).s, Value.int IntKind.i64 (R j).v,
                      Value.int IntKind.i64 (R j).l] }] }) := by kernel_rfl
theorem wq3_9 {K : Nat} {g : Nat → Int} {m : Nat} {R : Nat → Rn} {ink i k : Int} : (rT wqG nol 1 45 (bodyOf Try.f24 2) wqK3 wqK3 (wq3S K g m R ink i k)).go [true, true, true, true, true, true, true, true, true, true, true, true, false, false, false, false, false, false, false] =
  some
    ([decide ((0 : Int) ≤ i), decide (i < ((m : Nat) : Int)), decide (0 + i.toNat < m),
        decide (k < (((R (0 + i.toNat)).s.size : Nat) : Int)), decide ((0 : Int) ≤ i), decide (i < ((m : Nat) : Int)),
        decide (0 + i.toNat < m), decide ((0 : Int) ≤ k), decide (k < (((R (0 + i.toNat)).s.size : Nat) : Int)),
        bt (R (0 + i.toNat)).s k != (32 : Int), true, true, !bt (R (0 + i.toNat)).s k != (9 : Int),
        true, true, true, true, true, true],
      Ex.normal,
      {
        sl :=
          slots 251
            [(5, AV.c (AC.sl 1 0 m)), (7, I64 ink), (13, I64 i),
              (14, I64 (w64 (k + (1 : Int))))],
        h :=
          [some { t := 2, own := false, c := Cont.row 1 K fun j => [Value.int IntKind.i64 (g j)] },
            some
              { t := 83, own := true,
                c :=
                  Cont.row 4 m fun j =>
                    [Value.int IntKind.i64 (R j).n, Value.string (R j).s, Value.int IntKind.i64 (R j).v,
                      Value.int IntKind.i64 (R j).l] }] }) := by kernel_rfl
theorem wq3_10 {K : Nat} {g : Nat → Int} {m : Nat} {R : Nat → Rn} {ink i k : Int} : (rT wqG nol 1 45 (bodyOf Try.f24 2) wqK3 wqK3 (wq3S K g m R ink i k)).go [true, true, true, true, true, true, true, true, true, true, true, true, true, true, true, false, false, false, false] =
  some
    ([decide ((0 : Int) ≤ i), decide (i < ((m : Nat) : Int)), decide (0 + i.toNat < m),
        decide (k < (((R (0 + i.toNat)).s.size : Nat) : Int)), decide ((0 : Int) ≤ i), decide (i < ((m : Nat) : Int)),
        decide (0 + i.toNat < m), decide ((0 : Int) ≤ k), decide (k < (((R (0 + i.toNat)).s.size : Nat) : Int)),
        bt (R (0 + i.toNat)).s k != (32 : Int), true, true, bt (R (0 + i.toNat)).s k != (9 : Int), true,
        true, !bt (R (0 + i.toNat)).s k != (10 : Int), true, true, true],
      Ex.normal,
      {
        sl :=
          slots 251
            [(5, AV.c (AC.sl 1 0 m)), (7, I64 ink), (13, I64 i),
              (14, I64 (w64 (k + (1 : Int))))],
        h :=
          [some { t := 2, own := false, c := Cont.row 1 K fun j => [Value.int IntKind.i64 (g j)] },
            some
              { t := 83, own := true,
                c :=
                  Cont.row 4 m fun j =>
                    [Value.int IntKind.i64 (R j).n, Value.string (R j).s, Value.int IntKind.i64 (R j).v,
                      Value.int IntKind.i64 (R j).l] }] }) := by kernel_rfl
theorem wq3_13 {K : Nat} {g : Nat → Int} {m : Nat} {R : Nat → Rn} {ink i k : Int} : (rT wqG nol 1 45 (bodyOf Try.f24 2) wqK3 wqK3 (wq3S K g m R ink i k)).go [true, true, true, true, true, true, true, true, true, true, true, true, true, true, true, true, true, true, false] =
  some
    ([decide ((0 : Int) ≤ i), decide (i < ((m : Nat) : Int)), decide (0 + i.toNat < m),
        decide (k < (((R (0 + i.toNat)).s.size : Nat) : Int)), decide ((0 : Int) ≤ i), decide (i < ((m : Nat) : Int)),
        decide (0 + i.toNat < m), decide ((0 : Int) ≤ k), decide (k < (((R (0 + i.toNat)).s.size : Nat) : Int)),
        bt (R (0 + i.toNat)).s k != (32 : Int), true, true, bt (R (0 + i.toNat)).s k != (9 : Int), true,
        true, bt (R (0 + i.toNat)).s k != (10 : Int), true, true,
        !bt (R (0 + i.toNat)).s k != (13 : Int)],
      Ex.normal,
      {
        sl :=
          slots 251
            [(5, AV.c (AC.sl 1 0 m)), (7, I64 ink), (13, I64 i),
              (14, I64 (w64 (k + (1 : Int))))],
        h :=
          [some { t := 2, own := false, c := Cont.row 1 K fun j => [Value.int IntKind.i64 (g j)] },
            some
              { t := 83, own := true,
                c :=
                  Cont.row 4 m fun j =>
                    [Value.int IntKind.i64 (R j).n, Value.string (R j).s, Value.int IntKind.i64 (R j).v,
                      Value.int IntKind.i64 (R j).l] }] }) := by kernel_rfl
theorem wq3_0 {K : Nat} {g : Nat → Int} {m : Nat} {R : Nat → Rn} {ink i k : Int} : (rT wqG nol 1 45 (bodyOf Try.f24 2) wqK3 wqK3 (wq3S K g m R ink i k)).go [] =
  some
    ([decide ((0 : Int) ≤ i), decide (i < ((m : Nat) : Int)), decide (0 + i.toNat < m),
        decide (k < (((R (0 + i.toNat)).s.size : Nat) : Int)), decide ((0 : Int) ≤ i), decide (i < ((m : Nat) : Int)),
        decide (0 + i.toNat < m), decide ((0 : Int) ≤ k), decide (k < (((R (0 + i.toNat)).s.size : Nat) : Int)),
        bt (R (0 + i.toNat)).s k != (32 : Int), true, true, bt (R (0 + i.toNat)).s k != (9 : Int), true,
        true, bt (R (0 + i.toNat)).s k != (10 : Int), true, true,
        bt (R (0 + i.toNat)).s k != (13 : Int)],
      Ex.normal,
      {
        sl :=
          slots 251
            [(5, AV.c (AC.sl 1 0 m)), (7, I64 (w64 (ink - (1 : Int)))),
              (13, I64 i), (14, I64 (w64 (k + (1 : Int))))],
        h :=
          [some { t := 2, own := false, c := Cont.row 1 K fun j => [Value.int IntKind.i64 (g j)] },
            some
              { t := 83, own := true,
                c :=
                  Cont.row 4 m fun j =>
                    [Value.int IntKind.i64 (R j).n, Value.string (R j).s, Value.int IntKind.i64 (R j).v,
                      Value.int IntKind.i64 (R j).l] }] }) := by kernel_rfl
theorem wq3_e {K : Nat} {g : Nat → Int} {m : Nat} {R : Nat → Rn} {ink i k : Int} : (rT wqG nol 1 45 (bodyOf Try.f24 2) wqK3 wqK3 (wq3S K g m R ink i k)).go [true, true, true, false] =
  some
    ([decide ((0 : Int) ≤ i), decide (i < ((m : Nat) : Int)), decide (0 + i.toNat < m),
        !decide (k < (((R (0 + i.toNat)).s.size : Nat) : Int))],
      Ex.exit 4,
      {
        sl :=
          slots 251
            [(5, AV.c (AC.sl 1 0 m)), (7, I64 ink), (13, I64 i),
              (14, I64 k)],
        h :=
          [some { t := 2, own := false, c := Cont.row 1 K fun j => [Value.int IntKind.i64 (g j)] },
            some
              { t := 83, own := true,
                c :=
                  Cont.row 4 m fun j =>
                    [Value.int IntKind.i64 (R j).n, Value.string (R j).s, Value.int IntKind.i64 (R j).v,
                      Value.int IntKind.i64 (R j).l] }] }) := by kernel_rfl
theorem wq2_go {K : Nat} {g : Nat → Int} {m : Nat} {R : Nat → Rn} {ink i ink' k : Int} : (rT wqG (tell (bodyOf Try.f24 2) (wq3S K g m R ink i 0) (.exit 4, wq3S K g m R ink' i k)) 1 51 (bodyOf Try.f24 1) wqK2 wqK2 (wq2S K g m R ink i)).go [] =
  some
    ([decide (i < ((m : Nat) : Int)), yes (wasS (bodyOf Try.f24 2) (wq3S K g m R ink i 0))], Ex.normal,
      {
        sl :=
          slots 251
            [(5, AV.c (AC.sl 1 0 m)), (7, I64 ink'),
              (13, I64 (w64 (i + (1 : Int))))],
        h :=
          [some { t := 2, own := false, c := Cont.row 1 K fun j => [Value.int IntKind.i64 (g j)] },
            some
              { t := 83, own := true,
                c :=
                  Cont.row 4 m fun j =>
                    [Value.int IntKind.i64 (R j).n, Value.string (R j).s, Value.int IntKind.i64 (R j).v,
                      Value.int IntKind.i64 (R j).l] }] }) := by kernel_rfl
theorem wq2_e {K : Nat} {g : Nat → Int} {m : Nat} {R : Nat → Rn} {ink i : Int} : (rT wqG nol 1 51 (bodyOf Try.f24 1) wqK2 wqK2 (wq2S K g m R ink i)).go [false] =
  some
    ([!decide (i < ((m : Nat) : Int))], Ex.exit 2,
      {
        sl :=
          slots 251
            [(5, AV.c (AC.sl 1 0 m)), (7, I64 ink), (13, I64 i)],
        h :=
          [some { t := 2, own := false, c := Cont.row 1 K fun j => [Value.int IntKind.i64 (g j)] },
            some
              { t := 83, own := true,
                c :=
                  Cont.row 4 m fun j =>
                    [Value.int IntKind.i64 (R j).n, Value.string (R j).s, Value.int IntKind.i64 (R j).v,
                      Value.int IntKind.i64 (R j).l] }] }) := by kernel_rfl
theorem wq_w {K : Nat} {g a : Nat → Int} {ink z z' : Int} : (lfun wqG (byReg 5 (tell (bodyOf Try.f24 0) (wq1S K g (m12 K) (ruN K g) (glyphs (Mt (ta (fun k => a k) 256)) (fun i => (ruN K g) (0 + i)) (m12 K)).length (at_ (glyphs (Mt (ta (fun k => a k) 256)) (fun i => (ruN K g) (0 + i)) (m12 K))) 0 0) (.exit 0, (wq1S K g (m12 K) (ruN K g) (glyphs (Mt (ta (fun k => a k) 256)) (fun i => (ruN K g) (0 + i)) (m12 K)).length (at_ (glyphs (Mt (ta (fun k => a k) 256)) (fun i => (ruN K g) (0 + i)) (m12 K))) ink z))) (tell (bodyOf Try.f24 1) (wq2S K g (m12 K) (ruN K g) ink 0) (.exit 2, (wq2S K g (m12 K) (ruN K g) 0 z')))) 60 Try.f24 [aA a, .c (.sl 0 0 K)] [rowJ false K g]).go [] =
  some
    ([yes (0 + K ≤ K ∧ (fun j => v1 (g j)) = fun j => v1 (vd (v1 (g j)))), true,
        yes ((fun k => Value.int IntKind.i64 (a k)) = fun k => Value.int IntKind.i64 (a k)),
        yes
          (0 + m12 K ≤ m12 K ∧
            m12 K < 2 ^ 40 ∧
              lenR (fun i => decN (encN (runsL (fun j => vd (v1 (g (0 + j)))) (m12 K) (0 + i))))
                    (m12 K) <
                  2 ^ 39 ∧
                ((fun k => Value.int IntKind.i64 (ta (fun k => a k) 256 k)) = fun k =>
                    Value.int IntKind.i64 (ta (fun k => a k) 256 k)) ∧
                  (fun j => encN (runsL (fun j => vd (v1 (g (0 + j)))) (m12 K) j)) = fun j =>
                    encN (decN (encN (runsL (fun j => vd (v1 (g (0 + j)))) (m12 K) j)))),
        yes (wasS (bodyOf Try.f24 0) (wq1S K g (m12 K) (ruN K g) (glyphs (Mt (ta (fun k => a k) 256)) (fun i => (ruN K g) (0 + i)) (m12 K)).length (at_ (glyphs (Mt (ta (fun k => a k) 256)) (fun i => (ruN K g) (0 + i)) (m12 K))) 0 0)), yes (wasS (bodyOf Try.f24 1) (wq2S K g (m12 K) (ruN K g) ink 0)), true, true],
      Bo true,
      [some { t := 2, own := false, c := Cont.row 1 K fun j => [Value.int IntKind.i64 (g j)] }]) := by kernel_rfl
end Go.Proofs.Ytcpahifgdppkbaa.QAI
end
