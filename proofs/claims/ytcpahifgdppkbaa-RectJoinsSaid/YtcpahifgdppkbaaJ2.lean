/- RectJoins: the walk. -/
import Derived.Test.YtcpahifgdppkbaaJ1
set_option linter.unusedVariables false
set_option linter.unusedSimpArgs false
namespace Go.Proofs.Ytcpahifgdppkbaa.QAI
open Go Go.RowKit
set_option maxRecDepth 100000
noncomputable def rKJ : Known := [(53, tame2F), (55, sAwakeR), (56, jrF (jnF sJn)), (57, meetF)]
theorem rKJ_ok : KnownOk rKJ := rKcons tame2F_ok (by kernel_rfl) (rKcons awakeR_ok (by kernel_rfl) (rKcons jrF_ok (by kernel_rfl) (rKcons meetF_ok (by kernel_rfl) rKnil)))
noncomputable def rjnG (L : Nat) : Ctx2 := GT rKJ (fun k => if k = 3 then [(0,none),(1,none),(2,none),(7,some 44),(8,none)] else if k = 14 then [(7,some 44),(10,none),(11,none),(12,none),(13,none),(14,none),(15,none)] else []) L [56]
def tmR (z : Bool) (r : Rc) : Rc := ⟨tX z r.x, tX z r.y, tW z r.w, tW z r.h⟩
def jlH (k : Nat) (g : Nat → Rc) (m : Nat) (f : Nat → List Value) : AHeap := [rowR false k g, some ⟨44, true, .row 4 m f⟩]
def jlS (k : Nat) (g : Nat → Rc) (c : Int) (z : Bool) (m : Nat) (f : Nat → List Value) (i : Int) : St :=
  ⟨slots 173 [(0, .c (.sl 0 0 k)), (1, I64 c), (2, Bo z), (7, .c (.sl 1 0 m)), (8, I64 i)], jlH k g m f⟩
noncomputable def jlR (L : Nat) (S : St) : Tr (Ex × St) := roundT (arun (rjnG L) 1 54 (bodyOf Try.f9 0)) (canon (rjnG L).T 1 ((rjnG L).keep 3)) S
def ti44 : TI := { t := 44, u := TypeDesc.struct #[{ name := "X", type := 2, offset := 0, embedded := false, tag := "", pkgPath := "", byteOffset := 0 }, { name := "Y", type := 2, offset := 1, embedded := false, tag := "", pkgPath := "", byteOffset := 8 }, { name := "W", type := 2, offset := 2, embedded := false, tag := "", pkgPath := "", byteOffset := 16 }, { name := "H", type := 2, offset := 3, embedded := false, tag := "", pkgPath := "", byteOffset := 24 }], size := 4, bytes := 32, zero := [Value.int IntKind.i64 (0 : Int), Value.int IntKind.i64 (0 : Int), Value.int IntKind.i64 (0 : Int), Value.int IntKind.i64 (0 : Int)], agg := true, flat := true, shape := none }
theorem jl_go {L k : Nat} {g : Nat → Rc} {c : Int} {z : Bool} {m : Nat} {f : Nat → List Value} {i : Int} : (jlR L (jlS k g c z m f i)).go [] =
  some
    ([decide (i < ↑k), true, true, decide (i < (20 : Int)), decide ((0 : Int) ≤ i), decide (i < ↑k),
        decide (0 + i.toNat < k), decide (m = m), true,
        decide
          ((m + 1) *
              ti44.bytes ≤
            maxCells)],
      Ex.normal,
      {
        sl :=
          slots 173
            [(0, AV.c (AC.sl 0 0 k)), (1, I64 c), (2, Bo z),
              (7, AV.c (AC.sl 1 0 (m + 1))), (8, I64 (w64 (i + (1 : Int))))],
        h :=
          [some
              { t := 44, own := false,
                c :=
                  Cont.row 4 k fun i =>
                    [Value.int IntKind.i64 (g i).x, Value.int IntKind.i64 (g i).y, Value.int IntKind.i64 (g i).w,
                      Value.int IntKind.i64 (g i).h] },
            some
              { t := 44, own := true,
                c :=
                  Cont.row 4 (m + 1) fun k =>
                    Decidable.rec (fun h => f k)
                      (fun h =>
                        [Value.int IntKind.i64 (tX z (g (0 + i.toNat)).x),
                          Value.int IntKind.i64 (tX z (g (0 + i.toNat)).y),
                          Value.int IntKind.i64 (tW z (g (0 + i.toNat)).w),
                          Value.int IntKind.i64 (tW z (g (0 + i.toNat)).h)])
                      (instDecidableEqNat k m) }] }) := by kernel_rfl
def jl_e1r (k : Nat) (g : Nat → Rc) (c : Int) (z : Bool) (m : Nat) (f : Nat → List Value) (i : Int) : Ex × St := (Ex.exit 0,
      {
        sl :=
          slots 173
            [(0, AV.c (AC.sl 0 0 k)), (1, I64 c), (2, Bo z),
              (7, AV.c (AC.sl 1 0 m)), (8, I64 i), (18, I64 i),
              (19, AV.c (AC.sl 0 0 k)), (20, I64 ↑k),
              (21, Bo (decide (i < ↑k))), (22, Bo false),
              (23, AV.c (AC.v (Value.tuple { toList := [] }))),
              (24, AV.c (AC.v (Value.tuple { toList := [] }))), (25, Bo false)],
        h :=
          [some
              { t := 44, own := false,
                c :=
                  Cont.row 4 k fun i =>
                    [Value.int IntKind.i64 (g i).x, Value.int IntKind.i64 (g i).y, Value.int IntKind.i64 (g i).w,
                      Value.int IntKind.i64 (g i).h] },
            some { t := 44, own := true, c := Cont.row 4 m fun k => f k }] })
theorem jl_e1 {L k : Nat} {g : Nat → Rc} {c : Int} {z : Bool} {m : Nat} {f : Nat → List Value} {i : Int} : (jlR L (jlS k g c z m f i)).go [false, false, false, false] =
  some
    ([!decide (i < ↑k), true, true, true], jl_e1r k g c z m f i) := by kernel_rfl
def jl_e2r (k : Nat) (g : Nat → Rc) (c : Int) (z : Bool) (m : Nat) (f : Nat → List Value) (i : Int) : Ex × St := (Ex.exit 0,
      {
        sl :=
          slots 173
            [(0, AV.c (AC.sl 0 0 k)), (1, I64 c), (2, Bo z),
              (7, AV.c (AC.sl 1 0 m)), (8, I64 i), (18, I64 i),
              (19, AV.c (AC.sl 0 0 k)), (20, I64 ↑k),
              (21, Bo (decide (i < ↑k))), (22, Bo true), (23, I64 i),
              (24, Bo (decide (i < (20 : Int)))), (25, Bo false)],
        h :=
          [some
              { t := 44, own := false,
                c :=
                  Cont.row 4 k fun i =>
                    [Value.int IntKind.i64 (g i).x, Value.int IntKind.i64 (g i).y, Value.int IntKind.i64 (g i).w,
                      Value.int IntKind.i64 (g i).h] },
            some { t := 44, own := true, c := Cont.row 4 m fun k => f k }] })
theorem jl_e2 {L k : Nat} {g : Nat → Rc} {c : Int} {z : Bool} {m : Nat} {f : Nat → List Value} {i : Int} : (jlR L (jlS k g c z m f i)).go [true, true, true, false] =
  some
    ([decide (i < ↑k), true, true, !decide (i < (20 : Int))], jl_e2r k g c z m f i) := by kernel_rfl
def trR (z : Bool) (g : Nat → Rc) (m : Nat) : Nat → Rc := fun j => if j < m then tmR z (g j) else ⟨0, 0, 0, 0⟩
def jlI (k : Nat) (g : Nat → Rc) (c : Int) (z : Bool) (i : Nat) : St := jlS k g c z i (fun j => encR (trR z g i j)) i
def jlE (k : Nat) (g : Nat → Rc) (c : Int) (z : Bool) (m : Nat) (f : Nat → List Value) (i : Int) (bx b1 : Bool) (p q : AV) : Ex × St :=
  (.exit 0, ⟨slots 173 [(0, .c (.sl 0 0 k)), (1, I64 c), (2, Bo z), (7, .c (.sl 1 0 m)), (8, I64 i), (18, I64 i), (19, .c (.sl 0 0 k)), (20, I64 k), (21, Bo bx), (22, Bo b1), (23, p), (24, q), (25, Bo false)], jlH k g m f⟩)
noncomputable def jlT (k : Nat) (g : Nat → Rc) (c : Int) (z : Bool) (m : Nat) (t : Nat → Rc) (bx b1 : Bool) (p q : AV) : Loops :=
  told 54 (bodyOf Try.f9 0) (jlI k g c z 0) (jlE k g c z m (fun j => encR (t j)) m bx b1 p q)
theorem jw_0 {L k : Nat} {g : Nat → Rc} {c : Int} {z : Bool} {t : Nat → Rc} {bx b1 : Bool} {p q : AV} : (lfun (rjnG L) (jlT k g c z 0 t bx b1 p q) 60 Try.f9 [.c (.sl 0 0 k), I64 c, Bo z] [rowR false k g]).go [] =
  some
    ([yes (was 54 (bodyOf Try.f9 0) (jlI k g c z 0)), true, true, true, true], Bo true,
      [some
          { t := 44, own := false,
            c :=
              Cont.row 4 k fun i =>
                [Value.int IntKind.i64 (g i).x, Value.int IntKind.i64 (g i).y, Value.int IntKind.i64 (g i).w,
                  Value.int IntKind.i64 (g i).h] }]) := by kernel_rfl
def jqS (k : Nat) (g : Nat → Rc) (m : Nat) (t : Nat → Rc) (a b c d : Int) (f1 f2 f3 f4 : Bool) (i : Int) : St :=
  ⟨slots 173 [(7, .c (.sl 1 0 m)), (10, .c (.ptr 2 0 0)), (11, Bo f1), (12, Bo f2), (13, Bo f3), (14, Bo f4), (15, I64 i)], [rowR false k g, rowR true m t, some ⟨44, true, .one (qd a b c d)⟩]⟩
noncomputable def jqR (L : Nat) (S : St) : Tr (Ex × St) := roundT (arun (rjnG L) 1 48 (bodyOf Try.f9 1)) (canon (rjnG L).T 1 ((rjnG L).keep 14)) S
def jq_er (k : Nat) (g : Nat → Rc) (m : Nat) (t : Nat → Rc) (a : Int) (b : Int) (c : Int) (d : Int) (f1 : Bool) (f2 : Bool) (f3 : Bool) (f4 : Bool) (i : Int) : Ex × St := (Ex.exit 2,
      {
        sl :=
          slots 173
            [(7, AV.c (AC.sl 1 0 m)), (10, AV.c (AC.ptr 2 0 0)),
              (11, Bo f1), (12, Bo f2), (13, Bo f3), (14, Bo f4), (15, I64 i),
              (73, I64 i), (74, AV.c (AC.sl 1 0 m)), (75, I64 ↑m),
              (76, Bo false)],
        h :=
          [some
              { t := 44, own := false,
                c :=
                  Cont.row 4 k fun i =>
                    [Value.int IntKind.i64 (g i).x, Value.int IntKind.i64 (g i).y, Value.int IntKind.i64 (g i).w,
                      Value.int IntKind.i64 (g i).h] },
            some
              { t := 44, own := true,
                c :=
                  Cont.row 4 m fun i =>
                    [Value.int IntKind.i64 (t i).x, Value.int IntKind.i64 (t i).y, Value.int IntKind.i64 (t i).w,
                      Value.int IntKind.i64 (t i).h] },
            some { t := 44, own := true, c := Cont.one [i64 a, i64 b, i64 c, i64 d] }] })
theorem jq_e {L k : Nat} {g : Nat → Rc} {m : Nat} {t : Nat → Rc} {a b c d : Int} {f1 f2 f3 f4 : Bool} {i : Int} : (jqR L (jqS k g m t a b c d f1 f2 f3 f4 i)).go [false] =
  some
    ([!decide (i < ↑m)], jq_er k g m t a b c d f1 f2 f3 f4 i) := by kernel_rfl
theorem jq_tttt {L k : Nat} {g : Nat → Rc} {m : Nat} {t : Nat → Rc} {a b c d i : Int} : (jqR L (jqS k g m t a b c d true true true true i)).go [true, true, true, true, false, false, false, false, true, true, false, true, false, false, false] =
  some
    ([decide (i < ↑m), decide ((0 : Int) ≤ i), decide (i < ↑m), decide (0 + i.toNat < m),
        !!meetB a b c d (t (0 + i.toNat)).x (t (0 + i.toNat)).y (t (0 + i.toNat)).w
              (t (0 + i.toNat)).h,
        true, true, true, decide ((0 : Int) ≤ i), decide (i < ↑m), true, decide (0 + i.toNat < m), true, true,
        !!((bif
                    meetB a b c d (t (0 + i.toNat)).x (t (0 + i.toNat)).y (t (0 + i.toNat)).w
                      (t (0 + i.toNat)).h then
                  mxI (t (0 + i.toNat)).x a
                else (0 : Int)) ==
                (t (0 + i.toNat)).x &&
              ((bif
                      meetB a b c d (t (0 + i.toNat)).x (t (0 + i.toNat)).y (t (0 + i.toNat)).w
                        (t (0 + i.toNat)).h then
                    mxI (t (0 + i.toNat)).y b
                  else (0 : Int)) ==
                  (t (0 + i.toNat)).y &&
                ((bif
                        meetB a b c d (t (0 + i.toNat)).x (t (0 + i.toNat)).y
                          (t (0 + i.toNat)).w (t (0 + i.toNat)).h then
                      w64
                        (mnI (w64 ((t (0 + i.toNat)).x + (t (0 + i.toNat)).w)) (w64 (a + c)) -
                          mxI (t (0 + i.toNat)).x a)
                    else (0 : Int)) ==
                    (t (0 + i.toNat)).w &&
                  ((bif
                          meetB a b c d (t (0 + i.toNat)).x (t (0 + i.toNat)).y
                            (t (0 + i.toNat)).w (t (0 + i.toNat)).h then
                        w64
                          (mnI (w64 ((t (0 + i.toNat)).y + (t (0 + i.toNat)).h)) (w64 (b + d)) -
                            mxI (t (0 + i.toNat)).y b)
                      else (0 : Int)) ==
                      (t (0 + i.toNat)).h &&
                    true)))),
        true, true, true, true, true, true, true, true, true, true, true, true, true, true, true, true, true, true,
        true, true, true, true, true, true, true, true, true, true, true, true, true, true, true, true, true, true,
        true, true, true, true, true, true, true, true, true, true, true, true, true, true, true, true, true, true],
      Ex.normal,
      {
        sl :=
          slots 173
            [(7, AV.c (AC.sl 1 0 m)), (10, AV.c (AC.ptr 2 0 0)),
              (11, Bo true), (12, Bo true), (13, Bo true), (14, Bo true),
              (15, I64 (w64 (i + (1 : Int))))],
        h :=
          [some
              { t := 44, own := false,
                c :=
                  Cont.row 4 k fun i =>
                    [Value.int IntKind.i64 (g i).x, Value.int IntKind.i64 (g i).y, Value.int IntKind.i64 (g i).w,
                      Value.int IntKind.i64 (g i).h] },
            some
              { t := 44, own := true,
                c :=
                  Cont.row 4 m fun i =>
                    [Value.int IntKind.i64 (t i).x, Value.int IntKind.i64 (t i).y, Value.int IntKind.i64 (t i).w,
                      Value.int IntKind.i64 (t i).h] },
            some { t := 44, own := true, c := Cont.one [i64 a, i64 b, i64 c, i64 d] }] }) := by kernel_rfl
theorem jq_tttf {L k : Nat} {g : Nat → Rc} {m : Nat} {t : Nat → Rc} {a b c d i : Int} : (jqR L (jqS k g m t a b c d true true true false i)).go [true, true, true, true, false, false, false, false, true, true, false, true, false, false, false, true, true, true, true, true, true, true, true, true, true, true, true, true, true, true, true, true, true, true, true, true, true, true, true, true, true, true, true, true, true, true, true, true, true, true, true, false, false, false, true, true, false, false, true, false, false, false, true, true, false, false, true, false, false, false, false, false, false, false, false] =
  some
    ([decide (i < ↑m), decide ((0 : Int) ≤ i), decide (i < ↑m), decide (0 + i.toNat < m),
        !!meetB a b c d (t (0 + i.toNat)).x (t (0 + i.toNat)).y (t (0 + i.toNat)).w
              (t (0 + i.toNat)).h,
        true, true, true, decide ((0 : Int) ≤ i), decide (i < ↑m), true, decide (0 + i.toNat < m), true, true,
        !!((bif
                    meetB a b c d (t (0 + i.toNat)).x (t (0 + i.toNat)).y (t (0 + i.toNat)).w
                      (t (0 + i.toNat)).h then
                  mxI (t (0 + i.toNat)).x a
                else (0 : Int)) ==
                (t (0 + i.toNat)).x &&
              ((bif
                      meetB a b c d (t (0 + i.toNat)).x (t (0 + i.toNat)).y (t (0 + i.toNat)).w
                        (t (0 + i.toNat)).h then
                    mxI (t (0 + i.toNat)).y b
                  else (0 : Int)) ==
                  (t (0 + i.toNat)).y &&
                ((bif
                        meetB a b c d (t (0 + i.toNat)).x (t (0 + i.toNat)).y
                          (t (0 + i.toNat)).w (t (0 + i.toNat)).h then
                      w64
                        (mnI (w64 ((t (0 + i.toNat)).x + (t (0 + i.toNat)).w)) (w64 (a + c)) -
                          mxI (t (0 + i.toNat)).x a)
                    else (0 : Int)) ==
                    (t (0 + i.toNat)).w &&
                  ((bif
                          meetB a b c d (t (0 + i.toNat)).x (t (0 + i.toNat)).y
                            (t (0 + i.toNat)).w (t (0 + i.toNat)).h then
                        w64
                          (mnI (w64 ((t (0 + i.toNat)).y + (t (0 + i.toNat)).h)) (w64 (b + d)) -
                            mxI (t (0 + i.toNat)).y b)
                      else (0 : Int)) ==
                      (t (0 + i.toNat)).h &&
                    true)))),
        true, true, true, true, true, true, true, true, true, true, true, true, true, true, true, true, true, true,
        true, true, true, true, true, true, true, true, true, true, true, true, true, true, true, true, true, true,
        true, true, true, decide ((0 : Int) ≤ i), decide (i < ↑m), true, true, decide (0 + i.toNat < m), true,
        true, true, decide ((0 : Int) ≤ i), decide (i < ↑m), true, true, decide (0 + i.toNat < m), true, true,
        true, true, true, true, true, true],
      Ex.normal,
      {
        sl :=
          slots 173
            [(7, AV.c (AC.sl 1 0 m)), (10, AV.c (AC.ptr 2 0 0)),
              (11, Bo true), (12, Bo true), (13, Bo true),
              (14, Bo (w64 ((t (0 + i.toNat)).y + (t (0 + i.toNat)).h) == w64 (b + d))),
              (15, I64 (w64 (i + (1 : Int))))],
        h :=
          [some
              { t := 44, own := false,
                c :=
                  Cont.row 4 k fun i =>
                    [Value.int IntKind.i64 (g i).x, Value.int IntKind.i64 (g i).y, Value.int IntKind.i64 (g i).w,
                      Value.int IntKind.i64 (g i).h] },
            some
              { t := 44, own := true,
                c :=
                  Cont.row 4 m fun i =>
                    [Value.int IntKind.i64 (t i).x, Value.int IntKind.i64 (t i).y, Value.int IntKind.i64 (t i).w,
                      Value.int IntKind.i64 (t i).h] },
            some { t := 44, own := true, c := Cont.one [i64 a, i64 b, i64 c, i64 d] }] }) := by kernel_rfl
theorem jq_ttft {L k : Nat} {g : Nat → Rc} {m : Nat} {t : Nat → Rc} {a b c d i : Int} : (jqR L (jqS k g m t a b c d true true false true i)).go [true, true, true, true, false, false, false, false, true, true, false, true, false, false, false, true, true, true, true, true, true, true, true, true, true, true, true, true, true, true, true, true, true, false, false, false, true, true, false, false, true, false, false, false, true, true, false, false, true, false, false, false, false, false, false, false, false] =
  some
    ([decide (i < ↑m), decide ((0 : Int) ≤ i), decide (i < ↑m), decide (0 + i.toNat < m),
        !!meetB a b c d (t (0 + i.toNat)).x (t (0 + i.toNat)).y (t (0 + i.toNat)).w
              (t (0 + i.toNat)).h,
        true, true, true, decide ((0 : Int) ≤ i), decide (i < ↑m), true, decide (0 + i.toNat < m), true, true,
        !!((bif
                    meetB a b c d (t (0 + i.toNat)).x (t (0 + i.toNat)).y (t (0 + i.toNat)).w
                      (t (0 + i.toNat)).h then
                  mxI (t (0 + i.toNat)).x a
                else (0 : Int)) ==
                (t (0 + i.toNat)).x &&
              ((bif
                      meetB a b c d (t (0 + i.toNat)).x (t (0 + i.toNat)).y (t (0 + i.toNat)).w
                        (t (0 + i.toNat)).h then
                    mxI (t (0 + i.toNat)).y b
                  else (0 : Int)) ==
                  (t (0 + i.toNat)).y &&
                ((bif
                        meetB a b c d (t (0 + i.toNat)).x (t (0 + i.toNat)).y
                          (t (0 + i.toNat)).w (t (0 + i.toNat)).h then
                      w64
                        (mnI (w64 ((t (0 + i.toNat)).x + (t (0 + i.toNat)).w)) (w64 (a + c)) -
                          mxI (t (0 + i.toNat)).x a)
                    else (0 : Int)) ==
                    (t (0 + i.toNat)).w &&
                  ((bif
                          meetB a b c d (t (0 + i.toNat)).x (t (0 + i.toNat)).y
                            (t (0 + i.toNat)).w (t (0 + i.toNat)).h then
                        w64
                          (mnI (w64 ((t (0 + i.toNat)).y + (t (0 + i.toNat)).h)) (w64 (b + d)) -
                            mxI (t (0 + i.toNat)).y b)
                      else (0 : Int)) ==
                      (t (0 + i.toNat)).h &&
                    true)))),
        true, true, true, true, true, true, true, true, true, true, true, true, true, true, true, true, true, true,
        true, true, true, decide ((0 : Int) ≤ i), decide (i < ↑m), true, true, decide (0 + i.toNat < m), true,
        true, true, decide ((0 : Int) ≤ i), decide (i < ↑m), true, true, decide (0 + i.toNat < m), true, true,
        true, true, true, true, true, true, true, true, true, true, true, true, true, true, true, true, true, true,
        true, true, true, true, true, true],
      Ex.normal,
      {
        sl :=
          slots 173
            [(7, AV.c (AC.sl 1 0 m)), (10, AV.c (AC.ptr 2 0 0)),
              (11, Bo true), (12, Bo true),
              (13, Bo (w64 ((t (0 + i.toNat)).x + (t (0 + i.toNat)).w) == w64 (a + c))),
              (14, Bo true), (15, I64 (w64 (i + (1 : Int))))],
        h :=
          [some
              { t := 44, own := false,
                c :=
                  Cont.row 4 k fun i =>
                    [Value.int IntKind.i64 (g i).x, Value.int IntKind.i64 (g i).y, Value.int IntKind.i64 (g i).w,
                      Value.int IntKind.i64 (g i).h] },
            some
              { t := 44, own := true,
                c :=
                  Cont.row 4 m fun i =>
                    [Value.int IntKind.i64 (t i).x, Value.int IntKind.i64 (t i).y, Value.int IntKind.i64 (t i).w,
                      Value.int IntKind.i64 (t i).h] },
            some { t := 44, own := true, c := Cont.one [i64 a, i64 b, i64 c, i64 d] }] }) := by kernel_rfl
theorem jq_ttff {L k : Nat} {g : Nat → Rc} {m : Nat} {t : Nat → Rc} {a b c d i : Int} : (jqR L (jqS k g m t a b c d true true false false i)).go [true, true, true, true, false, false, false, false, true, true, false, true, false, false, false, true, true, true, true, true, true, true, true, true, true, true, true, true, true, true, true, true, true, false, false, false, true, true, false, false, true, false, false, false, true, true, false, false, true, false, false, false, false, false, false, false, false, false, false, false, true, true, false, false, true, false, false, false, true, true, false, false, true, false, false, false, false, false, false, false, false] =
  some
    ([decide (i < ↑m), decide ((0 : Int) ≤ i), decide (i < ↑m), decide (0 + i.toNat < m),
        !!meetB a b c d (t (0 + i.toNat)).x (t (0 + i.toNat)).y (t (0 + i.toNat)).w
              (t (0 + i.toNat)).h,
        true, true, true, decide ((0 : Int) ≤ i), decide (i < ↑m), true, decide (0 + i.toNat < m), true, true,
        !!((bif
                    meetB a b c d (t (0 + i.toNat)).x (t (0 + i.toNat)).y (t (0 + i.toNat)).w
                      (t (0 + i.toNat)).h then
                  mxI (t (0 + i.toNat)).x a
                else (0 : Int)) ==
                (t (0 + i.toNat)).x &&
              ((bif
                      meetB a b c d (t (0 + i.toNat)).x (t (0 + i.toNat)).y (t (0 + i.toNat)).w
                        (t (0 + i.toNat)).h then
                    mxI (t (0 + i.toNat)).y b
                  else (0 : Int)) ==
                  (t (0 + i.toNat)).y &&
                ((bif
                        meetB a b c d (t (0 + i.toNat)).x (t (0 + i.toNat)).y
                          (t (0 + i.toNat)).w (t (0 + i.toNat)).h then
                      w64
                        (mnI (w64 ((t (0 + i.toNat)).x + (t (0 + i.toNat)).w)) (w64 (a + c)) -
                          mxI (t (0 + i.toNat)).x a)
                    else (0 : Int)) ==
                    (t (0 + i.toNat)).w &&
                  ((bif
                          meetB a b c d (t (0 + i.toNat)).x (t (0 + i.toNat)).y
                            (t (0 + i.toNat)).w (t (0 + i.toNat)).h then
                        w64
                          (mnI (w64 ((t (0 + i.toNat)).y + (t (0 + i.toNat)).h)) (w64 (b + d)) -
                            mxI (t (0 + i.toNat)).y b)
                      else (0 : Int)) ==
                      (t (0 + i.toNat)).h &&
                    true)))),
        true, true, true, true, true, true, true, true, true, true, true, true, true, true, true, true, true, true,
        true, true, true, decide ((0 : Int) ≤ i), decide (i < ↑m), true, true, decide (0 + i.toNat < m), true,
        true, true, decide ((0 : Int) ≤ i), decide (i < ↑m), true, true, decide (0 + i.toNat < m), true, true,
        true, true, true, true, true, true, true, true, true, decide ((0 : Int) ≤ i), decide (i < ↑m), true, true,
        decide (0 + i.toNat < m), true, true, true, decide ((0 : Int) ≤ i), decide (i < ↑m), true, true,
        decide (0 + i.toNat < m), true, true, true, true, true, true, true, true],
      Ex.normal,
      {
        sl :=
          slots 173
            [(7, AV.c (AC.sl 1 0 m)), (10, AV.c (AC.ptr 2 0 0)),
              (11, Bo true), (12, Bo true),
              (13, Bo (w64 ((t (0 + i.toNat)).x + (t (0 + i.toNat)).w) == w64 (a + c))),
              (14, Bo (w64 ((t (0 + i.toNat)).y + (t (0 + i.toNat)).h) == w64 (b + d))),
              (15, I64 (w64 (i + (1 : Int))))],
        h :=
          [some
              { t := 44, own := false,
                c :=
                  Cont.row 4 k fun i =>
                    [Value.int IntKind.i64 (g i).x, Value.int IntKind.i64 (g i).y, Value.int IntKind.i64 (g i).w,
                      Value.int IntKind.i64 (g i).h] },
            some
              { t := 44, own := true,
                c :=
                  Cont.row 4 m fun i =>
                    [Value.int IntKind.i64 (t i).x, Value.int IntKind.i64 (t i).y, Value.int IntKind.i64 (t i).w,
                      Value.int IntKind.i64 (t i).h] },
            some { t := 44, own := true, c := Cont.one [i64 a, i64 b, i64 c, i64 d] }] }) := by kernel_rfl
theorem jq_tftt {L k : Nat} {g : Nat → Rc} {m : Nat} {t : Nat → Rc} {a b c d i : Int} : (jqR L (jqS k g m t a b c d true false true true i)).go [true, true, true, true, false, false, false, false, true, true, false, true, false, false, false, true, true, true, true, true, true, true, true, true, false, false, false, true, true, false, false, true, false, false, false, false] =
  some
    ([decide (i < ↑m), decide ((0 : Int) ≤ i), decide (i < ↑m), decide (0 + i.toNat < m),
        !!meetB a b c d (t (0 + i.toNat)).x (t (0 + i.toNat)).y (t (0 + i.toNat)).w
              (t (0 + i.toNat)).h,
        true, true, true, decide ((0 : Int) ≤ i), decide (i < ↑m), true, decide (0 + i.toNat < m), true, true,
        !!((bif
                    meetB a b c d (t (0 + i.toNat)).x (t (0 + i.toNat)).y (t (0 + i.toNat)).w
                      (t (0 + i.toNat)).h then
                  mxI (t (0 + i.toNat)).x a
                else (0 : Int)) ==
                (t (0 + i.toNat)).x &&
              ((bif
                      meetB a b c d (t (0 + i.toNat)).x (t (0 + i.toNat)).y (t (0 + i.toNat)).w
                        (t (0 + i.toNat)).h then
                    mxI (t (0 + i.toNat)).y b
                  else (0 : Int)) ==
                  (t (0 + i.toNat)).y &&
                ((bif
                        meetB a b c d (t (0 + i.toNat)).x (t (0 + i.toNat)).y
                          (t (0 + i.toNat)).w (t (0 + i.toNat)).h then
                      w64
                        (mnI (w64 ((t (0 + i.toNat)).x + (t (0 + i.toNat)).w)) (w64 (a + c)) -
                          mxI (t (0 + i.toNat)).x a)
                    else (0 : Int)) ==
                    (t (0 + i.toNat)).w &&
                  ((bif
                          meetB a b c d (t (0 + i.toNat)).x (t (0 + i.toNat)).y
                            (t (0 + i.toNat)).w (t (0 + i.toNat)).h then
                        w64
                          (mnI (w64 ((t (0 + i.toNat)).y + (t (0 + i.toNat)).h)) (w64 (b + d)) -
                            mxI (t (0 + i.toNat)).y b)
                      else (0 : Int)) ==
                      (t (0 + i.toNat)).h &&
                    true)))),
        true, true, true, true, true, true, true, true, true, true, true, true, decide ((0 : Int) ≤ i), decide (i < ↑m),
        true, true, decide (0 + i.toNat < m), true, true, true, true, true, true, true, true, true, true, true,
        true, true, true, true, true, true, true, true, true, true, true, true, true, true, true, true, true, true,
        true, true, true, true, true, true, true, true, true, true, true],
      Ex.normal,
      {
        sl :=
          slots 173
            [(7, AV.c (AC.sl 1 0 m)), (10, AV.c (AC.ptr 2 0 0)),
              (11, Bo true), (12, Bo ((t (0 + i.toNat)).y == b)), (13, Bo true),
              (14, Bo true), (15, I64 (w64 (i + (1 : Int))))],
        h :=
          [some
              { t := 44, own := false,
                c :=
                  Cont.row 4 k fun i =>
                    [Value.int IntKind.i64 (g i).x, Value.int IntKind.i64 (g i).y, Value.int IntKind.i64 (g i).w,
                      Value.int IntKind.i64 (g i).h] },
            some
              { t := 44, own := true,
                c :=
                  Cont.row 4 m fun i =>
                    [Value.int IntKind.i64 (t i).x, Value.int IntKind.i64 (t i).y, Value.int IntKind.i64 (t i).w,
                      Value.int IntKind.i64 (t i).h] },
            some { t := 44, own := true, c := Cont.one [i64 a, i64 b, i64 c, i64 d] }] }) := by kernel_rfl
theorem jq_tftf {L k : Nat} {g : Nat → Rc} {m : Nat} {t : Nat → Rc} {a b c d i : Int} : (jqR L (jqS k g m t a b c d true false true false i)).go [true, true, true, true, false, false, false, false, true, true, false, true, false, false, false, true, true, true, true, true, true, true, true, true, false, false, false, true, true, false, false, true, false, false, false, false, true, true, true, true, true, true, true, true, true, true, true, true, true, true, true, true, true, true, false, false, false, true, true, false, false, true, false, false, false, true, true, false, false, true, false, false, false, false, false, false, false, false] =
  some
    ([decide (i < ↑m), decide ((0 : Int) ≤ i), decide (i < ↑m), decide (0 + i.toNat < m),
        !!meetB a b c d (t (0 + i.toNat)).x (t (0 + i.toNat)).y (t (0 + i.toNat)).w
              (t (0 + i.toNat)).h,
        true, true, true, decide ((0 : Int) ≤ i), decide (i < ↑m), true, decide (0 + i.toNat < m), true, true,
        !!((bif
                    meetB a b c d (t (0 + i.toNat)).x (t (0 + i.toNat)).y (t (0 + i.toNat)).w
                      (t (0 + i.toNat)).h then
                  mxI (t (0 + i.toNat)).x a
                else (0 : Int)) ==
                (t (0 + i.toNat)).x &&
              ((bif
                      meetB a b c d (t (0 + i.toNat)).x (t (0 + i.toNat)).y (t (0 + i.toNat)).w
                        (t (0 + i.toNat)).h then
                    mxI (t (0 + i.toNat)).y b
                  else (0 : Int)) ==
                  (t (0 + i.toNat)).y &&
                ((bif
                        meetB a b c d (t (0 + i.toNat)).x (t (0 + i.toNat)).y
                          (t (0 + i.toNat)).w (t (0 + i.toNat)).h then
                      w64
                        (mnI (w64 ((t (0 + i.toNat)).x + (t (0 + i.toNat)).w)) (w64 (a + c)) -
                          mxI (t (0 + i.toNat)).x a)
                    else (0 : Int)) ==
                    (t (0 + i.toNat)).w &&
                  ((bif
                          meetB a b c d (t (0 + i.toNat)).x (t (0 + i.toNat)).y
                            (t (0 + i.toNat)).w (t (0 + i.toNat)).h then
                        w64
                          (mnI (w64 ((t (0 + i.toNat)).y + (t (0 + i.toNat)).h)) (w64 (b + d)) -
                            mxI (t (0 + i.toNat)).y b)
                      else (0 : Int)) ==
                      (t (0 + i.toNat)).h &&
                    true)))),
        true, true, true, true, true, true, true, true, true, true, true, true, decide ((0 : Int) ≤ i), decide (i < ↑m),
        true, true, decide (0 + i.toNat < m), true, true, true, true, true, true, true, true, true, true, true,
        true, true, true, true, true, true, true, true, true, true, true, true, true, true, decide ((0 : Int) ≤ i),
        decide (i < ↑m), true, true, decide (0 + i.toNat < m), true, true, true, decide ((0 : Int) ≤ i),
        decide (i < ↑m), true, true, decide (0 + i.toNat < m), true, true, true, true, true, true, true, true],
      Ex.normal,
      {
        sl :=
          slots 173
            [(7, AV.c (AC.sl 1 0 m)), (10, AV.c (AC.ptr 2 0 0)),
              (11, Bo true), (12, Bo ((t (0 + i.toNat)).y == b)), (13, Bo true),
              (14, Bo (w64 ((t (0 + i.toNat)).y + (t (0 + i.toNat)).h) == w64 (b + d))),
              (15, I64 (w64 (i + (1 : Int))))],
        h :=
          [some
              { t := 44, own := false,
                c :=
                  Cont.row 4 k fun i =>
                    [Value.int IntKind.i64 (g i).x, Value.int IntKind.i64 (g i).y, Value.int IntKind.i64 (g i).w,
                      Value.int IntKind.i64 (g i).h] },
            some
              { t := 44, own := true,
                c :=
                  Cont.row 4 m fun i =>
                    [Value.int IntKind.i64 (t i).x, Value.int IntKind.i64 (t i).y, Value.int IntKind.i64 (t i).w,
                      Value.int IntKind.i64 (t i).h] },
            some { t := 44, own := true, c := Cont.one [i64 a, i64 b, i64 c, i64 d] }] }) := by kernel_rfl
theorem jq_tfft {L k : Nat} {g : Nat → Rc} {m : Nat} {t : Nat → Rc} {a b c d i : Int} : (jqR L (jqS k g m t a b c d true false false true i)).go [true, true, true, true, false, false, false, false, true, true, false, true, false, false, false, true, true, true, true, true, true, true, true, true, false, false, false, true, true, false, false, true, false, false, false, false, false, false, false, true, true, false, false, true, false, false, false, true, true, false, false, true, false, false, false, false, false, false, false, false] =
  some
    ([decide (i < ↑m), decide ((0 : Int) ≤ i), decide (i < ↑m), decide (0 + i.toNat < m),
        !!meetB a b c d (t (0 + i.toNat)).x (t (0 + i.toNat)).y (t (0 + i.toNat)).w
              (t (0 + i.toNat)).h,
        true, true, true, decide ((0 : Int) ≤ i), decide (i < ↑m), true, decide (0 + i.toNat < m), true, true,
        !!((bif
                    meetB a b c d (t (0 + i.toNat)).x (t (0 + i.toNat)).y (t (0 + i.toNat)).w
                      (t (0 + i.toNat)).h then
                  mxI (t (0 + i.toNat)).x a
                else (0 : Int)) ==
                (t (0 + i.toNat)).x &&
              ((bif
                      meetB a b c d (t (0 + i.toNat)).x (t (0 + i.toNat)).y (t (0 + i.toNat)).w
                        (t (0 + i.toNat)).h then
                    mxI (t (0 + i.toNat)).y b
                  else (0 : Int)) ==
                  (t (0 + i.toNat)).y &&
                ((bif
                        meetB a b c d (t (0 + i.toNat)).x (t (0 + i.toNat)).y
                          (t (0 + i.toNat)).w (t (0 + i.toNat)).h then
                      w64
                        (mnI (w64 ((t (0 + i.toNat)).x + (t (0 + i.toNat)).w)) (w64 (a + c)) -
                          mxI (t (0 + i.toNat)).x a)
                    else (0 : Int)) ==
                    (t (0 + i.toNat)).w &&
                  ((bif
                          meetB a b c d (t (0 + i.toNat)).x (t (0 + i.toNat)).y
                            (t (0 + i.toNat)).w (t (0 + i.toNat)).h then
                        w64
                          (mnI (w64 ((t (0 + i.toNat)).y + (t (0 + i.toNat)).h)) (w64 (b + d)) -
                            mxI (t (0 + i.toNat)).y b)
                      else (0 : Int)) ==
                      (t (0 + i.toNat)).h &&
                    true)))),
        true, true, true, true, true, true, true, true, true, true, true, true, decide ((0 : Int) ≤ i), decide (i < ↑m),
        true, true, decide (0 + i.toNat < m), true, true, true, true, true, true, true, decide ((0 : Int) ≤ i),
        decide (i < ↑m), true, true, decide (0 + i.toNat < m), true, true, true, decide ((0 : Int) ≤ i),
        decide (i < ↑m), true, true, decide (0 + i.toNat < m), true, true, true, true, true, true, true, true,
        true, true, true, true, true, true, true, true, true, true, true, true, true, true, true, true, true, true],
      Ex.normal,
      {
        sl :=
          slots 173
            [(7, AV.c (AC.sl 1 0 m)), (10, AV.c (AC.ptr 2 0 0)),
              (11, Bo true), (12, Bo ((t (0 + i.toNat)).y == b)),
              (13, Bo (w64 ((t (0 + i.toNat)).x + (t (0 + i.toNat)).w) == w64 (a + c))),
              (14, Bo true), (15, I64 (w64 (i + (1 : Int))))],
        h :=
          [some
              { t := 44, own := false,
                c :=
                  Cont.row 4 k fun i =>
                    [Value.int IntKind.i64 (g i).x, Value.int IntKind.i64 (g i).y, Value.int IntKind.i64 (g i).w,
                      Value.int IntKind.i64 (g i).h] },
            some
              { t := 44, own := true,
                c :=
                  Cont.row 4 m fun i =>
                    [Value.int IntKind.i64 (t i).x, Value.int IntKind.i64 (t i).y, Value.int IntKind.i64 (t i).w,
                      Value.int IntKind.i64 (t i).h] },
            some { t := 44, own := true, c := Cont.one [i64 a, i64 b, i64 c, i64 d] }] }) := by kernel_rfl
theorem jq_tfff {L k : Nat} {g : Nat → Rc} {m : Nat} {t : Nat → Rc} {a b c d i : Int} : (jqR L (jqS k g m t a b c d true false false false i)).go [true, true, true, true, false, false, false, false, true, true, false, true, false, false, false, true, true, true, true, true, true, true, true, true, false, false, false, true, true, false, false, true, false, false, false, false, false, false, false, true, true, false, false, true, false, false, false, true, true, false, false, true, false, false, false, false, false, false, false, false, false, false, false, true, true, false, false, true, false, false, false, true, true, false, false, true, false, false, false, false, false, false, false, false] =
  some
    ([decide (i < ↑m), decide ((0 : Int) ≤ i), decide (i < ↑m), decide (0 + i.toNat < m),
        !!meetB a b c d (t (0 + i.toNat)).x (t (0 + i.toNat)).y (t (0 + i.toNat)).w
              (t (0 + i.toNat)).h,
        true, true, true, decide ((0 : Int) ≤ i), decide (i < ↑m), true, decide (0 + i.toNat < m), true, true,
        !!((bif
                    meetB a b c d (t (0 + i.toNat)).x (t (0 + i.toNat)).y (t (0 + i.toNat)).w
                      (t (0 + i.toNat)).h then
                  mxI (t (0 + i.toNat)).x a
                else (0 : Int)) ==
                (t (0 + i.toNat)).x &&
              ((bif
                      meetB a b c d (t (0 + i.toNat)).x (t (0 + i.toNat)).y (t (0 + i.toNat)).w
                        (t (0 + i.toNat)).h then
                    mxI (t (0 + i.toNat)).y b
                  else (0 : Int)) ==
                  (t (0 + i.toNat)).y &&
                ((bif
                        meetB a b c d (t (0 + i.toNat)).x (t (0 + i.toNat)).y
                          (t (0 + i.toNat)).w (t (0 + i.toNat)).h then
                      w64
                        (mnI (w64 ((t (0 + i.toNat)).x + (t (0 + i.toNat)).w)) (w64 (a + c)) -
                          mxI (t (0 + i.toNat)).x a)
                    else (0 : Int)) ==
                    (t (0 + i.toNat)).w &&
                  ((bif
                          meetB a b c d (t (0 + i.toNat)).x (t (0 + i.toNat)).y
                            (t (0 + i.toNat)).w (t (0 + i.toNat)).h then
                        w64
                          (mnI (w64 ((t (0 + i.toNat)).y + (t (0 + i.toNat)).h)) (w64 (b + d)) -
                            mxI (t (0 + i.toNat)).y b)
                      else (0 : Int)) ==
                      (t (0 + i.toNat)).h &&
                    true)))),
        true, true, true, true, true, true, true, true, true, true, true, true, decide ((0 : Int) ≤ i), decide (i < ↑m),
        true, true, decide (0 + i.toNat < m), true, true, true, true, true, true, true, decide ((0 : Int) ≤ i),
        decide (i < ↑m), true, true, decide (0 + i.toNat < m), true, true, true, decide ((0 : Int) ≤ i),
        decide (i < ↑m), true, true, decide (0 + i.toNat < m), true, true, true, true, true, true, true, true,
        true, true, true, decide ((0 : Int) ≤ i), decide (i < ↑m), true, true, decide (0 + i.toNat < m), true,
        true, true, decide ((0 : Int) ≤ i), decide (i < ↑m), true, true, decide (0 + i.toNat < m), true, true,
        true, true, true, true, true, true],
      Ex.normal,
      {
        sl :=
          slots 173
            [(7, AV.c (AC.sl 1 0 m)), (10, AV.c (AC.ptr 2 0 0)),
              (11, Bo true), (12, Bo ((t (0 + i.toNat)).y == b)),
              (13, Bo (w64 ((t (0 + i.toNat)).x + (t (0 + i.toNat)).w) == w64 (a + c))),
              (14, Bo (w64 ((t (0 + i.toNat)).y + (t (0 + i.toNat)).h) == w64 (b + d))),
              (15, I64 (w64 (i + (1 : Int))))],
        h :=
          [some
              { t := 44, own := false,
                c :=
                  Cont.row 4 k fun i =>
                    [Value.int IntKind.i64 (g i).x, Value.int IntKind.i64 (g i).y, Value.int IntKind.i64 (g i).w,
                      Value.int IntKind.i64 (g i).h] },
            some
              { t := 44, own := true,
                c :=
                  Cont.row 4 m fun i =>
                    [Value.int IntKind.i64 (t i).x, Value.int IntKind.i64 (t i).y, Value.int IntKind.i64 (t i).w,
                      Value.int IntKind.i64 (t i).h] },
            some { t := 44, own := true, c := Cont.one [i64 a, i64 b, i64 c, i64 d] }] }) := by kernel_rfl
theorem jq_fttt {L k : Nat} {g : Nat → Rc} {m : Nat} {t : Nat → Rc} {a b c d i : Int} : (jqR L (jqS k g m t a b c d false true true true i)).go [true, true, true, true, false, false, false, false, true, true, false, true, false, false, false, false, false, false, true, true, false, false, true, false, false, false, false] =
  some
    ([decide (i < ↑m), decide ((0 : Int) ≤ i), decide (i < ↑m), decide (0 + i.toNat < m),
        !!meetB a b c d (t (0 + i.toNat)).x (t (0 + i.toNat)).y (t (0 + i.toNat)).w
              (t (0 + i.toNat)).h,
        true, true, true, decide ((0 : Int) ≤ i), decide (i < ↑m), true, decide (0 + i.toNat < m), true, true,
        !!((bif
                    meetB a b c d (t (0 + i.toNat)).x (t (0 + i.toNat)).y (t (0 + i.toNat)).w
                      (t (0 + i.toNat)).h then
                  mxI (t (0 + i.toNat)).x a
                else (0 : Int)) ==
                (t (0 + i.toNat)).x &&
              ((bif
                      meetB a b c d (t (0 + i.toNat)).x (t (0 + i.toNat)).y (t (0 + i.toNat)).w
                        (t (0 + i.toNat)).h then
                    mxI (t (0 + i.toNat)).y b
                  else (0 : Int)) ==
                  (t (0 + i.toNat)).y &&
                ((bif
                        meetB a b c d (t (0 + i.toNat)).x (t (0 + i.toNat)).y
                          (t (0 + i.toNat)).w (t (0 + i.toNat)).h then
                      w64
                        (mnI (w64 ((t (0 + i.toNat)).x + (t (0 + i.toNat)).w)) (w64 (a + c)) -
                          mxI (t (0 + i.toNat)).x a)
                    else (0 : Int)) ==
                    (t (0 + i.toNat)).w &&
                  ((bif
                          meetB a b c d (t (0 + i.toNat)).x (t (0 + i.toNat)).y
                            (t (0 + i.toNat)).w (t (0 + i.toNat)).h then
                        w64
                          (mnI (w64 ((t (0 + i.toNat)).y + (t (0 + i.toNat)).h)) (w64 (b + d)) -
                            mxI (t (0 + i.toNat)).y b)
                      else (0 : Int)) ==
                      (t (0 + i.toNat)).h &&
                    true)))),
        true, true, true, decide ((0 : Int) ≤ i), decide (i < ↑m), true, true, decide (0 + i.toNat < m), true,
        true, true, true, true, true, true, true, true, true, true, true, true, true, true, true, true, true, true,
        true, true, true, true, true, true, true, true, true, true, true, true, true, true, true, true, true, true,
        true, true, true, true, true, true, true, true, true, true, true, true],
      Ex.normal,
      {
        sl :=
          slots 173
            [(7, AV.c (AC.sl 1 0 m)), (10, AV.c (AC.ptr 2 0 0)),
              (11, Bo ((t (0 + i.toNat)).x == a)), (12, Bo true), (13, Bo true),
              (14, Bo true), (15, I64 (w64 (i + (1 : Int))))],
        h :=
          [some
              { t := 44, own := false,
                c :=
                  Cont.row 4 k fun i =>
                    [Value.int IntKind.i64 (g i).x, Value.int IntKind.i64 (g i).y, Value.int IntKind.i64 (g i).w,
                      Value.int IntKind.i64 (g i).h] },
            some
              { t := 44, own := true,
                c :=
                  Cont.row 4 m fun i =>
                    [Value.int IntKind.i64 (t i).x, Value.int IntKind.i64 (t i).y, Value.int IntKind.i64 (t i).w,
                      Value.int IntKind.i64 (t i).h] },
            some { t := 44, own := true, c := Cont.one [i64 a, i64 b, i64 c, i64 d] }] }) := by kernel_rfl
theorem jq_fttf {L k : Nat} {g : Nat → Rc} {m : Nat} {t : Nat → Rc} {a b c d i : Int} : (jqR L (jqS k g m t a b c d false true true false i)).go [true, true, true, true, false, false, false, false, true, true, false, true, false, false, false, false, false, false, true, true, false, false, true, false, false, false, false, true, true, true, true, true, true, true, true, true, true, true, true, true, true, true, true, true, true, true, true, true, true, true, true, true, true, true, false, false, false, true, true, false, false, true, false, false, false, true, true, false, false, true, false, false, false, false, false, false, false, false] =
  some
    ([decide (i < ↑m), decide ((0 : Int) ≤ i), decide (i < ↑m), decide (0 + i.toNat < m),
        !!meetB a b c d (t (0 + i.toNat)).x (t (0 + i.toNat)).y (t (0 + i.toNat)).w
              (t (0 + i.toNat)).h,
        true, true, true, decide ((0 : Int) ≤ i), decide (i < ↑m), true, decide (0 + i.toNat < m), true, true,
        !!((bif
                    meetB a b c d (t (0 + i.toNat)).x (t (0 + i.toNat)).y (t (0 + i.toNat)).w
                      (t (0 + i.toNat)).h then
                  mxI (t (0 + i.toNat)).x a
                else (0 : Int)) ==
                (t (0 + i.toNat)).x &&
              ((bif
                      meetB a b c d (t (0 + i.toNat)).x (t (0 + i.toNat)).y (t (0 + i.toNat)).w
                        (t (0 + i.toNat)).h then
                    mxI (t (0 + i.toNat)).y b
                  else (0 : Int)) ==
                  (t (0 + i.toNat)).y &&
                ((bif
                        meetB a b c d (t (0 + i.toNat)).x (t (0 + i.toNat)).y
                          (t (0 + i.toNat)).w (t (0 + i.toNat)).h then
                      w64
                        (mnI (w64 ((t (0 + i.toNat)).x + (t (0 + i.toNat)).w)) (w64 (a + c)) -
                          mxI (t (0 + i.toNat)).x a)
                    else (0 : Int)) ==
                    (t (0 + i.toNat)).w &&
                  ((bif
                          meetB a b c d (t (0 + i.toNat)).x (t (0 + i.toNat)).y
                            (t (0 + i.toNat)).w (t (0 + i.toNat)).h then
                        w64
                          (mnI (w64 ((t (0 + i.toNat)).y + (t (0 + i.toNat)).h)) (w64 (b + d)) -
                            mxI (t (0 + i.toNat)).y b)
                      else (0 : Int)) ==
                      (t (0 + i.toNat)).h &&
                    true)))),
        true, true, true, decide ((0 : Int) ≤ i), decide (i < ↑m), true, true, decide (0 + i.toNat < m), true,
        true, true, true, true, true, true, true, true, true, true, true, true, true, true, true, true, true, true,
        true, true, true, true, true, true, true, true, true, true, true, true, true, true, true,
        decide ((0 : Int) ≤ i), decide (i < ↑m), true, true, decide (0 + i.toNat < m), true, true, true,
        decide ((0 : Int) ≤ i), decide (i < ↑m), true, true, decide (0 + i.toNat < m), true, true, true, true,
        true, true, true, true],
      Ex.normal,
      {
        sl :=
          slots 173
            [(7, AV.c (AC.sl 1 0 m)), (10, AV.c (AC.ptr 2 0 0)),
              (11, Bo ((t (0 + i.toNat)).x == a)), (12, Bo true), (13, Bo true),
              (14, Bo (w64 ((t (0 + i.toNat)).y + (t (0 + i.toNat)).h) == w64 (b + d))),
              (15, I64 (w64 (i + (1 : Int))))],
        h :=
          [some
              { t := 44, own := false,
                c :=
                  Cont.row 4 k fun i =>
                    [Value.int IntKind.i64 (g i).x, Value.int IntKind.i64 (g i).y, Value.int IntKind.i64 (g i).w,
                      Value.int IntKind.i64 (g i).h] },
            some
              { t := 44, own := true,
                c :=
                  Cont.row 4 m fun i =>
                    [Value.int IntKind.i64 (t i).x, Value.int IntKind.i64 (t i).y, Value.int IntKind.i64 (t i).w,
                      Value.int IntKind.i64 (t i).h] },
            some { t := 44, own := true, c := Cont.one [i64 a, i64 b, i64 c, i64 d] }] }) := by kernel_rfl
theorem jq_ftft {L k : Nat} {g : Nat → Rc} {m : Nat} {t : Nat → Rc} {a b c d i : Int} : (jqR L (jqS k g m t a b c d false true false true i)).go [true, true, true, true, false, false, false, false, true, true, false, true, false, false, false, false, false, false, true, true, false, false, true, false, false, false, false, true, true, true, true, true, true, true, true, true, false, false, false, true, true, false, false, true, false, false, false, true, true, false, false, true, false, false, false, false, false, false, false, false] =
  some
    ([decide (i < ↑m), decide ((0 : Int) ≤ i), decide (i < ↑m), decide (0 + i.toNat < m),
        !!meetB a b c d (t (0 + i.toNat)).x (t (0 + i.toNat)).y (t (0 + i.toNat)).w
              (t (0 + i.toNat)).h,
        true, true, true, decide ((0 : Int) ≤ i), decide (i < ↑m), true, decide (0 + i.toNat < m), true, true,
        !!((bif
                    meetB a b c d (t (0 + i.toNat)).x (t (0 + i.toNat)).y (t (0 + i.toNat)).w
                      (t (0 + i.toNat)).h then
                  mxI (t (0 + i.toNat)).x a
                else (0 : Int)) ==
                (t (0 + i.toNat)).x &&
              ((bif
                      meetB a b c d (t (0 + i.toNat)).x (t (0 + i.toNat)).y (t (0 + i.toNat)).w
                        (t (0 + i.toNat)).h then
                    mxI (t (0 + i.toNat)).y b
                  else (0 : Int)) ==
                  (t (0 + i.toNat)).y &&
                ((bif
                        meetB a b c d (t (0 + i.toNat)).x (t (0 + i.toNat)).y
                          (t (0 + i.toNat)).w (t (0 + i.toNat)).h then
                      w64
                        (mnI (w64 ((t (0 + i.toNat)).x + (t (0 + i.toNat)).w)) (w64 (a + c)) -
                          mxI (t (0 + i.toNat)).x a)
                    else (0 : Int)) ==
                    (t (0 + i.toNat)).w &&
                  ((bif
                          meetB a b c d (t (0 + i.toNat)).x (t (0 + i.toNat)).y
                            (t (0 + i.toNat)).w (t (0 + i.toNat)).h then
                        w64
                          (mnI (w64 ((t (0 + i.toNat)).y + (t (0 + i.toNat)).h)) (w64 (b + d)) -
                            mxI (t (0 + i.toNat)).y b)
                      else (0 : Int)) ==
                      (t (0 + i.toNat)).h &&
                    true)))),
        true, true, true, decide ((0 : Int) ≤ i), decide (i < ↑m), true, true, decide (0 + i.toNat < m), true,
        true, true, true, true, true, true, true, true, true, true, true, true, true, true, true,
        decide ((0 : Int) ≤ i), decide (i < ↑m), true, true, decide (0 + i.toNat < m), true, true, true,
        decide ((0 : Int) ≤ i), decide (i < ↑m), true, true, decide (0 + i.toNat < m), true, true, true, true,
        true, true, true, true, true, true, true, true, true, true, true, true, true, true, true, true, true, true,
        true, true, true, true],
      Ex.normal,
      {
        sl :=
          slots 173
            [(7, AV.c (AC.sl 1 0 m)), (10, AV.c (AC.ptr 2 0 0)),
              (11, Bo ((t (0 + i.toNat)).x == a)), (12, Bo true),
              (13, Bo (w64 ((t (0 + i.toNat)).x + (t (0 + i.toNat)).w) == w64 (a + c))),
              (14, Bo true), (15, I64 (w64 (i + (1 : Int))))],
        h :=
          [some
              { t := 44, own := false,
                c :=
                  Cont.row 4 k fun i =>
                    [Value.int IntKind.i64 (g i).x, Value.int IntKind.i64 (g i).y, Value.int IntKind.i64 (g i).w,
                      Value.int IntKind.i64 (g i).h] },
            some
              { t := 44, own := true,
                c :=
                  Cont.row 4 m fun i =>
                    [Value.int IntKind.i64 (t i).x, Value.int IntKind.i64 (t i).y, Value.int IntKind.i64 (t i).w,
                      Value.int IntKind.i64 (t i).h] },
            some { t := 44, own := true, c := Cont.one [i64 a, i64 b, i64 c, i64 d] }] }) := by kernel_rfl
theorem jq_ftff {L k : Nat} {g : Nat → Rc} {m : Nat} {t : Nat → Rc} {a b c d i : Int} : (jqR L (jqS k g m t a b c d false true false false i)).go [true, true, true, true, false, false, false, false, true, true, false, true, false, false, false, false, false, false, true, true, false, false, true, false, false, false, false, true, true, true, true, true, true, true, true, true, false, false, false, true, true, false, false, true, false, false, false, true, true, false, false, true, false, false, false, false, false, false, false, false, false, false, false, true, true, false, false, true, false, false, false, true, true, false, false, true, false, false, false, false, false, false, false, false] =
  some
    ([decide (i < ↑m), decide ((0 : Int) ≤ i), decide (i < ↑m), decide (0 + i.toNat < m),
        !!meetB a b c d (t (0 + i.toNat)).x (t (0 + i.toNat)).y (t (0 + i.toNat)).w
              (t (0 + i.toNat)).h,
        true, true, true, decide ((0 : Int) ≤ i), decide (i < ↑m), true, decide (0 + i.toNat < m), true, true,
        !!((bif
                    meetB a b c d (t (0 + i.toNat)).x (t (0 + i.toNat)).y (t (0 + i.toNat)).w
                      (t (0 + i.toNat)).h then
                  mxI (t (0 + i.toNat)).x a
                else (0 : Int)) ==
                (t (0 + i.toNat)).x &&
              ((bif
                      meetB a b c d (t (0 + i.toNat)).x (t (0 + i.toNat)).y (t (0 + i.toNat)).w
                        (t (0 + i.toNat)).h then
                    mxI (t (0 + i.toNat)).y b
                  else (0 : Int)) ==
                  (t (0 + i.toNat)).y &&
                ((bif
                        meetB a b c d (t (0 + i.toNat)).x (t (0 + i.toNat)).y
                          (t (0 + i.toNat)).w (t (0 + i.toNat)).h then
                      w64
                        (mnI (w64 ((t (0 + i.toNat)).x + (t (0 + i.toNat)).w)) (w64 (a + c)) -
                          mxI (t (0 + i.toNat)).x a)
                    else (0 : Int)) ==
                    (t (0 + i.toNat)).w &&
                  ((bif
                          meetB a b c d (t (0 + i.toNat)).x (t (0 + i.toNat)).y
                            (t (0 + i.toNat)).w (t (0 + i.toNat)).h then
                        w64
                          (mnI (w64 ((t (0 + i.toNat)).y + (t (0 + i.toNat)).h)) (w64 (b + d)) -
                            mxI (t (0 + i.toNat)).y b)
                      else (0 : Int)) ==
                      (t (0 + i.toNat)).h &&
                    true)))),
        true, true, true, decide ((0 : Int) ≤ i), decide (i < ↑m), true, true, decide (0 + i.toNat < m), true,
        true, true, true, true, true, true, true, true, true, true, true, true, true, true, true,
        decide ((0 : Int) ≤ i), decide (i < ↑m), true, true, decide (0 + i.toNat < m), true, true, true,
        decide ((0 : Int) ≤ i), decide (i < ↑m), true, true, decide (0 + i.toNat < m), true, true, true, true,
        true, true, true, true, true, true, true, decide ((0 : Int) ≤ i), decide (i < ↑m), true, true,
        decide (0 + i.toNat < m), true, true, true, decide ((0 : Int) ≤ i), decide (i < ↑m), true, true,
        decide (0 + i.toNat < m), true, true, true, true, true, true, true, true],
      Ex.normal,
      {
        sl :=
          slots 173
            [(7, AV.c (AC.sl 1 0 m)), (10, AV.c (AC.ptr 2 0 0)),
              (11, Bo ((t (0 + i.toNat)).x == a)), (12, Bo true),
              (13, Bo (w64 ((t (0 + i.toNat)).x + (t (0 + i.toNat)).w) == w64 (a + c))),
              (14, Bo (w64 ((t (0 + i.toNat)).y + (t (0 + i.toNat)).h) == w64 (b + d))),
              (15, I64 (w64 (i + (1 : Int))))],
        h :=
          [some
              { t := 44, own := false,
                c :=
                  Cont.row 4 k fun i =>
                    [Value.int IntKind.i64 (g i).x, Value.int IntKind.i64 (g i).y, Value.int IntKind.i64 (g i).w,
                      Value.int IntKind.i64 (g i).h] },
            some
              { t := 44, own := true,
                c :=
                  Cont.row 4 m fun i =>
                    [Value.int IntKind.i64 (t i).x, Value.int IntKind.i64 (t i).y, Value.int IntKind.i64 (t i).w,
                      Value.int IntKind.i64 (t i).h] },
            some { t := 44, own := true, c := Cont.one [i64 a, i64 b, i64 c, i64 d] }] }) := by kernel_rfl
theorem jq_fftt {L k : Nat} {g : Nat → Rc} {m : Nat} {t : Nat → Rc} {a b c d i : Int} : (jqR L (jqS k g m t a b c d false false true true i)).go [true, true, true, true, false, false, false, false, true, true, false, true, false, false, false, false, false, false, true, true, false, false, true, false, false, false, false, false, false, false, true, true, false, false, true, false, false, false, false] =
  some
    ([decide (i < ↑m), decide ((0 : Int) ≤ i), decide (i < ↑m), decide (0 + i.toNat < m),
        !!meetB a b c d (t (0 + i.toNat)).x (t (0 + i.toNat)).y (t (0 + i.toNat)).w
              (t (0 + i.toNat)).h,
        true, true, true, decide ((0 : Int) ≤ i), decide (i < ↑m), true, decide (0 + i.toNat < m), true, true,
        !!((bif
                    meetB a b c d (t (0 + i.toNat)).x (t (0 + i.toNat)).y (t (0 + i.toNat)).w
                      (t (0 + i.toNat)).h then
                  mxI (t (0 + i.toNat)).x a
                else (0 : Int)) ==
                (t (0 + i.toNat)).x &&
              ((bif
                      meetB a b c d (t (0 + i.toNat)).x (t (0 + i.toNat)).y (t (0 + i.toNat)).w
                        (t (0 + i.toNat)).h then
                    mxI (t (0 + i.toNat)).y b
                  else (0 : Int)) ==
                  (t (0 + i.toNat)).y &&
                ((bif
                        meetB a b c d (t (0 + i.toNat)).x (t (0 + i.toNat)).y
                          (t (0 + i.toNat)).w (t (0 + i.toNat)).h then
                      w64
                        (mnI (w64 ((t (0 + i.toNat)).x + (t (0 + i.toNat)).w)) (w64 (a + c)) -
                          mxI (t (0 + i.toNat)).x a)
                    else (0 : Int)) ==
                    (t (0 + i.toNat)).w &&
                  ((bif
                          meetB a b c d (t (0 + i.toNat)).x (t (0 + i.toNat)).y
                            (t (0 + i.toNat)).w (t (0 + i.toNat)).h then
                        w64
                          (mnI (w64 ((t (0 + i.toNat)).y + (t (0 + i.toNat)).h)) (w64 (b + d)) -
                            mxI (t (0 + i.toNat)).y b)
                      else (0 : Int)) ==
                      (t (0 + i.toNat)).h &&
                    true)))),
        true, true, true, decide ((0 : Int) ≤ i), decide (i < ↑m), true, true, decide (0 + i.toNat < m), true,
        true, true, true, true, true, true, decide ((0 : Int) ≤ i), decide (i < ↑m), true, true,
        decide (0 + i.toNat < m), true, true, true, true, true, true, true, true, true, true, true, true, true,
        true, true, true, true, true, true, true, true, true, true, true, true, true, true, true, true, true, true,
        true, true, true, true, true, true, true, true, true],
      Ex.normal,
      {
        sl :=
          slots 173
            [(7, AV.c (AC.sl 1 0 m)), (10, AV.c (AC.ptr 2 0 0)),
              (11, Bo ((t (0 + i.toNat)).x == a)), (12, Bo ((t (0 + i.toNat)).y == b)),
              (13, Bo true), (14, Bo true), (15, I64 (w64 (i + (1 : Int))))],
        h :=
          [some
              { t := 44, own := false,
                c :=
                  Cont.row 4 k fun i =>
                    [Value.int IntKind.i64 (g i).x, Value.int IntKind.i64 (g i).y, Value.int IntKind.i64 (g i).w,
                      Value.int IntKind.i64 (g i).h] },
            some
              { t := 44, own := true,
                c :=
                  Cont.row 4 m fun i =>
                    [Value.int IntKind.i64 (t i).x, Value.int IntKind.i64 (t i).y, Value.int IntKind.i64 (t i).w,
                      Value.int IntKind.i64 (t i).h] },
            some { t := 44, own := true, c := Cont.one [i64 a, i64 b, i64 c, i64 d] }] }) := by kernel_rfl
theorem jq_fftf {L k : Nat} {g : Nat → Rc} {m : Nat} {t : Nat → Rc} {a b c d i : Int} : (jqR L (jqS k g m t a b c d false false true false i)).go [true, true, true, true, false, false, false, false, true, true, false, true, false, false, false, false, false, false, true, true, false, false, true, false, false, false, false, false, false, false, true, true, false, false, true, false, false, false, false, true, true, true, true, true, true, true, true, true, true, true, true, true, true, true, true, true, true, false, false, false, true, true, false, false, true, false, false, false, true, true, false, false, true, false, false, false, false, false, false, false, false] =
  some
    ([decide (i < ↑m), decide ((0 : Int) ≤ i), decide (i < ↑m), decide (0 + i.toNat < m),
        !!meetB a b c d (t (0 + i.toNat)).x (t (0 + i.toNat)).y (t (0 + i.toNat)).w
              (t (0 + i.toNat)).h,
        true, true, true, decide ((0 : Int) ≤ i), decide (i < ↑m), true, decide (0 + i.toNat < m), true, true,
        !!((bif
                    meetB a b c d (t (0 + i.toNat)).x (t (0 + i.toNat)).y (t (0 + i.toNat)).w
                      (t (0 + i.toNat)).h then
                  mxI (t (0 + i.toNat)).x a
                else (0 : Int)) ==
                (t (0 + i.toNat)).x &&
              ((bif
                      meetB a b c d (t (0 + i.toNat)).x (t (0 + i.toNat)).y (t (0 + i.toNat)).w
                        (t (0 + i.toNat)).h then
                    mxI (t (0 + i.toNat)).y b
                  else (0 : Int)) ==
                  (t (0 + i.toNat)).y &&
                ((bif
                        meetB a b c d (t (0 + i.toNat)).x (t (0 + i.toNat)).y
                          (t (0 + i.toNat)).w (t (0 + i.toNat)).h then
                      w64
                        (mnI (w64 ((t (0 + i.toNat)).x + (t (0 + i.toNat)).w)) (w64 (a + c)) -
                          mxI (t (0 + i.toNat)).x a)
                    else (0 : Int)) ==
                    (t (0 + i.toNat)).w &&
                  ((bif
                          meetB a b c d (t (0 + i.toNat)).x (t (0 + i.toNat)).y
                            (t (0 + i.toNat)).w (t (0 + i.toNat)).h then
                        w64
                          (mnI (w64 ((t (0 + i.toNat)).y + (t (0 + i.toNat)).h)) (w64 (b + d)) -
                            mxI (t (0 + i.toNat)).y b)
                      else (0 : Int)) ==
                      (t (0 + i.toNat)).h &&
                    true)))),
        true, true, true, decide ((0 : Int) ≤ i), decide (i < ↑m), true, true, decide (0 + i.toNat < m), true,
        true, true, true, true, true, true, decide ((0 : Int) ≤ i), decide (i < ↑m), true, true,
        decide (0 + i.toNat < m), true, true, true, true, true, true, true, true, true, true, true, true, true,
        true, true, true, true, true, true, true, true, true, true, true, true, decide ((0 : Int) ≤ i), decide (i < ↑m),
        true, true, decide (0 + i.toNat < m), true, true, true, decide ((0 : Int) ≤ i), decide (i < ↑m), true,
        true, decide (0 + i.toNat < m), true, true, true, true, true, true, true, true],
      Ex.normal,
      {
        sl :=
          slots 173
            [(7, AV.c (AC.sl 1 0 m)), (10, AV.c (AC.ptr 2 0 0)),
              (11, Bo ((t (0 + i.toNat)).x == a)), (12, Bo ((t (0 + i.toNat)).y == b)),
              (13, Bo true),
              (14, Bo (w64 ((t (0 + i.toNat)).y + (t (0 + i.toNat)).h) == w64 (b + d))),
              (15, I64 (w64 (i + (1 : Int))))],
        h :=
          [some
              { t := 44, own := false,
                c :=
                  Cont.row 4 k fun i =>
                    [Value.int IntKind.i64 (g i).x, Value.int IntKind.i64 (g i).y, Value.int IntKind.i64 (g i).w,
                      Value.int IntKind.i64 (g i).h] },
            some
              { t := 44, own := true,
                c :=
                  Cont.row 4 m fun i =>
                    [Value.int IntKind.i64 (t i).x, Value.int IntKind.i64 (t i).y, Value.int IntKind.i64 (t i).w,
                      Value.int IntKind.i64 (t i).h] },
            some { t := 44, own := true, c := Cont.one [i64 a, i64 b, i64 c, i64 d] }] }) := by kernel_rfl
theorem jq_ffft {L k : Nat} {g : Nat → Rc} {m : Nat} {t : Nat → Rc} {a b c d i : Int} : (jqR L (jqS k g m t a b c d false false false true i)).go [true, true, true, true, false, false, false, false, true, true, false, true, false, false, false, false, false, false, true, true, false, false, true, false, false, false, false, false, false, false, true, true, false, false, true, false, false, false, false, false, false, false, true, true, false, false, true, false, false, false, true, true, false, false, true, false, false, false, false, false, false, false, false] =
  some
    ([decide (i < ↑m), decide ((0 : Int) ≤ i), decide (i < ↑m), decide (0 + i.toNat < m),
        !!meetB a b c d (t (0 + i.toNat)).x (t (0 + i.toNat)).y (t (0 + i.toNat)).w
              (t (0 + i.toNat)).h,
        true, true, true, decide ((0 : Int) ≤ i), decide (i < ↑m), true, decide (0 + i.toNat < m), true, true,
        !!((bif
                    meetB a b c d (t (0 + i.toNat)).x (t (0 + i.toNat)).y (t (0 + i.toNat)).w
                      (t (0 + i.toNat)).h then
                  mxI (t (0 + i.toNat)).x a
                else (0 : Int)) ==
                (t (0 + i.toNat)).x &&
              ((bif
                      meetB a b c d (t (0 + i.toNat)).x (t (0 + i.toNat)).y (t (0 + i.toNat)).w
                        (t (0 + i.toNat)).h then
                    mxI (t (0 + i.toNat)).y b
                  else (0 : Int)) ==
                  (t (0 + i.toNat)).y &&
                ((bif
                        meetB a b c d (t (0 + i.toNat)).x (t (0 + i.toNat)).y
                          (t (0 + i.toNat)).w (t (0 + i.toNat)).h then
                      w64
                        (mnI (w64 ((t (0 + i.toNat)).x + (t (0 + i.toNat)).w)) (w64 (a + c)) -
                          mxI (t (0 + i.toNat)).x a)
                    else (0 : Int)) ==
                    (t (0 + i.toNat)).w &&
                  ((bif
                          meetB a b c d (t (0 + i.toNat)).x (t (0 + i.toNat)).y
                            (t (0 + i.toNat)).w (t (0 + i.toNat)).h then
                        w64
                          (mnI (w64 ((t (0 + i.toNat)).y + (t (0 + i.toNat)).h)) (w64 (b + d)) -
                            mxI (t (0 + i.toNat)).y b)
                      else (0 : Int)) ==
                      (t (0 + i.toNat)).h &&
                    true)))),
        true, true, true, decide ((0 : Int) ≤ i), decide (i < ↑m), true, true, decide (0 + i.toNat < m), true,
        true, true, true, true, true, true, decide ((0 : Int) ≤ i), decide (i < ↑m), true, true,
        decide (0 + i.toNat < m), true, true, true, true, true, true, true, decide ((0 : Int) ≤ i),
        decide (i < ↑m), true, true, decide (0 + i.toNat < m), true, true, true, decide ((0 : Int) ≤ i),
        decide (i < ↑m), true, true, decide (0 + i.toNat < m), true, true, true, true, true, true, true, true,
        true, true, true, true, true, true, true, true, true, true, true, true, true, true, true, true, true, true],
      Ex.normal,
      {
        sl :=
          slots 173
            [(7, AV.c (AC.sl 1 0 m)), (10, AV.c (AC.ptr 2 0 0)),
              (11, Bo ((t (0 + i.toNat)).x == a)), (12, Bo ((t (0 + i.toNat)).y == b)),
              (13, Bo (w64 ((t (0 + i.toNat)).x + (t (0 + i.toNat)).w) == w64 (a + c))),
              (14, Bo true), (15, I64 (w64 (i + (1 : Int))))],
        h :=
          [some
              { t := 44, own := false,
                c :=
                  Cont.row 4 k fun i =>
                    [Value.int IntKind.i64 (g i).x, Value.int IntKind.i64 (g i).y, Value.int IntKind.i64 (g i).w,
                      Value.int IntKind.i64 (g i).h] },
            some
              { t := 44, own := true,
                c :=
                  Cont.row 4 m fun i =>
                    [Value.int IntKind.i64 (t i).x, Value.int IntKind.i64 (t i).y, Value.int IntKind.i64 (t i).w,
                      Value.int IntKind.i64 (t i).h] },
            some { t := 44, own := true, c := Cont.one [i64 a, i64 b, i64 c, i64 d] }] }) := by kernel_rfl
theorem jq_ffff {L k : Nat} {g : Nat → Rc} {m : Nat} {t : Nat → Rc} {a b c d i : Int} : (jqR L (jqS k g m t a b c d false false false false i)).go [true, true, true, true, false, false, false, false, true, true, false, true, false, false, false, false, false, false, true, true, false, false, true, false, false, false, false, false, false, false, true, true, false, false, true, false, false, false, false, false, false, false, true, true, false, false, true, false, false, false, true, true, false, false, true, false, false, false, false, false, false, false, false, false, false, false, true, true, false, false, true, false, false, false, true, true, false, false, true, false, false, false, false, false, false, false, false] =
  some
    ([decide (i < ↑m), decide ((0 : Int) ≤ i), decide (i < ↑m), decide (0 + i.toNat < m),
        !!meetB a b c d (t (0 + i.toNat)).x (t (0 + i.toNat)).y (t (0 + i.toNat)).w
              (t (0 + i.toNat)).h,
        true, true, true, decide ((0 : Int) ≤ i), decide (i < ↑m), true, decide (0 + i.toNat < m), true, true,
        !!((bif
                    meetB a b c d (t (0 + i.toNat)).x (t (0 + i.toNat)).y (t (0 + i.toNat)).w
                      (t (0 + i.toNat)).h then
                  mxI (t (0 + i.toNat)).x a
                else (0 : Int)) ==
                (t (0 + i.toNat)).x &&
              ((bif
                      meetB a b c d (t (0 + i.toNat)).x (t (0 + i.toNat)).y (t (0 + i.toNat)).w
                        (t (0 + i.toNat)).h then
                    mxI (t (0 + i.toNat)).y b
                  else (0 : Int)) ==
                  (t (0 + i.toNat)).y &&
                ((bif
                        meetB a b c d (t (0 + i.toNat)).x (t (0 + i.toNat)).y
                          (t (0 + i.toNat)).w (t (0 + i.toNat)).h then
                      w64
                        (mnI (w64 ((t (0 + i.toNat)).x + (t (0 + i.toNat)).w)) (w64 (a + c)) -
                          mxI (t (0 + i.toNat)).x a)
                    else (0 : Int)) ==
                    (t (0 + i.toNat)).w &&
                  ((bif
                          meetB a b c d (t (0 + i.toNat)).x (t (0 + i.toNat)).y
                            (t (0 + i.toNat)).w (t (0 + i.toNat)).h then
                        w64
                          (mnI (w64 ((t (0 + i.toNat)).y + (t (0 + i.toNat)).h)) (w64 (b + d)) -
                            mxI (t (0 + i.toNat)).y b)
                      else (0 : Int)) ==
                      (t (0 + i.toNat)).h &&
                    true)))),
        true, true, true, decide ((0 : Int) ≤ i), decide (i < ↑m), true, true, decide (0 + i.toNat < m), true,
        true, true, true, true, true, true, decide ((0 : Int) ≤ i), decide (i < ↑m), true, true,
        decide (0 + i.toNat < m), true, true, true, true, true, true, true, decide ((0 : Int) ≤ i),
        decide (i < ↑m), true, true, decide (0 + i.toNat < m), true, true, true, decide ((0 : Int) ≤ i),
        decide (i < ↑m), true, true, decide (0 + i.toNat < m), true, true, true, true, true, true, true, true,
        true, true, true, decide ((0 : Int) ≤ i), decide (i < ↑m), true, true, decide (0 + i.toNat < m), true,
        true, true, decide ((0 : Int) ≤ i), decide (i < ↑m), true, true, decide (0 + i.toNat < m), true, true,
        true, true, true, true, true, true],
      Ex.normal,
      {
        sl :=
          slots 173
            [(7, AV.c (AC.sl 1 0 m)), (10, AV.c (AC.ptr 2 0 0)),
              (11, Bo ((t (0 + i.toNat)).x == a)), (12, Bo ((t (0 + i.toNat)).y == b)),
              (13, Bo (w64 ((t (0 + i.toNat)).x + (t (0 + i.toNat)).w) == w64 (a + c))),
              (14, Bo (w64 ((t (0 + i.toNat)).y + (t (0 + i.toNat)).h) == w64 (b + d))),
              (15, I64 (w64 (i + (1 : Int))))],
        h :=
          [some
              { t := 44, own := false,
                c :=
                  Cont.row 4 k fun i =>
                    [Value.int IntKind.i64 (g i).x, Value.int IntKind.i64 (g i).y, Value.int IntKind.i64 (g i).w,
                      Value.int IntKind.i64 (g i).h] },
            some
              { t := 44, own := true,
                c :=
                  Cont.row 4 m fun i =>
                    [Value.int IntKind.i64 (t i).x, Value.int IntKind.i64 (t i).y, Value.int IntKind.i64 (t i).w,
                      Value.int IntKind.i64 (t i).h] },
            some { t := 44, own := true, c := Cont.one [i64 a, i64 b, i64 c, i64 d] }] }) := by kernel_rfl
end Go.Proofs.Ytcpahifgdppkbaa.QAI
