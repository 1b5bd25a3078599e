/- WhitHolds: the walk. -/
import Derived.Test.YtcpahifgdppkbaaQWhitParts7
section
set_option linter.unusedVariables false
set_option linter.unusedSimpArgs false
namespace Go.Proofs.Ytcpahifgdppkbaa.QAI
open Go Go.RowKit
set_option maxRecDepth 100000
abbrev haK : List (Nat × Option TypeId) := [(2,none),(5,none),(6,none)]
abbrev hbK : List (Nat × Option TypeId) := [(2,none),(5,none),(7,none),(8,none)]
abbrev hcK : List (Nat × Option TypeId) := [(7,none),(9,none),(10,none)]
noncomputable def hoG : Ctx2 := GT KWT (fun k => if k = 4 then haK else if k = 9 then hbK else if k = 16 then hcK else []) 0 []
theorem hoG_ok : XOk hoG := GT_ok KWT_ok _ _ _
def haS (K : Nat) (g : Nat → Int) (a : Nat → Int) (m : Nat) (Q : Nat → Rn) (i : Int) : St := ⟨slots 68 [(2, .c (.ptr 1 0 0)), (5, .c (.sl 2 0 m)), (6, I64 i)], [rowJ false K g, rowA a, rowRn true m Q]⟩
def hbS (K : Nat) (g : Nat → Int) (a : Nat → Int) (m : Nat) (Q : Nat → Rn) (na : Nat) (L : Nat → Gl) (i : Int) : St := ⟨slots 68 [(2, .c (.ptr 1 0 0)), (5, .c (.sl 2 0 m)), (7, .c (.sl 3 0 na)), (8, I64 i)], [rowJ false K g, rowA a, rowRn true m Q, rowGl na L]⟩
def hcS (K : Nat) (g : Nat → Int) (na : Nat) (L : Nat → Gl) (nb : Nat) (L' : Nat → Gl) (i : Int) : St := ⟨slots 68 [(7, .c (.sl 1 0 na)), (9, .c (.sl 2 0 nb)), (10, I64 i)], [rowJ false K g, rowGl na L, rowGl nb L']⟩
theorem ha_go {K : Nat} {g : Nat → Int} {a : Nat → Int} {m : Nat} {Q : Nat → Rn} {i : Int} : (rT hoG nol 1 53 (bodyOf Try.f22 0) haK haK (haS K g a m Q i)).go [] =
  some
    ([decide (i < ((m : Nat) : Int)), decide ((0 : Int) ≤ i), decide (i < ((m : Nat) : Int)), decide (0 + i.toNat < m)], Ex.normal,
      {
        sl :=
          slots 68
            [(2, AV.c (AC.ptr 1 0 0)), (5, AV.c (AC.sl 2 0 m)),
              (6, I64 (w64 (i + (1 : Int))))],
        h :=
          [some { t := 2, own := false, c := Cont.row 1 K fun j => [Value.int IntKind.i64 (g j)] },
            some
              { t := 35, own := true,
                c := Cont.row 1 256 fun k => [Value.int IntKind.i64 (a k)] },
            some
              { t := 83, own := true,
                c :=
                  Cont.row 4 m fun k =>
                    [Value.int IntKind.i64
                        (bif decide (k = 0 + i.toNat) then (Q (0 + i.toNat)).n else (Q k).n),
                      bif decide (k = 0 + i.toNat) then Value.string (Q (0 + i.toNat)).s
                      else Value.string (Q k).s,
                      Value.int IntKind.i64 (bif decide (k = 0 + i.toNat) then (0 : Int) else (Q k).v),
                      Value.int IntKind.i64
                        (bif decide (k = 0 + i.toNat) then (Q (0 + i.toNat)).l else (Q k).l)] }] }) := by kernel_rfl
theorem ha_ex {K : Nat} {g : Nat → Int} {a : Nat → Int} {m : Nat} {Q : Nat → Rn} {i : Int} : (rT hoG nol 1 53 (bodyOf Try.f22 0) haK haK (haS K g a m Q i)).go [false] =
  some
    ([!decide (i < ((m : Nat) : Int))], Ex.exit 0,
      {
        sl :=
          slots 68
            [(2, AV.c (AC.ptr 1 0 0)), (5, AV.c (AC.sl 2 0 m)),
              (6, I64 i)],
        h :=
          [some { t := 2, own := false, c := Cont.row 1 K fun j => [Value.int IntKind.i64 (g j)] },
            some
              { t := 35, own := true,
                c := Cont.row 1 256 fun k => [Value.int IntKind.i64 (a k)] },
            some
              { t := 83, own := true,
                c :=
                  Cont.row 4 m fun j =>
                    [Value.int IntKind.i64 (Q j).n, Value.string (Q j).s, Value.int IntKind.i64 (Q j).v,
                      Value.int IntKind.i64 (Q j).l] }] }) := by kernel_rfl
theorem hb_go {K : Nat} {g : Nat → Int} {a : Nat → Int} {m : Nat} {Q : Nat → Rn} {na : Nat} {L : Nat → Gl} {i : Int} : (rT hoG nol 1 51 (bodyOf Try.f22 1) hbK hbK (hbS K g a m Q na L i)).go [] =
  some
    ([decide (i < ((m : Nat) : Int)), decide ((0 : Int) ≤ i), decide (i < ((m : Nat) : Int)), decide (0 + i.toNat < m)], Ex.normal,
      {
        sl :=
          slots 68
            [(2, AV.c (AC.ptr 1 0 0)), (5, AV.c (AC.sl 2 0 m)),
              (7, AV.c (AC.sl 3 0 na)), (8, I64 (w64 (i + (1 : Int))))],
        h :=
          [some { t := 2, own := false, c := Cont.row 1 K fun j => [Value.int IntKind.i64 (g j)] },
            some
              { t := 35, own := true,
                c := Cont.row 1 256 fun k => [Value.int IntKind.i64 (a k)] },
            some
              { t := 83, own := true,
                c :=
                  Cont.row 4 m fun k =>
                    [Value.int IntKind.i64
                        (bif decide (k = 0 + i.toNat) then (Q (0 + i.toNat)).n else (Q k).n),
                      bif decide (k = 0 + i.toNat) then Value.string (Q (0 + i.toNat)).s
                      else Value.string (Q k).s,
                      Value.int IntKind.i64 (bif decide (k = 0 + i.toNat) then (1 : Int) else (Q k).v),
                      Value.int IntKind.i64
                        (bif decide (k = 0 + i.toNat) then (Q (0 + i.toNat)).l else (Q k).l)] },
            some
              { t := 87, own := true,
                c :=
                  Cont.row 4 na fun j =>
                    [Value.int IntKind.i64 (L j).k, Value.int IntKind.i64 (L j).r, Value.int IntKind.i64 (L j).a,
                      Value.int IntKind.i64 (L j).w] }] }) := by kernel_rfl
theorem hb_ex {K : Nat} {g : Nat → Int} {a : Nat → Int} {m : Nat} {Q : Nat → Rn} {na : Nat} {L : Nat → Gl} {i : Int} : (rT hoG nol 1 51 (bodyOf Try.f22 1) hbK hbK (hbS K g a m Q na L i)).go [false] =
  some
    ([!decide (i < ((m : Nat) : Int))], Ex.exit 2,
      {
        sl :=
          slots 68
            [(2, AV.c (AC.ptr 1 0 0)), (5, AV.c (AC.sl 2 0 m)),
              (7, AV.c (AC.sl 3 0 na)), (8, I64 i)],
        h :=
          [some { t := 2, own := false, c := Cont.row 1 K fun j => [Value.int IntKind.i64 (g j)] },
            some
              { t := 35, own := true,
                c := Cont.row 1 256 fun k => [Value.int IntKind.i64 (a k)] },
            some
              { t := 83, own := true,
                c :=
                  Cont.row 4 m fun j =>
                    [Value.int IntKind.i64 (Q j).n, Value.string (Q j).s, Value.int IntKind.i64 (Q j).v,
                      Value.int IntKind.i64 (Q j).l] },
            some
              { t := 87, own := true,
                c :=
                  Cont.row 4 na fun j =>
                    [Value.int IntKind.i64 (L j).k, Value.int IntKind.i64 (L j).r, Value.int IntKind.i64 (L j).a,
                      Value.int IntKind.i64 (L j).w] }] }) := by kernel_rfl
theorem hc_t {K : Nat} {g : Nat → Int} {na : Nat} {L : Nat → Gl} {nb : Nat} {L' : Nat → Gl} {i : Int} : (rT hoG nol 1 48 (bodyOf Try.f22 2) hcK hcK (hcS K g na L nb L' i)).go [true, true, true, true, true, true, true, true, false] =
  some
    ([decide (i < ((na : Nat) : Int)), decide ((0 : Int) ≤ i), decide (i < ((na : Nat) : Int)), decide (0 + i.toNat < na),
        (L (0 + i.toNat)).k == (2 : Int), decide ((0 : Int) ≤ i), decide (i < ((nb : Nat) : Int)),
        decide (0 + i.toNat < nb),
        !!((L' (0 + i.toNat)).k == (3 : Int) &&
              ((L' (0 + i.toNat)).r == (L (0 + i.toNat)).r &&
                ((L' (0 + i.toNat)).a == (L (0 + i.toNat)).a &&
                  ((L' (0 + i.toNat)).w == (L (0 + i.toNat)).w && true))))],
      Ex.normal,
      {
        sl :=
          slots 68
            [(7, AV.c (AC.sl 1 0 na)), (9, AV.c (AC.sl 2 0 nb)),
              (10, I64 (w64 (i + (1 : Int))))],
        h :=
          [some { t := 2, own := false, c := Cont.row 1 K fun j => [Value.int IntKind.i64 (g j)] },
            some
              { t := 87, own := true,
                c :=
                  Cont.row 4 na fun j =>
                    [Value.int IntKind.i64 (L j).k, Value.int IntKind.i64 (L j).r, Value.int IntKind.i64 (L j).a,
                      Value.int IntKind.i64 (L j).w] },
            some
              { t := 87, own := true,
                c :=
                  Cont.row 4 nb fun j =>
                    [Value.int IntKind.i64 (L' j).k, Value.int IntKind.i64 (L' j).r, Value.int IntKind.i64 (L' j).a,
                      Value.int IntKind.i64 (L' j).w] }] }) := by kernel_rfl
theorem hc_f {K : Nat} {g : Nat → Int} {na : Nat} {L : Nat → Gl} {nb : Nat} {L' : Nat → Gl} {i : Int} : (rT hoG nol 1 48 (bodyOf Try.f22 2) hcK hcK (hcS K g na L nb L' i)).go [true, true, true, true, false, true, true, true, false] =
  some
    ([decide (i < ((na : Nat) : Int)), decide ((0 : Int) ≤ i), decide (i < ((na : Nat) : Int)), decide (0 + i.toNat < na),
        !(L (0 + i.toNat)).k == (2 : Int), decide ((0 : Int) ≤ i), decide (i < ((nb : Nat) : Int)),
        decide (0 + i.toNat < nb),
        !!((L' (0 + i.toNat)).k == (L (0 + i.toNat)).k &&
              ((L' (0 + i.toNat)).r == (L (0 + i.toNat)).r &&
                ((L' (0 + i.toNat)).a == (L (0 + i.toNat)).a &&
                  ((L' (0 + i.toNat)).w == (L (0 + i.toNat)).w && true))))],
      Ex.normal,
      {
        sl :=
          slots 68
            [(7, AV.c (AC.sl 1 0 na)), (9, AV.c (AC.sl 2 0 nb)),
              (10, I64 (w64 (i + (1 : Int))))],
        h :=
          [some { t := 2, own := false, c := Cont.row 1 K fun j => [Value.int IntKind.i64 (g j)] },
            some
              { t := 87, own := true,
                c :=
                  Cont.row 4 na fun j =>
                    [Value.int IntKind.i64 (L j).k, Value.int IntKind.i64 (L j).r, Value.int IntKind.i64 (L j).a,
                      Value.int IntKind.i64 (L j).w] },
            some
              { t := 87, own := true,
                c :=
                  Cont.row 4 nb fun j =>
                    [Value.int IntKind.i64 (L' j).k, Value.int IntKind.i64 (L' j).r, Value.int IntKind.i64 (L' j).a,
                      Value.int IntKind.i64 (L' j).w] }] }) := by kernel_rfl
theorem hc_ex {K : Nat} {g : Nat → Int} {na : Nat} {L : Nat → Gl} {nb : Nat} {L' : Nat → Gl} {i : Int} : (rT hoG nol 1 48 (bodyOf Try.f22 2) hcK hcK (hcS K g na L nb L' i)).go [false] =
  some
    ([!decide (i < ((na : Nat) : Int))], Ex.exit 4,
      {
        sl :=
          slots 68
            [(7, AV.c (AC.sl 1 0 na)), (9, AV.c (AC.sl 2 0 nb)),
              (10, I64 i)],
        h :=
          [some { t := 2, own := false, c := Cont.row 1 K fun j => [Value.int IntKind.i64 (g j)] },
            some
              { t := 87, own := true,
                c :=
                  Cont.row 4 na fun j =>
                    [Value.int IntKind.i64 (L j).k, Value.int IntKind.i64 (L j).r, Value.int IntKind.i64 (L j).a,
                      Value.int IntKind.i64 (L j).w] },
            some
              { t := 87, own := true,
                c :=
                  Cont.row 4 nb fun j =>
                    [Value.int IntKind.i64 (L' j).k, Value.int IntKind.i64 (L' j).r, Value.int IntKind.i64 (L' j).a,
                      Value.int IntKind.i64 (L' j).w] }] }) := by kernel_rfl
def setN (Q : Nat → Rn) (z : Int) (i : Nat) : Nat → Rn := fun j => if j < i then ⟨(Q j).n, (Q j).s, z, (Q j).l⟩ else Q j
def hoA (a : Nat → Int) (m : Nat) (Q : Nat → Rn) : List Gl := glyphs (Mt fun k => dv ((v1 (tz a k)).headD undef)) (fun i => decN (encN (setN Q 0 m (0 + i)))) m
def hoB (a : Nat → Int) (m : Nat) (Q : Nat → Rn) : List Gl := glyphs (Mt fun k => dv ((v1 (tz a k)).headD undef)) (fun i => decN (encN (setN (setN Q 0 m) 1 m (0 + i)))) m
noncomputable def hoL (K : Nat) (g : Nat → Int) (a : Nat → Int) (m : Nat) (Q : Nat → Rn) : Loops :=
  byReg 4 (tell (bodyOf Try.f22 0) (haS K g (tz a) m Q 0) (.exit 0, haS K g (tz a) m (setN Q 0 m) m))
    (byReg 9 (tell (bodyOf Try.f22 1) (hbS K g (tz a) m (setN Q 0 m) (hoA a m Q).length (at_ (hoA a m Q)) 0) (.exit 2, hbS K g (tz a) m (setN (setN Q 0 m) 1 m) (hoA a m Q).length (at_ (hoA a m Q)) m))
      (tell (bodyOf Try.f22 2) (hcS K g (hoA a m Q).length (at_ (hoA a m Q)) (hoB a m Q).length (at_ (hoB a m Q)) 0) (.exit 4, hcS K g (hoA a m Q).length (at_ (hoA a m Q)) (hoB a m Q).length (at_ (hoB a m Q)) (hoA a m Q).length)))
theorem ho_w {K : Nat} {g : Nat → Int} {a : Nat → Int} : (lfun hoG (hoL K g a (m12 K) (runsL (fun j => g (0 + j)) (m12 K))) 60 Try.f22 [aA a, .c (.sl 0 0 K)] [rowJ false K g]).go [true, true, true, true, true, true, true, true, true, false] =
  some
    ([true, yes ((fun k => Value.int IntKind.i64 (a k)) = fun k => Value.int IntKind.i64 (a k)),
        yes (0 + K ≤ K ∧ (fun j => v1 (g j)) = fun j => v1 (vd (v1 (g j)))), yes (wasS (bodyOf Try.f22 0) (haS K g (tz a) (m12 K) (runsL (fun j => g (0 + j)) (m12 K)) 0)), true,
        yes
          (0 + m12 K ≤ m12 K ∧
            m12 K < 2 ^ 40 ∧
              lenR
                    (fun i =>
                      decN (encN (setN (runsL (fun j => g (0 + j)) (m12 K)) (0 : Int) (m12 K) (0 + i))))
                    (m12 K) <
                  2 ^ 39 ∧
                ((fun k => (v1 (tz a k)).headD undef) = fun k =>
                    Value.int IntKind.i64 (dv ((v1 (tz a k)).headD undef))) ∧
                  (fun j => encN (setN (runsL (fun j => g (0 + j)) (m12 K)) (0 : Int) (m12 K) j)) = fun j =>
                    encN (decN (encN (setN (runsL (fun j => g (0 + j)) (m12 K)) (0 : Int) (m12 K) j)))),
        yes (wasS (bodyOf Try.f22 1) (hbS K g (tz a) (m12 K) (setN (runsL (fun j => g (0 + j)) (m12 K)) 0 (m12 K)) (hoA a (m12 K) (runsL (fun j => g (0 + j)) (m12 K))).length (at_ (hoA a (m12 K) (runsL (fun j => g (0 + j)) (m12 K)))) 0)), true,
        yes
          (0 + m12 K ≤ m12 K ∧
            m12 K < 2 ^ 40 ∧
              lenR
                    (fun i =>
                      decN
                        (encN
                          (setN (setN (runsL (fun j => g (0 + j)) (m12 K)) (0 : Int) (m12 K)) (1 : Int) (m12 K)
                            (0 + i))))
                    (m12 K) <
                  2 ^ 39 ∧
                ((fun k => (v1 (tz a k)).headD undef) = fun k =>
                    Value.int IntKind.i64 (dv ((v1 (tz a k)).headD undef))) ∧
                  (fun j =>
                      encN
                        (setN (setN (runsL (fun j => g (0 + j)) (m12 K)) (0 : Int) (m12 K)) (1 : Int) (m12 K)
                          j)) =
                    fun j =>
                    encN
                      (decN
                        (encN
                          (setN (setN (runsL (fun j => g (0 + j)) (m12 K)) (0 : Int) (m12 K)) (1 : Int) (m12 K)
                            j)))),
        !(((hoA a (m12 K) (runsL (fun j => g (0 + j)) (m12 K))).length : Nat) : Int) !=
            (((glyphs (Mt fun k => dv ((v1 (tz a k)).headD undef))
                  (fun i =>
                    decN
                      (encN
                        (setN (setN (runsL (fun j => g (0 + j)) (m12 K)) (0 : Int) (m12 K)) (1 : Int) (m12 K)
                          (0 + i))))
                  (m12 K)).length : Nat) : Int),
        yes (wasS (bodyOf Try.f22 2) (hcS K g (hoA a (m12 K) (runsL (fun j => g (0 + j)) (m12 K))).length (at_ (hoA a (m12 K) (runsL (fun j => g (0 + j)) (m12 K)))) (hoB a (m12 K) (runsL (fun j => g (0 + j)) (m12 K))).length (at_ (hoB a (m12 K) (runsL (fun j => g (0 + j)) (m12 K)))) 0))],
      Bo true,
      [some { t := 2, own := false, c := Cont.row 1 K fun j => [Value.int IntKind.i64 (g j)] }]) := by kernel_rfl
end Go.Proofs.Ytcpahifgdppkbaa.QAI
end
section
/- WhitHolds: what is asked on the way holds. -/
set_option linter.unusedVariables false
set_option linter.unusedSimpArgs false
namespace Go.Proofs.Ytcpahifgdppkbaa.QAI
open Go Go.RowKit
set_option maxRecDepth 100000
theorem updC_eq (f : Nat → List Value) (n : Nat) (x : List Value) : updC f n x = fun k => if k = n then x else f k := by
  funext k
  unfold updC
  rw [selL_eq]
  by_cases h : k = n <;> simp [h]
theorem setN_step (Q : Nat → Rn) (z : Int) (i : Nat) : updC (fun j => encN (setN Q z i j)) i (splice (encN (setN Q z i i)) 2 [.int .i64 z]) = fun j => encN (setN Q z (i + 1) j) := by
  rw [updC_eq]
  funext k
  unfold setN
  by_cases h : k = i
  · subst h
    simp only [if_true, Nat.lt_irrefl, if_false, Nat.lt_succ_self]
    rfl
  · by_cases h2 : k < i
    · have : k < i + 1 := by omega
      simp only [h, h2, this, if_true, if_false]
    · have : ¬ k < i + 1 := by omega
      simp only [h, h2, this, if_false]
theorem ha_loop {K : Nat} {g : Nat → Int} {a : Nat → Int} {m : Nat} {Q : Nat → Rn} (hm : m ≤ 12) :
    CodeSem hoG 1 (.loop (bodyOf Try.f22 0)) (haS K g a m Q 0) (.exit 0, haS K g a m (setN Q 0 m) m) := by
  refine loop_of (fun i => haS K g a m (setN Q 0 i) (i : Int)) m (by simp) ?_ fun j hj => ?_
  · exact rT_sem hoG_ok noLoopsS (rT_go ha_ex ⟨by simp, trivial⟩)
  · have h3 := succ64 (j := j) (by omega)
    refine rT_sem hoG_ok noLoopsS ((rT_go ha_go ?_).trans ?_)
    · simp only [Int.toNat_natCast, Nat.zero_add]
      repeat' (first | exact AllT.nil | refine AllT.cons ?_ ?_)
      all_goals first | (with_reducible rfl) | exact decide_eq_true (by omega)
    · simp only [Int.toNat_natCast, Nat.zero_add, h3]
      refine Eq.trans (b := some (Ex.normal, (⟨slots 68 [(2, .c (.ptr 1 0 0)), (5, .c (.sl 2 0 m)), (6, I64 ((j + 1 : Nat) : Int))], [rowJ false K g, rowA a, some ⟨83, true, .row 4 m (updC (fun q => encN (setN Q 0 j q)) j (splice (encN (setN Q 0 j j)) 2 [.int .i64 0]))⟩]⟩ : St))) rfl ?_
      rw [setN_step]
      rfl
theorem hb_loop {K : Nat} {g : Nat → Int} {a : Nat → Int} {m : Nat} {Q : Nat → Rn} {na : Nat} {L : Nat → Gl} (hm : m ≤ 12) :
    CodeSem hoG 1 (.loop (bodyOf Try.f22 1)) (hbS K g a m Q na L 0) (.exit 2, hbS K g a m (setN Q 1 m) na L m) := by
  refine loop_of (fun i => hbS K g a m (setN Q 1 i) na L (i : Int)) m (by simp) ?_ fun j hj => ?_
  · exact rT_sem hoG_ok noLoopsS (rT_go hb_ex ⟨by simp, trivial⟩)
  · have h3 := succ64 (j := j) (by omega)
    refine rT_sem hoG_ok noLoopsS ((rT_go hb_go ?_).trans ?_)
    · simp only [Int.toNat_natCast, Nat.zero_add]
      repeat' (first | exact AllT.nil | refine AllT.cons ?_ ?_)
      all_goals first | (with_reducible rfl) | exact decide_eq_true (by omega)
    · simp only [Int.toNat_natCast, Nat.zero_add, h3]
      refine Eq.trans (b := some (Ex.normal, (⟨slots 68 [(2, .c (.ptr 1 0 0)), (5, .c (.sl 2 0 m)), (7, .c (.sl 3 0 na)), (8, I64 ((j + 1 : Nat) : Int))], [rowJ false K g, rowA a, some ⟨83, true, .row 4 m (updC (fun q => encN (setN Q 1 j q)) j (splice (encN (setN Q 1 j j)) 2 [.int .i64 1]))⟩, rowGl na L]⟩ : St))) rfl ?_
      rw [setN_step]
      rfl
theorem hc_loop {K : Nat} {g : Nat → Int} {na : Nat} {L L' : Nat → Gl} (hna : na < 2 ^ 40) (h : ∀ i, i < na → L' i = holdG (L i)) :
    CodeSem hoG 1 (.loop (bodyOf Try.f22 2)) (hcS K g na L na L' 0) (.exit 4, hcS K g na L na L' na) := by
  refine loop_of (fun i => hcS K g na L na L' (i : Int)) na (by simp) ?_ fun j hj => ?_
  · exact rT_sem hoG_ok noLoopsS (rT_go hc_ex ⟨by simp, trivial⟩)
  · have h3 := succ64 (j := j) (by omega)
    have hh := h j hj
    by_cases hk : (L j).k = 2
    · have hk' : ((L j).k == 2) = true := by simpa using hk
      have e : holdG (L j) = ⟨3, (L j).r, (L j).a, (L j).w⟩ := by unfold holdG; rw [hk']; rfl
      rw [e] at hh
      refine rT_sem hoG_ok noLoopsS ((rT_go hc_t ?_).trans ?_)
      · simp only [Int.toNat_natCast, Nat.zero_add, hh]
        repeat' (first | exact AllT.nil | refine AllT.cons ?_ ?_)
        all_goals first | (with_reducible rfl) | exact decide_eq_true (by omega) | exact hk' | simp
      · rw [h3]
        rfl
    · have hk' : (!((L j).k == 2)) = true := by simpa using hk
      have e : holdG (L j) = L j := by
        have h2 : ((L j).k == 2) = false := by simpa using hk
        unfold holdG; rw [h2]; rfl
      rw [e] at hh
      refine rT_sem hoG_ok noLoopsS ((rT_go hc_f ?_).trans ?_)
      · simp only [Int.toNat_natCast, Nat.zero_add, hh]
        repeat' (first | exact AllT.nil | refine AllT.cons ?_ ?_)
        all_goals first | (with_reducible rfl) | exact decide_eq_true (by omega) | exact hk' | simp
      · rw [h3]
        rfl
theorem goB_cg {M : Int → Int} {v r : Int} {s : ByteArray} {acc acc' : List Gl} (h : acc = acc') (n : Nat) : goB M v r s acc n = goB M v r s acc' n := by rw [h]
theorem goR_cg {M : Int → Int} {R R' : Nat → Rn} : ∀ k, (∀ i, i < k → R i = R' i) → goR M R k = goR M R' k
  | 0, _ => rfl
  | k + 1, h => by
    rw [goR, goR, goR_cg k fun i hi => h i (by omega), h k (by omega)]
theorem glyphs_cg {M : Int → Int} {R R' : Nat → Rn} {k : Nat} (h : ∀ i, i < k → R i = R' i) : glyphs M R k = glyphs M R' k := by
  unfold glyphs
  rw [goR_cg k h]
theorem lenR_cg {R R' : Nat → Rn} : ∀ k, (∀ i, i < k → (R i).s = (R' i).s) → lenR R k = lenR R' k
  | 0, _ => rfl
  | k + 1, h => by
    rw [lenR, lenR, lenR_cg k fun i hi => h i (by omega), h k (by omega)]
theorem ho_eq (a : Nat → Int) (m : Nat) (Q : Nat → Rn) : hoB a m Q = (hoA a m Q).map holdG := by
  have e1 : hoB a m Q = glyphs (Mt fun k => dv ((v1 (tz a k)).headD undef)) (setV Q 1) m := glyphs_cg fun i hi => by simp [setN, setV, hi, decN, encN]
  have e2 : hoA a m Q = glyphs (Mt fun k => dv ((v1 (tz a k)).headD undef)) (setV Q 0) m := glyphs_cg fun i hi => by simp [setN, setV, hi, decN, encN]
  rw [e1, e2, glyphs_holds]
theorem whitHolds_true (a : Nat → Int) (K : Nat) (g : Nat → Int) : ∃ keep tm d ℓ, LoopsSem (GT KWT keep 0 tm) [rowJ false K g].length ℓ ∧ (lfun (GT KWT keep 0 tm) ℓ d Try.f22 [aA a, .c (.sl 0 0 K)] [rowJ false K g]).eval = some (Bo true, [rowJ false K g]) := by
  obtain ⟨hm1, hm2⟩ := m12_le K
  have hl := runsL_len (fun j => g (0 + j)) (m := m12 K) (m12 K) (Nat.le_refl _)
  have hs1 : lenR (fun i => setN (runsL (fun j => g (0 + j)) (m12 K)) 0 (m12 K) i) (m12 K) ≤ 432 := by
    rw [lenR_cg (R' := runsL (fun j => g (0 + j)) (m12 K)) (m12 K) fun i hi => by simp [setN, hi]]
    omega
  have hs2 : lenR (fun i => setN (setN (runsL (fun j => g (0 + j)) (m12 K)) 0 (m12 K)) 1 (m12 K) i) (m12 K) ≤ 432 := by
    rw [lenR_cg (R' := runsL (fun j => g (0 + j)) (m12 K)) (m12 K) fun i hi => by simp [setN, hi]]
    omega
  have hlen : (hoA a (m12 K) (runsL (fun j => g (0 + j)) (m12 K))).length ≤ 432 := by
    refine Nat.le_trans glyphs_len ?_
    have e : (fun i => decN (encN (setN (runsL (fun j => g (0 + j)) (m12 K)) 0 (m12 K) (0 + i)))) = fun i => setN (runsL (fun j => g (0 + j)) (m12 K)) 0 (m12 K) i := by funext i; rw [Nat.zero_add]; rfl
    rw [e]
    exact hs1
  have heq := ho_eq a (m12 K) (runsL (fun j => g (0 + j)) (m12 K))
  have hl2 : (hoB a (m12 K) (runsL (fun j => g (0 + j)) (m12 K))).length = (hoA a (m12 K) (runsL (fun j => g (0 + j)) (m12 K))).length := by rw [heq]; simp
  have hc := hc_loop (K := K) (g := g) (na := (hoA a (m12 K) (runsL (fun j => g (0 + j)) (m12 K))).length) (L := at_ (hoA a (m12 K) (runsL (fun j => g (0 + j)) (m12 K)))) (L' := at_ (hoB a (m12 K) (runsL (fun j => g (0 + j)) (m12 K)))) (by omega) fun i hi => by
    rw [heq, at_get (by simpa using hi), at_get hi]
    simp
  refine ⟨_, [], 60, hoL K g a (m12 K) (runsL (fun j => g (0 + j)) (m12 K)), byReg_sem (r := 4) (tell_ok (ha_loop hm1)) (byReg_sem (r := 9) (tell_ok (hb_loop hm1)) (tell_ok ?_)), (Tr.go_eval (ho_w (K := K) (g := g) (a := a)) ?_).trans ?_⟩
  · rw [hl2]
    exact hc
  · have e1 : lenR (fun i => decN (encN (setN (runsL (fun j => g (0 + j)) (m12 K)) 0 (m12 K) (0 + i)))) (m12 K) < 2 ^ 39 := by
      have e : (fun i => decN (encN (setN (runsL (fun j => g (0 + j)) (m12 K)) 0 (m12 K) (0 + i)))) = fun i => setN (runsL (fun j => g (0 + j)) (m12 K)) 0 (m12 K) i := by funext i; rw [Nat.zero_add]; rfl
      rw [e]; omega
    have e2 : lenR (fun i => decN (encN (setN (setN (runsL (fun j => g (0 + j)) (m12 K)) 0 (m12 K)) 1 (m12 K) (0 + i)))) (m12 K) < 2 ^ 39 := by
      have e : (fun i => decN (encN (setN (setN (runsL (fun j => g (0 + j)) (m12 K)) 0 (m12 K)) 1 (m12 K) (0 + i)))) = fun i => setN (setN (runsL (fun j => g (0 + j)) (m12 K)) 0 (m12 K)) 1 (m12 K) i := by funext i; rw [Nat.zero_add]; rfl
      rw [e]; omega
    have e3 : (!(((hoA a (m12 K) (runsL (fun j => g (0 + j)) (m12 K))).length : Nat) : Int) != (((hoB a (m12 K) (runsL (fun j => g (0 + j)) (m12 K))).length : Nat) : Int)) = true := by rw [hl2]; simp
    repeat' (first | exact AllT.nil | refine AllT.cons ?_ ?_)
    all_goals first
      | (with_reducible rfl)
      | exact yes_of rfl
      | exact e3
      | exact yes_of ⟨by omega, rfl⟩
      | exact yes_of ⟨by omega, by omega, e1, rfl, rfl⟩
      | exact yes_of ⟨by omega, by omega, e2, rfl, rfl⟩
      | exact yes_of ⟨rfl, rfl⟩
  · rfl
def whitHoldsS : List Shp := [.arr 256 (.int .i64), .rows 2 [.int .i64]]
theorem whitHolds_core : ∀ is, InsOk whitHoldsS is → ∃ keep tm d ℓ, LoopsSem (GT KWT keep 0 tm) (blksIn whitHoldsS is).length ℓ ∧ (lfun (GT KWT keep 0 tm) ℓ d Try.f22 (avsIn 0 whitHoldsS is) (blksIn whitHoldsS is)).eval = some (Bo true, blksIn whitHoldsS is) := by
  intro is0 h0
  obtain ⟨v0, is1, rfl, h1⟩ := ins_arr h0
  obtain ⟨k2, v2, is3, rfl, h3, _⟩ := ins_ints h1
  obtain rfl := ins_nil h3
  exact whitHolds_true v0 k2 v2
end Go.Proofs.Ytcpahifgdppkbaa.QAI
end
section
/- WhitPre: the walk. -/
set_option linter.unusedVariables false
set_option linter.unusedSimpArgs false
namespace Go.Proofs.Ytcpahifgdppkbaa.QAI
open Go Go.RowKit
set_option maxRecDepth 100000
noncomputable def KWP : Known := [(46, tmF2), (81, rnF), (82, glF1), (83, sAwakeT)]
theorem KWP_ok : KnownOk KWP := consK tmF2_ok (by kernel_rfl) (consK rnF_ok (by kernel_rfl) (consK glF1_ok (by kernel_rfl) (consK awake10_ok (by kernel_rfl) nilK)))
abbrev p1K : List (Nat × Option TypeId) := [(2,none),(3,none),(7,none),(8,none),(9,none)]
abbrev p2K : List (Nat × Option TypeId) := [(2,none),(3,none),(7,none),(11,none),(12,none)]
abbrev p3K : List (Nat × Option TypeId) := [(13,none),(14,none),(15,none)]
noncomputable def prG : Ctx2 := GT KWP (fun k => if k = 5 then p1K else if k = 13 then p2K else if k = 22 then p3K else []) 0 []
theorem prG_ok : XOk prG := GT_ok KWP_ok _ _ _
abbrev St0 (s : ByteArray) : AV := .c (.v (.string s))
def p1S (K : Nat) (g : Nat → Int) (a : Nat → Int) (m : Nat) (Q : Nat → Rn) (c : Int) (s : ByteArray) (i : Int) : St := ⟨slots 117 [(2, I64 c), (3, .c (.ptr 1 0 0)), (7, St0 s), (8, .c (.sl 2 0 m)), (9, I64 i)], [rowJ false K g, rowA a, rowRn true m Q]⟩
def p2S (K : Nat) (g : Nat → Int) (a : Nat → Int) (c : Int) (s t : ByteArray) (i : Int) : St := ⟨slots 117 [(2, I64 c), (3, .c (.ptr 1 0 0)), (7, St0 s), (11, St0 t), (12, I64 i)], [rowJ false K g, rowA a]⟩
def p3S (K : Nat) (g : Nat → Int) (na : Nat) (L : Nat → Gl) (nb : Nat) (L' : Nat → Gl) (i : Int) : St := ⟨slots 117 [(13, .c (.sl 1 0 na)), (14, .c (.sl 2 0 nb)), (15, I64 i)], [rowJ false K g, rowGl na L, rowGl nb L']⟩
def catS (Q : Nat → Rn) : Nat → ByteArray
  | 0 => ⟨#[]⟩
  | i + 1 => catS Q i ++ (Q i).s
theorem catS_len (Q : Nat → Rn) : ∀ i, (catS Q i).size = lenR Q i
  | 0 => rfl
  | i + 1 => by
    have h1 := catS_len Q i
    have e : (catS Q (i + 1)).size = (catS Q i).size + (Q i).s.size := ByteArray.size_append
    have e2 : lenR Q (i + 1) = lenR Q i + (Q i).s.size := rfl
    omega
theorem p1_go {K : Nat} {g : Nat → Int} {a : Nat → Int} {m : Nat} {Q : Nat → Rn} {c : Int} {s : ByteArray} {i : Int} : (rT prG nol 1 52 (bodyOf Try.f25 0) p1K p1K (p1S K g a m Q c s i)).go [] =
  some ([decide (i < ((m : Nat) : Int)), decide ((0 : Int) ≤ i), decide (i < ((m : Nat) : Int)), decide (0 + i.toNat < m), decide (((s.size + (Q (0 + i.toNat)).s.size : Nat) : Int) ≤ IntKind.i64.max)], Ex.normal, { sl := slots 117 [(2, I64 c), (3, AV.c (AC.ptr 1 0 0)), (7, AV.c (AC.v (Value.string (s ++ (Q (0 + i.toNat)).s)))), (8, AV.c (AC.sl 2 0 m)), (9, I64 (w64 (i + (1 : Int))))], h := [some { t := 2, own := false, c := Cont.row 1 K fun j => [Value.int IntKind.i64 (g j)] }, some { t := 35, own := true, c := Cont.row 1 256 fun k => [Value.int IntKind.i64 (a k)] }, some { t := 83, own := true, c := Cont.row 4 m fun j => [Value.int IntKind.i64 (Q j).n, Value.string (Q j).s, Value.int IntKind.i64 (Q j).v, Value.int IntKind.i64 (Q j).l] }] }) := by kernel_rfl
theorem p1_ex {K : Nat} {g : Nat → Int} {a : Nat → Int} {m : Nat} {Q : Nat → Rn} {c : Int} {s : ByteArray} {i : Int} : (rT prG nol 1 52 (bodyOf Try.f25 0) p1K p1K (p1S K g a m Q c s i)).go [false] =
  some ([!decide (i < ((m : Nat) : Int))], Ex.exit 0, { sl := slots 117 [(2, I64 c), (3, AV.c (AC.ptr 1 0 0)), (7, AV.c (AC.v (Value.string s))), (8, AV.c (AC.sl 2 0 m)), (9, I64 i)], h := [some { t := 2, own := false, c := Cont.row 1 K fun j => [Value.int IntKind.i64 (g j)] }, some { t := 35, own := true, c := Cont.row 1 256 fun k => [Value.int IntKind.i64 (a k)] }, some { t := 83, own := true, c := Cont.row 4 m fun j => [Value.int IntKind.i64 (Q j).n, Value.string (Q j).s, Value.int IntKind.i64 (Q j).v, Value.int IntKind.i64 (Q j).l] }] }) := by kernel_rfl
theorem p2_tt {K : Nat} {g : Nat → Int} {a : Nat → Int} {c : Int} {s t : ByteArray} {i : Int} : (rT prG nol 1 48 (bodyOf Try.f25 1) p2K p2K (p2S K g a c s t i)).go [] =
  some ([decide (i < ((s.size : Nat) : Int)), decInt i (w64 (i + (1 : Int))) s.size, decide (((t.size + (s.extract i.toNat (w64 (i + (1 : Int))).toNat).size : Nat) : Int) ≤ IntKind.i64.max), decide ((0 : Int) ≤ i), decide (i < ((s.size : Nat) : Int)), bt s i == (32 : Int), true, true, true, true, decide ((0 : Int) ≤ u64 (and64 i (15 : Int))), true, true, true, and64 (c.fdiv ((2 : Int) ^ min (u64 (and64 i (15 : Int))).toNat IntKind.i64.bits)) (1 : Int) == (1 : Int), decide ((((t ++ s.extract i.toNat (w64 (i + (1 : Int))).toNat).size + moreB.size : Nat) : Int) ≤ IntKind.i64.max)], Ex.normal, { sl := slots 117 [(2, I64 c), (3, AV.c (AC.ptr 1 0 0)), (7, AV.c (AC.v (Value.string s))), (11, AV.c (AC.v (Value.string (t ++ s.extract i.toNat (w64 (i + (1 : Int))).toNat ++ moreB)))), (12, I64 (w64 (i + (1 : Int))))], h := [some { t := 2, own := false, c := Cont.row 1 K fun j => [Value.int IntKind.i64 (g j)] }, some { t := 35, own := true, c := Cont.row 1 256 fun k => [Value.int IntKind.i64 (a k)] }] }) := by kernel_rfl
theorem p2_ex {K : Nat} {g : Nat → Int} {a : Nat → Int} {c : Int} {s t : ByteArray} {i : Int} : (rT prG nol 1 48 (bodyOf Try.f25 1) p2K p2K (p2S K g a c s t i)).go [false] =
  some ([!decide (i < ((s.size : Nat) : Int))], Ex.exit 2, { sl := slots 117 [(2, I64 c), (3, AV.c (AC.ptr 1 0 0)), (7, AV.c (AC.v (Value.string s))), (11, AV.c (AC.v (Value.string t))), (12, I64 i)], h := [some { t := 2, own := false, c := Cont.row 1 K fun j => [Value.int IntKind.i64 (g j)] }, some { t := 35, own := true, c := Cont.row 1 256 fun k => [Value.int IntKind.i64 (a k)] }] }) := by kernel_rfl
theorem p3_ex {K : Nat} {g : Nat → Int} {na : Nat} {L : Nat → Gl} {nb : Nat} {L' : Nat → Gl} {i : Int} : (rT prG nol 1 45 (bodyOf Try.f25 2) p3K p3K (p3S K g na L nb L' i)).go [false] =
  some ([!decide (i < ((na : Nat) : Int))], Ex.exit 4, { sl := slots 117 [(13, AV.c (AC.sl 1 0 na)), (14, AV.c (AC.sl 2 0 nb)), (15, I64 i)], h := [some { t := 2, own := false, c := Cont.row 1 K fun j => [Value.int IntKind.i64 (g j)] }, some { t := 87, own := true, c := Cont.row 4 na fun j => [Value.int IntKind.i64 (L j).k, Value.int IntKind.i64 (L j).r, Value.int IntKind.i64 (L j).a, Value.int IntKind.i64 (L j).w] }, some { t := 87, own := true, c := Cont.row 4 nb fun j => [Value.int IntKind.i64 (L' j).k, Value.int IntKind.i64 (L' j).r, Value.int IntKind.i64 (L' j).a, Value.int IntKind.i64 (L' j).w] }] }) := by kernel_rfl
theorem p2_tf {K : Nat} {g : Nat → Int} {a : Nat → Int} {c : Int} {s t : ByteArray} {i : Int} : (rT prG nol 1 48 (bodyOf Try.f25 1) p2K p2K (p2S K g a c s t i)).go [true, true, true, true, true, true, true, true, true, true, true, true, true, true, false] =
  some ([decide (i < ((s.size : Nat) : Int)), decInt i (w64 (i + (1 : Int))) s.size, decide (((t.size + (s.extract i.toNat (w64 (i + (1 : Int))).toNat).size : Nat) : Int) ≤ IntKind.i64.max), decide ((0 : Int) ≤ i), decide (i < ((s.size : Nat) : Int)), bt s i == (32 : Int), true, true, true, true, decide ((0 : Int) ≤ u64 (and64 i (15 : Int))), true, true, true, !and64 (c.fdiv ((2 : Int) ^ min (u64 (and64 i (15 : Int))).toNat IntKind.i64.bits)) (1 : Int) == (1 : Int)], Ex.normal, { sl := slots 117 [(2, I64 c), (3, AV.c (AC.ptr 1 0 0)), (7, AV.c (AC.v (Value.string s))), (11, AV.c (AC.v (Value.string (t ++ s.extract i.toNat (w64 (i + (1 : Int))).toNat)))), (12, I64 (w64 (i + (1 : Int))))], h := [some { t := 2, own := false, c := Cont.row 1 K fun j => [Value.int IntKind.i64 (g j)] }, some { t := 35, own := true, c := Cont.row 1 256 fun k => [Value.int IntKind.i64 (a k)] }] }) := by kernel_rfl
theorem p2_f {K : Nat} {g : Nat → Int} {a : Nat → Int} {c : Int} {s t : ByteArray} {i : Int} : (rT prG nol 1 48 (bodyOf Try.f25 1) p2K p2K (p2S K g a c s t i)).go [true, true, true, true, true, false, false, false, false, false, false, false, false, false] =
  some ([decide (i < ((s.size : Nat) : Int)), decInt i (w64 (i + (1 : Int))) s.size, decide (((t.size + (s.extract i.toNat (w64 (i + (1 : Int))).toNat).size : Nat) : Int) ≤ IntKind.i64.max), decide ((0 : Int) ≤ i), decide (i < ((s.size : Nat) : Int)), !bt s i == (32 : Int), true, true, true, true, true, true, true, true], Ex.normal, { sl := slots 117 [(2, I64 c), (3, AV.c (AC.ptr 1 0 0)), (7, AV.c (AC.v (Value.string s))), (11, AV.c (AC.v (Value.string (t ++ s.extract i.toNat (w64 (i + (1 : Int))).toNat)))), (12, I64 (w64 (i + (1 : Int))))], h := [some { t := 2, own := false, c := Cont.row 1 K fun j => [Value.int IntKind.i64 (g j)] }, some { t := 35, own := true, c := Cont.row 1 256 fun k => [Value.int IntKind.i64 (a k)] }] }) := by kernel_rfl
theorem p3_go {K : Nat} {g : Nat → Int} {na : Nat} {L : Nat → Gl} {nb : Nat} {L' : Nat → Gl} {i : Int} : (rT prG nol 1 45 (bodyOf Try.f25 2) p3K p3K (p3S K g na L nb L' i)).go [true, true, true, true, true, true, true, false, false, false, true, true, false, false, true, false, false, false, true, true, false, false, true, false, false, false] =
  some ([decide (i < ((na : Nat) : Int)), decide ((0 : Int) ≤ i), decide (i < ((na : Nat) : Int)), decide (0 + i.toNat < na), decide ((0 : Int) ≤ i), decide (i < ((nb : Nat) : Int)), decide (0 + i.toNat < nb), !(L (0 + i.toNat)).k != (L' (0 + i.toNat)).k, true, true, decide ((0 : Int) ≤ i), decide (i < ((na : Nat) : Int)), true, true, decide (0 + i.toNat < na), true, true, true, decide ((0 : Int) ≤ i), decide (i < ((nb : Nat) : Int)), true, true, decide (0 + i.toNat < nb), true, true, !(L (0 + i.toNat)).w != (L' (0 + i.toNat)).w], Ex.normal, { sl := slots 117 [(13, AV.c (AC.sl 1 0 na)), (14, AV.c (AC.sl 2 0 nb)), (15, I64 (w64 (i + (1 : Int))))], h := [some { t := 2, own := false, c := Cont.row 1 K fun j => [Value.int IntKind.i64 (g j)] }, some { t := 87, own := true, c := Cont.row 4 na fun j => [Value.int IntKind.i64 (L j).k, Value.int IntKind.i64 (L j).r, Value.int IntKind.i64 (L j).a, Value.int IntKind.i64 (L j).w] }, some { t := 87, own := true, c := Cont.row 4 nb fun j => [Value.int IntKind.i64 (L' j).k, Value.int IntKind.i64 (L' j).r, Value.int IntKind.i64 (L' j).a, Value.int IntKind.i64 (L' j).w] }] }) := by kernel_rfl
def prR (s : ByteArray) (v : Int) : Nat → Rn := fun _ => ⟨0, s, v, 0⟩
def prX (K : Nat) (g : Nat → Int) : ByteArray := catS (runsL (fun j => g (0 + j)) (m12 K)) (m12 K)
def prY (K : Nat) (g : Nat → Int) (c : Int) : ByteArray := moreS (prX K g) (fun i => and64 (c.fdiv (2 ^ min (u64 (and64 (i : Int) 15)).toNat IntKind.i64.bits)) 1 == 1) (prX K g).size
def prA (K : Nat) (g a : Nat → Int) : List Gl := glyphs (Mt (tz a)) (prR (prX K g) 0) 1
def prB (K : Nat) (g a : Nat → Int) (c : Int) : List Gl := glyphs (Mt (tz a)) (prR (prY K g c) 0) 1
noncomputable def prL (K : Nat) (g a : Nat → Int) (c : Int) : Loops :=
  byReg 5 (tell (bodyOf Try.f25 0) (p1S K g (tz a) (m12 K) (runsL (fun j => g (0 + j)) (m12 K)) c ⟨#[]⟩ 0) (.exit 0, p1S K g (tz a) (m12 K) (runsL (fun j => g (0 + j)) (m12 K)) c (prX K g) (m12 K)))
    (byReg 13 (tell (bodyOf Try.f25 1) (p2S K g (tz a) c (prX K g) ⟨#[]⟩ 0) (.exit 2, p2S K g (tz a) c (prX K g) (prY K g c) (prX K g).size))
      (tell (bodyOf Try.f25 2) (p3S K g (prA K g a).length (at_ (prA K g a)) (prB K g a c).length (at_ (prB K g a c)) 0) (.exit 4, p3S K g (prA K g a).length (at_ (prA K g a)) (prB K g a c).length (at_ (prB K g a c)) (prA K g a).length)))
theorem pr_w {K : Nat} {g a : Nat → Int} {c : Int} : (lfun prG (prL K g a c) 60 Try.f25 [aA a, .c (.sl 0 0 K), I64 c] [rowJ false K g]).go [true, true, true, true, true, true, false, true, true, true, true, true, false] =
  some ([true, yes ((fun k => Value.int IntKind.i64 (a k)) = fun k => Value.int IntKind.i64 (a k)), yes (0 + K ≤ K ∧ (fun j => v1 (g j)) = fun j => v1 (vd (v1 (g j)))), yes (wasS (bodyOf Try.f25 0) (p1S K g (tz a) (m12 K) (runsL (fun j => g (0 + j)) (m12 K)) c ⟨#[]⟩ 0)), true, yes ((prX K g).size < 2 ^ 38 ∧ (fun k => (v1 (tz a k)).headD undef) = fun k => Value.int IntKind.i64 (dv ((v1 (tz a k)).headD undef))), !(((glyphs (Mt fun k => dv ((v1 (tz a k)).headD undef)) (fun x => { n := (0 : Int), s := prX K g, v := (2 : Int), l := (0 : Int) }) 1).length : Nat) : Int) != (((prX K g).size : Nat) : Int), yes (wasS (bodyOf Try.f25 1) (p2S K g (tz a) c (prX K g) ⟨#[]⟩ 0)), true, true, yes ((prX K g).size < 2 ^ 38 ∧ (fun k => (v1 (tz a k)).headD undef) = fun k => Value.int IntKind.i64 (dv ((v1 (tz a k)).headD undef))), yes ((prY K g c).size < 2 ^ 38 ∧ (fun k => (v1 (tz a k)).headD undef) = fun k => Value.int IntKind.i64 (dv ((v1 (tz a k)).headD undef))), !(((glyphs (Mt fun k => dv ((v1 (tz a k)).headD undef)) (fun x => { n := (0 : Int), s := prX K g, v := (0 : Int), l := (0 : Int) }) 1).length : Nat) : Int) != (((glyphs (Mt fun k => dv ((v1 (tz a k)).headD undef)) (fun x => { n := (0 : Int), s := prY K g c, v := (0 : Int), l := (0 : Int) }) 1).length : Nat) : Int), yes (wasS (bodyOf Try.f25 2) (p3S K g (prA K g a).length (at_ (prA K g a)) (prB K g a c).length (at_ (prB K g a c)) 0))], Bo true, [some { t := 2, own := false, c := Cont.row 1 K fun j => [Value.int IntKind.i64 (g j)] }]) := by kernel_rfl
end Go.Proofs.Ytcpahifgdppkbaa.QAI
end
section
/- WhitPre: what is asked on the way holds. -/
set_option linter.unusedVariables false
set_option linter.unusedSimpArgs false
namespace Go.Proofs.Ytcpahifgdppkbaa.QAI
open Go Go.RowKit
set_option maxRecDepth 100000
theorem maxI64 : IntKind.i64.max = 9223372036854775807 := by decide
theorem p1_loop {K : Nat} {g a : Nat → Int} {m : Nat} {Q : Nat → Rn} {c : Int} (hm : m ≤ 12) (hl : lenR Q m ≤ 432) :
    CodeSem prG 1 (.loop (bodyOf Try.f25 0)) (p1S K g a m Q c (catS Q 0) 0) (.exit 0, p1S K g a m Q c (catS Q m) m) := by
  refine loop_of (fun i => p1S K g a m Q c (catS Q i) (i : Int)) m (by simp) ?_ fun j hj => ?_
  · exact rT_sem prG_ok noLoopsS (rT_go p1_ex ⟨by simp, trivial⟩)
  · have h3 := succ64 (j := j) (by omega)
    have h4 := lenR_le (R := Q) (k := m) j hj
    have h5 := catS_len Q j
    refine rT_sem prG_ok noLoopsS ((rT_go p1_go ?_).trans ?_)
    · simp only [Int.toNat_natCast, Nat.zero_add, maxI64]
      repeat' (first | exact AllT.nil | refine AllT.cons ?_ ?_)
      all_goals first | (with_reducible rfl) | exact decide_eq_true (by omega)
    · simp only [Int.toNat_natCast, Nat.zero_add, h3]
      rfl
def prP (c : Int) (i : Nat) : Bool := and64 (c.fdiv (2 ^ min (u64 (and64 (i : Int) 15)).toNat IntKind.i64.bits)) 1 == 1
theorem moreS_len (s : ByteArray) (p : Nat → Bool) : ∀ i, i ≤ s.size → (moreS s p i).size ≤ 4 * i
  | 0, _ => Nat.le_refl _
  | i + 1, hi => by
    have h1 := moreS_len s p i (by omega)
    have h2 : (s.extract i (i + 1)).size = 1 := by
      rw [← bs_len, bs_ext s i (by omega)]
      rfl
    have h3 : moreB.size = 3 := rfl
    rw [moreS]
    cases ((bt s i == 32) && p i)
    · show (moreS s p i ++ s.extract i (i + 1)).size ≤ _
      rw [ByteArray.size_append, h2]; omega
    · show (moreS s p i ++ s.extract i (i + 1) ++ moreB).size ≤ _
      rw [ByteArray.size_append, ByteArray.size_append, h2, h3]; omega
theorem p2_loop {K : Nat} {g a : Nat → Int} {c : Int} {s : ByteArray} (hs : s.size ≤ 432) :
    CodeSem prG 1 (.loop (bodyOf Try.f25 1)) (p2S K g a c s ⟨#[]⟩ 0) (.exit 2, p2S K g a c s (moreS s (prP c) s.size) s.size) := by
  refine loop_of (fun i => p2S K g a c s (moreS s (prP c) i) (i : Int)) s.size (by simp) ?_ fun j hj => ?_
  · exact rT_sem prG_ok noLoopsS (rT_go p2_ex ⟨by simp, trivial⟩)
  · have h3 := succ64 (j := j) (by omega)
    have h5 := moreS_len s (prP c) j (by omega)
    have h2 : (s.extract j (j + 1)).size = 1 := by
      rw [← bs_len, bs_ext s j (by omega)]
      rfl
    have h6 : (moreS s (prP c) j ++ s.extract j (j + 1)).size = (moreS s (prP c) j).size + 1 := by rw [ByteArray.size_append, h2]
    have hb : 0 ≤ u64 (and64 (j : Int) 15) := by unfold u64; rw [IntKind.wrap_u64]; omega
    have hd : decInt (j : Int) ((j + 1 : Nat) : Int) s.size = true := by unfold decInt; simp; omega
    have h3B : moreB.size = 3 := rfl
    by_cases h32 : bt s j = 32
    · have e32 : (bt s j == 32) = true := by simpa using h32
      by_cases hp : prP c j = true
      · have hp' := hp
        unfold prP at hp'
        refine rT_sem prG_ok noLoopsS ((rT_go p2_tt ?_).trans ?_)
        · simp only [Int.toNat_natCast, Nat.zero_add, maxI64, h3, h2, h6]
          repeat' (first | exact AllT.nil | refine AllT.cons ?_ ?_)
          all_goals first | (with_reducible rfl) | (with_reducible assumption) | exact decide_eq_true (by omega) | exact decide_eq_true hb | (refine decide_eq_true ?_; show (((moreS s (prP c) j).size + 1 + 3 : Nat) : Int) ≤ _; omega)
        · simp only [Int.toNat_natCast, h3]
          have e : moreS s (prP c) (j + 1) = moreS s (prP c) j ++ s.extract j (j + 1) ++ moreB := by rw [moreS, e32, hp]; rfl
          rw [e]
          rfl
      · have hp0 : prP c j = false := by simpa using hp
        have hp' : (!(and64 (c.fdiv (2 ^ min (u64 (and64 (j : Int) 15)).toNat IntKind.i64.bits)) 1 == 1)) = true := by
          have : (and64 (c.fdiv (2 ^ min (u64 (and64 (j : Int) 15)).toNat IntKind.i64.bits)) 1 == 1) = false := hp0
          rw [this]; rfl
        refine rT_sem prG_ok noLoopsS ((rT_go p2_tf ?_).trans ?_)
        · simp only [Int.toNat_natCast, Nat.zero_add, maxI64, h3, h2, h6]
          repeat' (first | exact AllT.nil | refine AllT.cons ?_ ?_)
          all_goals first | (with_reducible rfl) | (with_reducible assumption) | exact decide_eq_true (by omega) | exact decide_eq_true hb
        · simp only [Int.toNat_natCast, h3]
          have e : moreS s (prP c) (j + 1) = moreS s (prP c) j ++ s.extract j (j + 1) := by rw [moreS, e32, hp0]; rfl
          rw [e]
          rfl
    · have e32 : (bt s j == 32) = false := by simpa using h32
      have e32' : (!(bt s j == 32)) = true := by rw [e32]; rfl
      refine rT_sem prG_ok noLoopsS ((rT_go p2_f ?_).trans ?_)
      · simp only [Int.toNat_natCast, Nat.zero_add, maxI64, h3, h2, h6]
        repeat' (first | exact AllT.nil | refine AllT.cons ?_ ?_)
        all_goals first | (with_reducible rfl) | (with_reducible assumption) | exact decide_eq_true (by omega) | exact decide_eq_true hb
      · simp only [Int.toNat_natCast, h3]
        have e : moreS s (prP c) (j + 1) = moreS s (prP c) j ++ s.extract j (j + 1) := by rw [moreS, e32]; rfl
        rw [e]
        rfl
theorem p3_loop {K : Nat} {g : Nat → Int} {na : Nat} {L L' : Nat → Gl} (hna : na < 2 ^ 40) (h : ∀ i, i < na → (L i).k = (L' i).k ∧ (L i).w = (L' i).w) :
    CodeSem prG 1 (.loop (bodyOf Try.f25 2)) (p3S K g na L na L' 0) (.exit 4, p3S K g na L na L' na) := by
  refine loop_of (fun i => p3S K g na L na L' (i : Int)) na (by simp) ?_ fun j hj => ?_
  · exact rT_sem prG_ok noLoopsS (rT_go p3_ex ⟨by simp, trivial⟩)
  · have h3 := succ64 (j := j) (by omega)
    obtain ⟨e1, e2⟩ := h j hj
    refine rT_sem prG_ok noLoopsS ((rT_go p3_go ?_).trans ?_)
    · simp only [Int.toNat_natCast, Nat.zero_add, e1, e2]
      repeat' (first | exact AllT.nil | refine AllT.cons ?_ ?_)
      all_goals first | (with_reducible rfl) | exact decide_eq_true (by omega) | simp
    · rw [h3]
      rfl
theorem runs_cat (K : Nat) (g : Nat → Int) : (prX K g).size ≤ 432 := by
  obtain ⟨hm1, hm2⟩ := m12_le K
  have h := runsL_len (fun j => g (0 + j)) (m := m12 K) (m12 K) (Nat.le_refl _)
  unfold prX
  rw [catS_len]
  omega
theorem whitPre_true (K : Nat) (g a : Nat → Int) (c : Int) : ∃ keep tm d ℓ, LoopsSem (GT KWP keep 0 tm) [rowJ false K g].length ℓ ∧ (lfun (GT KWP keep 0 tm) ℓ d Try.f25 [aA a, .c (.sl 0 0 K), I64 c] [rowJ false K g]).eval = some (Bo true, [rowJ false K g]) := by
  obtain ⟨hm1, hm2⟩ := m12_le K
  have hx := runs_cat K g
  have hl := runsL_len (fun j => g (0 + j)) (m := m12 K) (m12 K) (Nat.le_refl _)
  have hy : (prY K g c).size ≤ 1728 := by
    have := moreS_len (prX K g) (prP c) (prX K g).size (Nat.le_refl _)
    have e : prY K g c = moreS (prX K g) (prP c) (prX K g).size := rfl
    rw [e]
    omega
  have hkw : (prA K g a).map kw = (prB K g a c).map kw := glyphs_more (R := prR (prX K g) 0) (R' := prR (prY K g c) 0) (p := prP c) rfl rfl rfl
  have hlen := kw_len hkw
  have hA : (prA K g a).length ≤ 432 := by
    refine Nat.le_trans glyphs_len ?_
    show 0 + (prX K g).size ≤ 432
    omega
  have hc := p3_loop (K := K) (g := g) (na := (prA K g a).length) (L := at_ (prA K g a)) (L' := at_ (prB K g a c)) (by omega) fun i hi => kw_at hkw hi
  have hp : (glyphs (Mt fun k => dv ((v1 (tz a k)).headD undef)) (fun x => (⟨0, prX K g, 2, 0⟩ : Rn)) 1).length = (prX K g).size := glyphs_pre (R := fun x => (⟨0, prX K g, 2, 0⟩ : Rn)) rfl
  refine ⟨_, [], 60, prL K g a c, byReg_sem (r := 5) (tell_ok (p1_loop hm1 (by omega))) (byReg_sem (r := 13) (tell_ok (p2_loop hx)) (tell_ok ?_)), (Tr.go_eval (pr_w (K := K) (g := g) (a := a) (c := c)) ?_).trans ?_⟩
  · rw [← hlen]
    exact hc
  · have e1 : (!(((glyphs (Mt fun k => dv ((v1 (tz a k)).headD undef)) (fun x => (⟨0, prX K g, 2, 0⟩ : Rn)) 1).length : Nat) : Int) != (((prX K g).size : Nat) : Int)) = true := by rw [hp]; simp
    have e2 : (!(((prA K g a).length : Nat) : Int) != (((prB K g a c).length : Nat) : Int)) = true := by rw [hlen]; simp
    repeat' (first | exact AllT.nil | refine AllT.cons ?_ ?_)
    all_goals first
      | (with_reducible rfl)
      | exact yes_of rfl
      | exact e1
      | exact yes_of ⟨by omega, rfl⟩
      | exact e2
      | exact yes_of ⟨rfl, rfl⟩
  · rfl
def whitPreS : List Shp := [.arr 256 (.int .i64), .rows 2 [.int .i64], .one (.int .i64)]
theorem whitPre_core : ∀ is, InsOk whitPreS is → ∃ keep tm d ℓ, LoopsSem (GT KWP keep 0 tm) (blksIn whitPreS is).length ℓ ∧ (lfun (GT KWP keep 0 tm) ℓ d Try.f25 (avsIn 0 whitPreS is) (blksIn whitPreS is)).eval = some (Bo true, blksIn whitPreS is) := by
  intro is0 h0
  obtain ⟨v0, is1, rfl, h1⟩ := ins_arr h0
  obtain ⟨k2, v2, is3, rfl, h3, _⟩ := ins_ints h1
  obtain ⟨v3, is4, rfl, h4⟩ := ins_i64 h3
  obtain rfl := ins_nil h4
  exact whitPre_true k2 v2 v0 v3
end Go.Proofs.Ytcpahifgdppkbaa.QAI
end
section
/- A run that stands alone, told by its block. -/
set_option linter.unusedVariables false
set_option linter.unusedSimpArgs false
namespace Go.Proofs.Ytcpahifgdppkbaa.QAI
open Go Go.RowKit
noncomputable def glF2 : Spec := fun args h => match args, h with
  | [.arr 256 f, .c (.sl 0 o k)], [some ⟨83, true, .lst 4 [[.v (.int .i64 n), .v (.string s), .v (.int .i64 v), .v (.int .i64 l)]] z⟩] =>
    .need (yes (o = 0 ∧ k = 1 ∧ s.size < 2 ^ 38 ∧ f = fun k => .int .i64 (dv (f k))))
      (.ret (.c (.sl 1 0 (glyphs (Mt fun k => dv (f k)) (fun _ => ⟨n, s, v, l⟩) 1).length), [lstRn s v n l z, rowGl (glyphs (Mt fun k => dv (f k)) (fun _ => ⟨n, s, v, l⟩) 1).length (at_ (glyphs (Mt fun k => dv (f k)) (fun _ => ⟨n, s, v, l⟩) 1))]))
  | args, h => glF args h
theorem glF2_ok : SpecOk Try.prog 82 glF2 := by
  refine SpecOk.same glF_ok fun args H r H' he => ?_
  unfold glF2 at he
  split at he
  · rename_i f o k n s v l z
    obtain ⟨⟨h0, h3, h1, h2⟩, he2⟩ := Tr.eval_ask.1 he
    clear he
    cases he2
    subst h0 h3
    have hB : ∀ z, SameB (some ⟨83, true, .row 4 1 fun _ => encN ⟨n, s, v, l⟩⟩) (lstRn s v n l z) := fun z => ⟨rfl, rfl, rfl, rfl, fun i hi => by
      have : i = 0 := by
        have : i < 1 := hi
        omega
      subst this
      rfl⟩
    refine ⟨[some ⟨83, true, .row 4 1 fun _ => encN ⟨n, s, v, l⟩⟩], [some ⟨83, true, .row 4 1 fun _ => encN ⟨n, s, v, l⟩⟩, _], .cons (hB z) .nil, .cons (hB z) (.cons (SameB.refl _) .nil), ?_⟩
    unfold glF
    have e : lenR (fun i => decN ((fun _ => encN ⟨n, s, v, l⟩) (0 + i))) 1 = s.size := by
      show 0 + s.size = s.size
      omega
    exact Tr.eval_ask.2 ⟨⟨by omega, by omega, by rw [e]; omega, h2, rfl⟩, rfl⟩
  · exact ⟨H, H', SameH.refl _, SameH.refl _, he⟩
noncomputable def KWQ : Known := [(46, tmF2), (81, rnF), (82, glF2), (83, sAwakeT)]
theorem KWQ_ok : KnownOk KWQ := consK tmF2_ok (by kernel_rfl) (consK rnF_ok (by kernel_rfl) (consK glF2_ok (by kernel_rfl) (consK awake10_ok (by kernel_rfl) nilK)))
end Go.Proofs.Ytcpahifgdppkbaa.QAI
end
section
/- WhitParts: the walk. -/
set_option linter.unusedVariables false
set_option linter.unusedSimpArgs false
namespace Go.Proofs.Ytcpahifgdppkbaa.QAI
open Go Go.RowKit
set_option maxRecDepth 100000
abbrev q1K : List (Nat × Option TypeId) := [(2,none),(3,none),(4,none),(9,none),(10,none),(11,none)]
abbrev q2K : List (Nat × Option TypeId) := [(2,none),(3,none),(4,none),(9,none),(12,some 83),(13,none),(14,none)]
abbrev q3K : List (Nat × Option TypeId) := [(12,none),(16,none),(17,none),(18,none),(19,none)]
abbrev q4K : List (Nat × Option TypeId) := [(12,none),(16,none),(17,none),(18,none),(20,none)]
noncomputable def qaG : Ctx2 := GT KWQ (fun k => if k = 6 then q1K else if k = 12 then q2K else if k = 23 then q3K else if k = 27 then q4K else []) 0 []
theorem qaG_ok : XOk qaG := GT_ok KWQ_ok _ _ _
def rowH (own : Bool) (n : Nat) (h : Nat → Int) : Option ABlk := some ⟨3, own, .row 1 n fun j => v1 (h j)⟩
def q1S (K : Nat) (g : Nat → Int) (T : Nat) (h : Nat → Int) (a : Nat → Int) (m : Nat) (Q : Nat → Rn) (v : Int) (s : ByteArray) (i : Int) : St :=
  ⟨slots 192 [(2, .c (.sl 1 0 T)), (3, I64 v), (4, .c (.ptr 2 0 0)), (9, St0 s), (10, .c (.sl 3 0 m)), (11, I64 i)], [rowJ false K g, rowH false T h, rowA a, rowRn true m Q]⟩
def q2S (K : Nat) (g : Nat → Int) (T : Nat) (h : Nat → Int) (a : Nat → Int) (v : Int) (s : ByteArray) (na : Nat) (P : Nat → Rn) (t : ByteArray) (i : Int) : St :=
  ⟨slots 192 [(2, .c (.sl 1 0 T)), (3, I64 v), (4, .c (.ptr 2 0 0)), (9, St0 s), (12, .c (.sl 3 0 na)), (13, St0 t), (14, I64 i)], [rowJ false K g, rowH false T h, rowA a, rowRn true na P]⟩
def q3R (K : Nat) (g : Nat → Int) (T : Nat) (h : Nat → Int) (n : Nat) (q : Nat → List Value) (na : Nat) (L : Nat → Gl) (nb : Nat) (L' : Nat → Gl) (nf : Nat) (F : Nat → Int) (i : Int) : St :=
  ⟨slots 192 [(12, .c (.sl 2 0 n)), (16, .c (.sl 3 0 na)), (17, .c (.sl 4 0 nb)), (18, .c (.sl 5 0 nf)), (19, I64 i)], [rowJ false K g, rowH false T h, some ⟨83, true, .row 4 n q⟩, rowGl na L, rowGl nb L', rowH true nf F]⟩
def q3S (K : Nat) (g : Nat → Int) (T : Nat) (h : Nat → Int) (n : Nat) (P : Nat → Rn) (na : Nat) (L : Nat → Gl) (nb : Nat) (L' : Nat → Gl) (nf : Nat) (F : Nat → Int) (i : Int) : St := q3R K g T h n (fun j => encN (P j)) na L nb L' nf F i
def q4S (K : Nat) (g : Nat → Int) (T : Nat) (h : Nat → Int) (n : Nat) (P : Nat → Rn) (na : Nat) (L : Nat → Gl) (nb : Nat) (L' : Nat → Gl) (nf : Nat) (F : Nat → Int) (i : Int) : St :=
  ⟨slots 192 [(12, .c (.sl 2 0 n)), (16, .c (.sl 3 0 na)), (17, .c (.sl 4 0 nb)), (18, .c (.sl 5 0 nf)), (20, I64 i)], [rowJ false K g, rowH false T h, rowRn true n P, rowGl na L, rowGl nb L', rowH true nf F]⟩
def emp (t : ByteArray) : Bool := t.toList == (⟨#[]⟩ : ByteArray).toList
theorem q1_go {K : Nat} {g : Nat → Int} {T : Nat} {h : Nat → Int} {a : Nat → Int} {m : Nat} {Q : Nat → Rn} {v : Int} {s : ByteArray} {i : Int} : (rT qaG nol 2 51 (bodyOf Try.f21 0) q1K q1K (q1S K g T h a m Q v s i)).go [] =
  some ([decide (i < ((m : Nat) : Int)), decide ((0 : Int) ≤ i), decide (i < ((m : Nat) : Int)), decide (0 + i.toNat < m), decide (((s.size + (Q (0 + i.toNat)).s.size : Nat) : Int) ≤ IntKind.i64.max)], Ex.normal, { sl := slots 192 [(2, AV.c (AC.sl 1 0 T)), (3, I64 v), (4, AV.c (AC.ptr 2 0 0)), (9, AV.c (AC.v (Value.string (s ++ (Q (0 + i.toNat)).s)))), (10, AV.c (AC.sl 3 0 m)), (11, I64 (w64 (i + (1 : Int))))], h := [some { t := 2, own := false, c := Cont.row 1 K fun j => [Value.int IntKind.i64 (g j)] }, some { t := 3, own := false, c := Cont.row 1 T fun j => [Value.int IntKind.i64 (h j)] }, some { t := 35, own := true, c := Cont.row 1 256 fun k => [Value.int IntKind.i64 (a k)] }, some { t := 83, own := true, c := Cont.row 4 m fun j => [Value.int IntKind.i64 (Q j).n, Value.string (Q j).s, Value.int IntKind.i64 (Q j).v, Value.int IntKind.i64 (Q j).l] }] }) := by kernel_rfl
theorem q1_ex {K : Nat} {g : Nat → Int} {T : Nat} {h : Nat → Int} {a : Nat → Int} {m : Nat} {Q : Nat → Rn} {v : Int} {s : ByteArray} {i : Int} : (rT qaG nol 2 51 (bodyOf Try.f21 0) q1K q1K (q1S K g T h a m Q v s i)).go [false] =
  some ([!decide (i < ((m : Nat) : Int))], Ex.exit 0, { sl := slots 192 [(2, AV.c (AC.sl 1 0 T)), (3, I64 v), (4, AV.c (AC.ptr 2 0 0)), (9, AV.c (AC.v (Value.string s))), (10, AV.c (AC.sl 3 0 m)), (11, I64 i)], h := [some { t := 2, own := false, c := Cont.row 1 K fun j => [Value.int IntKind.i64 (g j)] }, some { t := 3, own := false, c := Cont.row 1 T fun j => [Value.int IntKind.i64 (h j)] }, some { t := 35, own := true, c := Cont.row 1 256 fun k => [Value.int IntKind.i64 (a k)] }, some { t := 83, own := true, c := Cont.row 4 m fun j => [Value.int IntKind.i64 (Q j).n, Value.string (Q j).s, Value.int IntKind.i64 (Q j).v, Value.int IntKind.i64 (Q j).l] }] }) := by kernel_rfl
theorem q2_go {K : Nat} {g : Nat → Int} {T : Nat} {h : Nat → Int} {a : Nat → Int} {v : Int} {s : ByteArray} {na : Nat} {P : Nat → Rn} {t : ByteArray} {i : Int} : (rT qaG nol 2 48 (bodyOf Try.f21 1) q2K q2K (q2S K g T h a v s na P t i)).go [] =
  some ([decide (i < ((T : Nat) : Int)), true, true, decide (i < (8 : Int)), true, true, !emp t, decide ((0 : Int) ≤ i), decide (i < ((T : Nat) : Int)), decide (0 + i.toNat < T), decide (w64 (((t.size : Nat) : Int) + (1 : Int)) ≠ (0 : Int)), decInt (0 : Int) ((and64 (h (0 + i.toNat)) (255 : Int)).tmod (w64 (((t.size : Nat) : Int) + (1 : Int)))) t.size, decide (na = na), true, decide ((na + 1) * 40 ≤ maxCells), decInt ((and64 (h (0 + i.toNat)) (255 : Int)).tmod (w64 (((t.size : Nat) : Int) + (1 : Int)))) (((t.size : Nat) : Int)) t.size], Ex.normal, { sl := slots 192 [(2, AV.c (AC.sl 1 0 T)), (3, I64 v), (4, AV.c (AC.ptr 2 0 0)), (9, AV.c (AC.v (Value.string s))), (12, AV.c (AC.sl 3 0 (na + 1))), (13, AV.c (AC.v (Value.string (t.extract ((and64 (h (0 + i.toNat)) (255 : Int)).tmod (w64 (((t.size : Nat) : Int) + (1 : Int)))).toNat t.size)))), (14, I64 (w64 (i + (1 : Int))))], h := [some { t := 2, own := false, c := Cont.row 1 K fun j => [Value.int IntKind.i64 (g j)] }, some { t := 3, own := false, c := Cont.row 1 T fun j => [Value.int IntKind.i64 (h j)] }, some { t := 35, own := true, c := Cont.row 1 256 fun k => [Value.int IntKind.i64 (a k)] }, some { t := 83, own := true, c := Cont.row 4 (na + 1) fun k => Decidable.rec (fun h => encN (P k)) (fun h_1 => [Value.int IntKind.i64 (0 : Int), Value.string (t.extract 0 ((and64 (h (0 + i.toNat)) (255 : Int)).tmod (w64 (((t.size : Nat) : Int) + (1 : Int)))).toNat), Value.int IntKind.i64 v, Value.int IntKind.i64 (0 : Int)]) (instDecidableEqNat k na) }] }) := by kernel_rfl
theorem q2_e1 {K : Nat} {g : Nat → Int} {T : Nat} {h : Nat → Int} {a : Nat → Int} {v : Int} {s : ByteArray} {na : Nat} {P : Nat → Rn} {t : ByteArray} {i : Int} : (rT qaG nol 2 48 (bodyOf Try.f21 1) q2K q2K (q2S K g T h a v s na P t i)).go [false, false, false, false, false, false, false] =
  some ([!decide (i < ((T : Nat) : Int)), true, true, true, true, true, true], Ex.exit 2, { sl := slots 192 [(2, AV.c (AC.sl 1 0 T)), (3, I64 v), (4, AV.c (AC.ptr 2 0 0)), (9, AV.c (AC.v (Value.string s))), (12, AV.c (AC.sl 3 0 na)), (13, AV.c (AC.v (Value.string t))), (14, I64 i)], h := [some { t := 2, own := false, c := Cont.row 1 K fun j => [Value.int IntKind.i64 (g j)] }, some { t := 3, own := false, c := Cont.row 1 T fun j => [Value.int IntKind.i64 (h j)] }, some { t := 35, own := true, c := Cont.row 1 256 fun k => [Value.int IntKind.i64 (a k)] }, some { t := 83, own := true, c := Cont.row 4 na fun j => [Value.int IntKind.i64 (P j).n, Value.string (P j).s, Value.int IntKind.i64 (P j).v, Value.int IntKind.i64 (P j).l] }] }) := by kernel_rfl
theorem q2_e2 {K : Nat} {g : Nat → Int} {T : Nat} {h : Nat → Int} {a : Nat → Int} {v : Int} {s : ByteArray} {na : Nat} {P : Nat → Rn} {t : ByteArray} {i : Int} : (rT qaG nol 2 48 (bodyOf Try.f21 1) q2K q2K (q2S K g T h a v s na P t i)).go [true, true, true, false, false, false, false] =
  some ([decide (i < ((T : Nat) : Int)), true, true, !decide (i < (8 : Int)), true, true, true], Ex.exit 2, { sl := slots 192 [(2, AV.c (AC.sl 1 0 T)), (3, I64 v), (4, AV.c (AC.ptr 2 0 0)), (9, AV.c (AC.v (Value.string s))), (12, AV.c (AC.sl 3 0 na)), (13, AV.c (AC.v (Value.string t))), (14, I64 i)], h := [some { t := 2, own := false, c := Cont.row 1 K fun j => [Value.int IntKind.i64 (g j)] }, some { t := 3, own := false, c := Cont.row 1 T fun j => [Value.int IntKind.i64 (h j)] }, some { t := 35, own := true, c := Cont.row 1 256 fun k => [Value.int IntKind.i64 (a k)] }, some { t := 83, own := true, c := Cont.row 4 na fun j => [Value.int IntKind.i64 (P j).n, Value.string (P j).s, Value.int IntKind.i64 (P j).v, Value.int IntKind.i64 (P j).l] }] }) := by kernel_rfl
theorem q2_e3 {K : Nat} {g : Nat → Int} {T : Nat} {h : Nat → Int} {a : Nat → Int} {v : Int} {s : ByteArray} {na : Nat} {P : Nat → Rn} {t : ByteArray} {i : Int} : (rT qaG nol 2 48 (bodyOf Try.f21 1) q2K q2K (q2S K g T h a v s na P t i)).go [true, true, true, true, true, true, false] =
  some ([decide (i < ((T : Nat) : Int)), true, true, decide (i < (8 : Int)), true, true, !!emp t], Ex.exit 2, { sl := slots 192 [(2, AV.c (AC.sl 1 0 T)), (3, I64 v), (4, AV.c (AC.ptr 2 0 0)), (9, AV.c (AC.v (Value.string s))), (12, AV.c (AC.sl 3 0 na)), (13, AV.c (AC.v (Value.string t))), (14, I64 i)], h := [some { t := 2, own := false, c := Cont.row 1 K fun j => [Value.int IntKind.i64 (g j)] }, some { t := 3, own := false, c := Cont.row 1 T fun j => [Value.int IntKind.i64 (h j)] }, some { t := 35, own := true, c := Cont.row 1 256 fun k => [Value.int IntKind.i64 (a k)] }, some { t := 83, own := true, c := Cont.row 4 na fun j => [Value.int IntKind.i64 (P j).n, Value.string (P j).s, Value.int IntKind.i64 (P j).v, Value.int IntKind.i64 (P j).l] }] }) := by kernel_rfl
theorem q3_go {K : Nat} {g : Nat → Int} {T : Nat} {h : Nat → Int} {n : Nat} {P : Nat → Rn} {na : Nat} {L : Nat → Gl} {nb : Nat} {L' : Nat → Gl} {nf : Nat} {F : Nat → Int} {i : Int} : (rT qaG nol 2 43 (bodyOf Try.f21 2) q3K q3K (q3S K g T h n P na L nb L' nf F i)).go [] =
  some ([decide (i < ((n : Nat) : Int)), decide ((0 : Int) ≤ i), decide (i < ((nf : Nat) : Int)), decide (0 + i.toNat < nf), decide ((0 : Int) ≤ i), decide (i < ((n : Nat) : Int)), decide (0 + i.toNat < n), decide ((0 : Int) ≤ w64 (i + (1 : Int))), decide (w64 (i + (1 : Int)) < ((nf : Nat) : Int)), decide (0 + (w64 (i + (1 : Int))).toNat < nf)], Ex.normal, { sl := slots 192 [(12, AV.c (AC.sl 2 0 n)), (16, AV.c (AC.sl 3 0 na)), (17, AV.c (AC.sl 4 0 nb)), (18, AV.c (AC.sl 5 0 nf)), (19, I64 (w64 (i + (1 : Int))))], h := [some { t := 2, own := false, c := Cont.row 1 K fun j => [Value.int IntKind.i64 (g j)] }, some { t := 3, own := false, c := Cont.row 1 T fun j => [Value.int IntKind.i64 (h j)] }, some { t := 83, own := true, c := Cont.row 4 n fun j => [Value.int IntKind.i64 (P j).n, Value.string (P j).s, Value.int IntKind.i64 (P j).v, Value.int IntKind.i64 (P j).l] }, some { t := 87, own := true, c := Cont.row 4 na fun j => [Value.int IntKind.i64 (L j).k, Value.int IntKind.i64 (L j).r, Value.int IntKind.i64 (L j).a, Value.int IntKind.i64 (L j).w] }, some { t := 87, own := true, c := Cont.row 4 nb fun j => [Value.int IntKind.i64 (L' j).k, Value.int IntKind.i64 (L' j).r, Value.int IntKind.i64 (L' j).a, Value.int IntKind.i64 (L' j).w] }, some { t := 3, own := true, c := Cont.row 1 nf fun k => [Value.int IntKind.i64 (bif decide (k = 0 + (w64 (i + (1 : Int))).toNat) then w64 (F (0 + i.toNat) + (((P (0 + i.toNat)).s.size : Nat) : Int)) else F k)] }] }) := by kernel_rfl
theorem q3_ex {K : Nat} {g : Nat → Int} {T : Nat} {h : Nat → Int} {n : Nat} {P : Nat → Rn} {na : Nat} {L : Nat → Gl} {nb : Nat} {L' : Nat → Gl} {nf : Nat} {F : Nat → Int} {i : Int} : (rT qaG nol 2 43 (bodyOf Try.f21 2) q3K q3K (q3S K g T h n P na L nb L' nf F i)).go [false] =
  some ([!decide (i < ((n : Nat) : Int))], Ex.exit 4, { sl := slots 192 [(12, AV.c (AC.sl 2 0 n)), (16, AV.c (AC.sl 3 0 na)), (17, AV.c (AC.sl 4 0 nb)), (18, AV.c (AC.sl 5 0 nf)), (19, I64 i)], h := [some { t := 2, own := false, c := Cont.row 1 K fun j => [Value.int IntKind.i64 (g j)] }, some { t := 3, own := false, c := Cont.row 1 T fun j => [Value.int IntKind.i64 (h j)] }, some { t := 83, own := true, c := Cont.row 4 n fun j => [Value.int IntKind.i64 (P j).n, Value.string (P j).s, Value.int IntKind.i64 (P j).v, Value.int IntKind.i64 (P j).l] }, some { t := 87, own := true, c := Cont.row 4 na fun j => [Value.int IntKind.i64 (L j).k, Value.int IntKind.i64 (L j).r, Value.int IntKind.i64 (L j).a, Value.int IntKind.i64 (L j).w] }, some { t := 87, own := true, c := Cont.row 4 nb fun j => [Value.int IntKind.i64 (L' j).k, Value.int IntKind.i64 (L' j).r, Value.int IntKind.i64 (L' j).a, Value.int IntKind.i64 (L' j).w] }, some { t := 3, own := true, c := Cont.row 1 nf fun j => [Value.int IntKind.i64 (F j)] }] }) := by kernel_rfl
theorem q4_go {K : Nat} {g : Nat → Int} {T : Nat} {h : Nat → Int} {n : Nat} {P : Nat → Rn} {na : Nat} {L : Nat → Gl} {nb : Nat} {L' : Nat → Gl} {nf : Nat} {F : Nat → Int} {i : Int} : (rT qaG nol 2 42 (bodyOf Try.f21 3) q4K q4K (q4S K g T h n P na L nb L' nf F i)).go [true, true, true, true, false, false, false, true, true, false, false, true, false, false, false, false, false, false, false, true, true, false, false, true, false, false, false, true, true, false, false, true, false, false, false, false, false, true, true, false, false, true, false, false, false, true, true, false, false, true, false, false, false, false, false, true, true, false, false, true, false, false, false, false, true, true, false, false, true, false, true, true, false, true, false, false, false, true, true, false, false, true, false, false, false, false] =
  some ([decide (i < ((na : Nat) : Int)), decide ((0 : Int) ≤ i), decide (i < ((nb : Nat) : Int)), decide (0 + i.toNat < nb), !decide ((L' (0 + i.toNat)).r < (0 : Int)), true, true, decide ((0 : Int) ≤ i), decide (i < ((nb : Nat) : Int)), true, true, decide (0 + i.toNat < nb), true, true, true, true, !decide ((L' (0 + i.toNat)).r ≥ ((n : Nat) : Int)), true, true, decide ((0 : Int) ≤ i), decide (i < ((na : Nat) : Int)), true, true, decide (0 + i.toNat < na), true, true, true, decide ((0 : Int) ≤ i), decide (i < ((nb : Nat) : Int)), true, true, decide (0 + i.toNat < nb), true, true, !(L (0 + i.toNat)).k != (L' (0 + i.toNat)).k, true, true, decide ((0 : Int) ≤ i), decide (i < ((na : Nat) : Int)), true, true, decide (0 + i.toNat < na), true, true, true, decide ((0 : Int) ≤ i), decide (i < ((nb : Nat) : Int)), true, true, decide (0 + i.toNat < nb), true, true, !(L (0 + i.toNat)).w != (L' (0 + i.toNat)).w, true, true, decide ((0 : Int) ≤ i), decide (i < ((na : Nat) : Int)), true, true, decide (0 + i.toNat < na), true, true, true, true, decide ((0 : Int) ≤ i), decide (i < ((nb : Nat) : Int)), true, true, decide (0 + i.toNat < nb), true, decide ((0 : Int) ≤ (L' (0 + i.toNat)).r), decide ((L' (0 + i.toNat)).r < ((nf : Nat) : Int)), true, decide (0 + (L' (0 + i.toNat)).r.toNat < nf), true, true, true, decide ((0 : Int) ≤ i), decide (i < ((nb : Nat) : Int)), true, true, decide (0 + i.toNat < nb), true, true, true, !(L (0 + i.toNat)).a != w64 (F (0 + (L' (0 + i.toNat)).r.toNat) + (L' (0 + i.toNat)).a)], Ex.normal, { sl := slots 192 [(12, AV.c (AC.sl 2 0 n)), (16, AV.c (AC.sl 3 0 na)), (17, AV.c (AC.sl 4 0 nb)), (18, AV.c (AC.sl 5 0 nf)), (20, I64 (w64 (i + (1 : Int))))], h := [some { t := 2, own := false, c := Cont.row 1 K fun j => [Value.int IntKind.i64 (g j)] }, some { t := 3, own := false, c := Cont.row 1 T fun j => [Value.int IntKind.i64 (h j)] }, some { t := 83, own := true, c := Cont.row 4 n fun j => [Value.int IntKind.i64 (P j).n, Value.string (P j).s, Value.int IntKind.i64 (P j).v, Value.int IntKind.i64 (P j).l] }, some { t := 87, own := true, c := Cont.row 4 na fun j => [Value.int IntKind.i64 (L j).k, Value.int IntKind.i64 (L j).r, Value.int IntKind.i64 (L j).a, Value.int IntKind.i64 (L j).w] }, some { t := 87, own := true, c := Cont.row 4 nb fun j => [Value.int IntKind.i64 (L' j).k, Value.int IntKind.i64 (L' j).r, Value.int IntKind.i64 (L' j).a, Value.int IntKind.i64 (L' j).w] }, some { t := 3, own := true, c := Cont.row 1 nf fun j => [Value.int IntKind.i64 (F j)] }] }) := by kernel_rfl
theorem q4_ex {K : Nat} {g : Nat → Int} {T : Nat} {h : Nat → Int} {n : Nat} {P : Nat → Rn} {na : Nat} {L : Nat → Gl} {nb : Nat} {L' : Nat → Gl} {nf : Nat} {F : Nat → Int} {i : Int} : (rT qaG nol 2 42 (bodyOf Try.f21 3) q4K q4K (q4S K g T h n P na L nb L' nf F i)).go [false] =
  some ([!decide (i < ((na : Nat) : Int))], Ex.exit 6, { sl := slots 192 [(12, AV.c (AC.sl 2 0 n)), (16, AV.c (AC.sl 3 0 na)), (17, AV.c (AC.sl 4 0 nb)), (18, AV.c (AC.sl 5 0 nf)), (20, I64 i)], h := [some { t := 2, own := false, c := Cont.row 1 K fun j => [Value.int IntKind.i64 (g j)] }, some { t := 3, own := false, c := Cont.row 1 T fun j => [Value.int IntKind.i64 (h j)] }, some { t := 83, own := true, c := Cont.row 4 n fun j => [Value.int IntKind.i64 (P j).n, Value.string (P j).s, Value.int IntKind.i64 (P j).v, Value.int IntKind.i64 (P j).l] }, some { t := 87, own := true, c := Cont.row 4 na fun j => [Value.int IntKind.i64 (L j).k, Value.int IntKind.i64 (L j).r, Value.int IntKind.i64 (L j).a, Value.int IntKind.i64 (L j).w] }, some { t := 87, own := true, c := Cont.row 4 nb fun j => [Value.int IntKind.i64 (L' j).k, Value.int IntKind.i64 (L' j).r, Value.int IntKind.i64 (L' j).a, Value.int IntKind.i64 (L' j).w] }, some { t := 3, own := true, c := Cont.row 1 nf fun j => [Value.int IntKind.i64 (F j)] }] }) := by kernel_rfl
end Go.Proofs.Ytcpahifgdppkbaa.QAI
end
section
/- A text parted: plain. -/
set_option linter.unusedVariables false
set_option linter.unusedSimpArgs false
namespace Go.Proofs.Ytcpahifgdppkbaa.QAI
open Go Go.RowKit
set_option maxRecDepth 100000
def kI (x : Int) (n : Nat) : Int := (and64 x 255).tmod (w64 ((n : Int) + 1))
def kO (x : Int) (n : Nat) : Nat := (kI x n).toNat
theorem kI_b (x : Int) {n : Nat} (hn : n < 2 ^ 40) : kI x n = ((kO x n : Nat) : Int) ∧ kO x n ≤ n := by
  have e2 : and64 x 255 = x % 256 := and_mask 8 (by decide) x 255 rfl
  have e : w64 ((n : Int) + 1) = (n : Int) + 1 := w64_id (by omega) (by omega)
  unfold kO kI
  rw [e, e2, tmod_nn (by omega)]
  have h1 : 0 ≤ x % 256 % ((n : Int) + 1) := Int.emod_nonneg _ (by omega)
  have h2 : x % 256 % ((n : Int) + 1) < (n : Int) + 1 := Int.emod_lt_of_pos _ (by omega)
  omega
/-- What is left of a text, behind so many parts. -/
def rsT (h : Nat → Int) (s : ByteArray) : Nat → ByteArray
  | 0 => s
  | i + 1 => (rsT h s i).extract (kO (h i) (rsT h s i).size) (rsT h s i).size
def ptT (h : Nat → Int) (s : ByteArray) (i : Nat) : ByteArray := (rsT h s i).extract 0 (kO (h i) (rsT h s i).size)
theorem bs_extract (s : ByteArray) (a b : Nat) : bs (s.extract a b) = ((bs s).drop a).take (b - a) := by
  have e : (s.extract a b).data.toList = (s.data.toList.drop a).take (b - a) := by simp [List.extract]
  rw [bs, e, bs, List.map_take, List.map_drop]
theorem rsT_le (h : Nat → Int) (s : ByteArray) : ∀ i, (rsT h s i).size ≤ s.size
  | 0 => Nat.le_refl _
  | i + 1 => by
    have ih := rsT_le h s i
    have e : (rsT h s (i + 1)).size = (bs (rsT h s (i + 1))).length := (bs_len _).symm
    rw [e, rsT, bs_extract]
    have := bs_len (rsT h s i)
    simp only [List.length_take, List.length_drop]
    omega
theorem rs_split (h : Nat → Int) (s : ByteArray) (i : Nat) : bs (rsT h s i) = bs (ptT h s i) ++ bs (rsT h s (i + 1)) := by
  rw [ptT, rsT, bs_extract, bs_extract, List.drop_zero, Nat.sub_zero]
  have e : ((bs (rsT h s i)).drop (kO (h i) (rsT h s i).size)).take ((rsT h s i).size - kO (h i) (rsT h s i).size) = (bs (rsT h s i)).drop (kO (h i) (rsT h s i).size) := by
    refine List.take_of_length_le ?_
    rw [List.length_drop, bs_len]
    exact Nat.le_refl _
  rw [e, List.take_append_drop]
def pP (h : Nat → Int) (s : ByteArray) (v : Int) (i : Nat) : Nat → Rn := fun j => if j < i then ⟨0, ptT h s j, v, 0⟩ else zRn
def pQ (h : Nat → Int) (s : ByteArray) (v : Int) (N : Nat) : Nat → Rn := fun j => if j = N then ⟨0, rsT h s N, v, 0⟩ else pP h s v N j
theorem upd_pP (h : Nat → Int) (s : ByteArray) (v : Int) (i : Nat) : upd (fun j => encN (pP h s v i j)) i (encN ⟨0, ptT h s i, v, 0⟩) = fun j => encN (pP h s v (i + 1) j) := by
  funext j
  unfold upd pP
  by_cases e : j = i
  · subst e; simp
  · by_cases h2 : j < i
    · simp [e, h2, Nat.lt_succ_of_lt h2]
    · have : ¬ j < i + 1 := by omega
      simp [e, h2, this]
theorem upd_pQ (h : Nat → Int) (s : ByteArray) (v : Int) (N : Nat) : upd (fun j => encN (pP h s v N j)) N (encN ⟨0, rsT h s N, v, 0⟩) = fun j => encN (pQ h s v N j) := by
  funext j
  unfold upd pQ
  by_cases e : j = N <;> simp [e]
theorem bsR_pQ (h : Nat → Int) (s : ByteArray) (v : Int) (N : Nat) : ∀ i, i ≤ N → bsR (pQ h s v N) i ++ bs (rsT h s i) = bs s
  | 0, _ => rfl
  | i + 1, hi => by
    rw [← bsR_pQ h s v N i (by omega), bsR]
    have e : (pQ h s v N i).s = ptT h s i := by
      have h1 : ¬ i = N := by omega
      have h2 : i < N := by omega
      simp [pQ, pP, h1, h2]
    rw [e, rs_split h s i, List.append_assoc]
theorem bsR_all (h : Nat → Int) (s : ByteArray) (v : Int) (N : Nat) : bs s = bsR (pQ h s v N) (N + 1) := by
  rw [bsR, ← bsR_pQ h s v N N (Nat.le_refl _)]
  have e : (pQ h s v N N).s = rsT h s N := by simp [pQ]
  rw [e]
theorem pQ_v (h : Nat → Int) (s : ByteArray) (v : Int) (N : Nat) : ∀ i, i < N + 1 → (pQ h s v N i).v = v := by
  intro i hi
  unfold pQ
  split
  · rfl
  · have : i < N := by omega
    simp [pP, this]
theorem lenR_pQ (h : Nat → Int) (s : ByteArray) (v : Int) (N : Nat) : lenR (pQ h s v N) (N + 1) = s.size := by
  rw [← bsR_len, ← bsR_all, bs_len]
/-- Where the parting ends. -/
theorem stop_N (h : Nat → Int) (s : ByteArray) (T : Nat) : ∃ N, N ≤ T ∧ N ≤ 8 ∧ (∀ i, i < N → emp (rsT h s i) = false) ∧ (N = T ∨ N = 8 ∨ emp (rsT h s N) = true) := by
  have key : ∀ k, k ≤ T → k ≤ 8 → (∃ N, N ≤ T ∧ N ≤ 8 ∧ (∀ i, i < N → emp (rsT h s i) = false) ∧ (N = T ∨ N = 8 ∨ emp (rsT h s N) = true)) ∨ ∀ i, i < k → emp (rsT h s i) = false := by
    intro k
    induction k with
    | zero => intro _ _; exact .inr fun i hi => absurd hi (Nat.not_lt_zero _)
    | succ k ih =>
      intro h1 h2
      rcases ih (by omega) (by omega) with h3 | h3
      · exact .inl h3
      · cases hd : emp (rsT h s k)
        · refine .inr fun i hi => ?_
          rcases Nat.lt_or_ge i k with hlt | hge
          · exact h3 i hlt
          · have : i = k := by omega
            subst this; exact hd
        · exact .inl ⟨k, by omega, by omega, h3, .inr (.inr hd)⟩
  rcases Nat.le_total T 8 with hT | hT
  · rcases key T (Nat.le_refl _) hT with h1 | h1
    · exact h1
    · exact ⟨T, Nat.le_refl _, hT, h1, .inl rfl⟩
  · rcases key 8 hT (Nat.le_refl _) with h1 | h1
    · exact h1
    · exact ⟨8, hT, Nat.le_refl _, h1, .inr (.inl rfl)⟩
/-- Where each part begins. -/
def frF (P : Nat → Rn) (i : Nat) : Nat → Int := fun j => if j ≤ i then (lenR P j : Int) else 0
end Go.Proofs.Ytcpahifgdppkbaa.QAI
end
section
/- WhitParts: the whole. -/
set_option linter.unusedVariables false
set_option linter.unusedSimpArgs false
namespace Go.Proofs.Ytcpahifgdppkbaa.QAI
open Go Go.RowKit
set_option maxRecDepth 100000
def qv (x : Int) : Int := (and64 x 255).tmod 3
def qR (K : Nat) (g h : Nat → Int) (v : Int) (N : Nat) : Nat → List Value := upd (fun j => encN (pP h (prX K g) v N j)) N (encN ⟨0, rsT h (prX K g) N, v, 0⟩)
def qA (K : Nat) (g a : Nat → Int) (v : Int) : List Gl := glyphs (Mt fun k => dv ((v1 (tz a k)).headD undef)) (fun _ => ⟨0, prX K g, v, 0⟩) 1
def qB (K : Nat) (g h a : Nat → Int) (v : Int) (N : Nat) : List Gl := glyphs (Mt fun k => dv ((v1 (tz a k)).headD undef)) (fun i => decN (qR K g h v N (0 + i))) (N + 1)
def qN (N : Nat) : Nat := (w64 (((N + 1 : Nat) : Int) + 1)).toNat
noncomputable def qL (K T N : Nat) (g h a : Nat → Int) (v : Int) : Loops :=
  byReg 6 (tell (bodyOf Try.f21 0) (q1S K g T h (tz a) (m12 K) (runsL (fun j => g (0 + j)) (m12 K)) v ⟨#[]⟩ 0) (.exit 0, q1S K g T h (tz a) (m12 K) (runsL (fun j => g (0 + j)) (m12 K)) v (prX K g) (m12 K)))
    (byReg 12 (tell (bodyOf Try.f21 1) (q2S K g T h (tz a) v (prX K g) 0 (fun _ => zRn) (prX K g) 0) (.exit 2, q2S K g T h (tz a) v (prX K g) N (pP h (prX K g) v N) (rsT h (prX K g) N) N))
      (byReg 23 (tell (bodyOf Try.f21 2) (q3S K g T h (N + 1) (pQ h (prX K g) v N) (qA K g a v).length (at_ (qA K g a v)) (qB K g h a v N).length (at_ (qB K g h a v N)) (qN N) (fun _ => 0) 0) (.exit 4, q3S K g T h (N + 1) (pQ h (prX K g) v N) (qA K g a v).length (at_ (qA K g a v)) (qB K g h a v N).length (at_ (qB K g h a v N)) (qN N) (frF (pQ h (prX K g) v N) (N + 1)) ((N + 1 : Nat) : Int)))
        (tell (bodyOf Try.f21 3) (q4S K g T h (N + 1) (pQ h (prX K g) v N) (qA K g a v).length (at_ (qA K g a v)) (qB K g h a v N).length (at_ (qB K g h a v N)) (qN N) (frF (pQ h (prX K g) v N) (N + 1)) 0) (.exit 6, q4S K g T h (N + 1) (pQ h (prX K g) v N) (qA K g a v).length (at_ (qA K g a v)) (qB K g h a v N).length (at_ (qB K g h a v N)) (qN N) (frF (pQ h (prX K g) v N) (N + 1)) (qA K g a v).length))))
theorem qa_w {K T N : Nat} {g h a : Nat → Int} {x : Int} : (lfun qaG (qL K T N g h a (qv x)) 60 Try.f21 [aA a, .c (.sl 0 0 K), .c (.sl 1 0 T), I64 x] [rowJ false K g, rowH false T h]).go [true, true, true, true, true, true, true, true, true, true, true, true, true, false] =
  some
    ([true, yes ((fun k => Value.int IntKind.i64 (a k)) = fun k => Value.int IntKind.i64 (a k)), true,
        yes (0 + K ≤ K ∧ (fun j => v1 (g j)) = fun j => v1 (vd (v1 (g j)))), yes (wasS (bodyOf Try.f21 0) (q1S K g T h (tz a) (m12 K) (runsL (fun j => g (0 + j)) (m12 K)) (qv x) ⟨#[]⟩ 0)), yes (wasS (bodyOf Try.f21 1) (q2S K g T h (tz a) (qv x) (prX K g) 0 (fun _ => zRn) (prX K g) 0)), decide (N = N),
        true, decide ((N + 1) * 40 ≤ maxCells), true, true,
        yes
          (0 = 0 ∧
            1 = 1 ∧
              (prX K g).size < 2 ^ 38 ∧
                (fun k => (v1 (tz a k)).headD undef) = fun k => Value.int IntKind.i64 (dv ((v1 (tz a k)).headD undef))),
        yes
          (0 + (N + 1) ≤ N + 1 ∧
            N + 1 < 2 ^ 40 ∧
              lenR
                    (fun i =>
                      decN
                        (updL (fun j => encN (pP h (prX K g) (qv x) N j)) N
                          [[Value.int IntKind.i64 (0 : Int), Value.string (rsT h (prX K g) N),
                              Value.int IntKind.i64 (qv x), Value.int IntKind.i64 (0 : Int)]]
                          (0 + i)))
                    (N + 1) <
                  2 ^ 39 ∧
                ((fun k => (v1 (tz a k)).headD undef) = fun k =>
                    Value.int IntKind.i64 (dv ((v1 (tz a k)).headD undef))) ∧
                  updL (fun j => encN (pP h (prX K g) (qv x) N j)) N
                      [[Value.int IntKind.i64 (0 : Int), Value.string (rsT h (prX K g) N), Value.int IntKind.i64 (qv x),
                          Value.int IntKind.i64 (0 : Int)]] =
                    fun j =>
                    encN
                      (decN
                        (updL (fun j => encN (pP h (prX K g) (qv x) N j)) N
                          [[Value.int IntKind.i64 (0 : Int), Value.string (rsT h (prX K g) N),
                              Value.int IntKind.i64 (qv x), Value.int IntKind.i64 (0 : Int)]]
                          j))),
        !(((glyphs (Mt fun k => dv ((v1 (tz a k)).headD undef))
                  (fun x_1 => { n := (0 : Int), s := prX K g, v := qv x, l := (0 : Int) }) 1).length : Nat) : Int) !=
            (((glyphs (Mt fun k => dv ((v1 (tz a k)).headD undef))
                  (fun i =>
                    decN
                      (updL (fun j => encN (pP h (prX K g) (qv x) N j)) N
                        [[Value.int IntKind.i64 (0 : Int), Value.string (rsT h (prX K g) N),
                            Value.int IntKind.i64 (qv x), Value.int IntKind.i64 (0 : Int)]]
                        (0 + i)))
                  (N + 1)).length : Nat) : Int),
        decide ((0 : Int) ≤ w64 (((N + 1 : Nat) : Int) + (1 : Int))),
        decide (w64 (((N + 1 : Nat) : Int) + (1 : Int)) = w64 (((N + 1 : Nat) : Int) + (1 : Int))),
        decide ((w64 (((N + 1 : Nat) : Int) + (1 : Int))).toNat * 8 ≤ 16777216), yes (bodyOf Try.f21 2 = bodyOf Try.f21 2 ∧ q3R K g T h (N + 1) (qR K g h (qv x) N) (qA K g a (qv x)).length (at_ (qA K g a (qv x))) (qB K g h a (qv x) N).length (at_ (qB K g h a (qv x) N)) (qN N) (fun _ => 0) 0 = q3S K g T h (N + 1) (pQ h (prX K g) (qv x) N) (qA K g a (qv x)).length (at_ (qA K g a (qv x))) (qB K g h a (qv x) N).length (at_ (qB K g h a (qv x) N)) (qN N) (fun _ => 0) 0), yes (wasS (bodyOf Try.f21 3) (q4S K g T h (N + 1) (pQ h (prX K g) (qv x) N) (qA K g a (qv x)).length (at_ (qA K g a (qv x))) (qB K g h a (qv x) N).length (at_ (qB K g h a (qv x) N)) (qN N) (frF (pQ h (prX K g) (qv x) N) (N + 1)) 0))],
      Bo true,
      [some { t := 2, own := false, c := Cont.row 1 K fun j => [Value.int IntKind.i64 (g j)] },
        some { t := 3, own := false, c := Cont.row 1 T fun j => [Value.int IntKind.i64 (h j)] }]) := by kernel_rfl
end Go.Proofs.Ytcpahifgdppkbaa.QAI
end
section
/- WhitParts: what is asked on the way holds. -/
set_option linter.unusedVariables false
set_option linter.unusedSimpArgs false
namespace Go.Proofs.Ytcpahifgdppkbaa.QAI
open Go Go.RowKit
set_option maxRecDepth 100000
theorem q1_loop {K : Nat} {g : Nat → Int} {T : Nat} {h a : Nat → Int} {m : Nat} {Q : Nat → Rn} {v : Int} (hm : m ≤ 12) (hl : lenR Q m ≤ 432) :
    CodeSem qaG 2 (.loop (bodyOf Try.f21 0)) (q1S K g T h a m Q v (catS Q 0) 0) (.exit 0, q1S K g T h a m Q v (catS Q m) m) := by
  refine loop_of (fun i => q1S K g T h a m Q v (catS Q i) (i : Int)) m (by simp) ?_ fun j hj => ?_
  · exact rT_sem qaG_ok noLoopsS (rT_go q1_ex ⟨by simp, trivial⟩)
  · have h3 := succ64 (j := j) (by omega)
    have h4 := lenR_le (R := Q) (k := m) j hj
    have h5 := catS_len Q j
    refine rT_sem qaG_ok noLoopsS ((rT_go q1_go ?_).trans ?_)
    · simp only [Int.toNat_natCast, Nat.zero_add, maxI64]
      repeat' (first | exact AllT.nil | refine AllT.cons ?_ ?_)
      all_goals first | (with_reducible rfl) | exact decide_eq_true (by omega)
    · simp only [Int.toNat_natCast, Nat.zero_add, h3]
      rfl
theorem q2_loop {K : Nat} {g : Nat → Int} {T : Nat} {h a : Nat → Int} {v : Int} {s : ByteArray} {N : Nat} (hs : s.size < 2 ^ 40) (hN : N ≤ T) (hN8 : N ≤ 8) (hne : ∀ i, i < N → emp (rsT h s i) = false) (hst : N = T ∨ N = 8 ∨ emp (rsT h s N) = true) :
    CodeSem qaG 2 (.loop (bodyOf Try.f21 1)) (q2S K g T h a v s 0 (pP h s v 0) (rsT h s 0) 0) (.exit 2, q2S K g T h a v s N (pP h s v N) (rsT h s N) N) := by
  refine loop_of (fun i => q2S K g T h a v s i (pP h s v i) (rsT h s i) (i : Int)) N (by simp) ?_ fun j hj => ?_
  · by_cases h1 : N = T
    · exact rT_sem qaG_ok noLoopsS (rT_go q2_e1 (by
        repeat' (first | exact AllT.nil | refine AllT.cons ?_ ?_)
        all_goals first | rfl | (simp; omega)))
    · by_cases h2 : N = 8
      · exact rT_sem qaG_ok noLoopsS (rT_go q2_e2 (by
          repeat' (first | exact AllT.nil | refine AllT.cons ?_ ?_)
          all_goals first | rfl | exact decide_eq_true (by omega) | (simp; omega)))
      · have h3 : emp (rsT h s N) = true := by
          rcases hst with h | h | h
          · exact absurd h h1
          · exact absurd h h2
          · exact h
        have h4 : (!(!emp (rsT h s N))) = true := by rw [h3]; rfl
        exact rT_sem qaG_ok noLoopsS (rT_go q2_e3 (by
          repeat' (first | exact AllT.nil | refine AllT.cons ?_ ?_)
          all_goals first | (with_reducible rfl) | exact h4 | exact decide_eq_true (by omega)))
  · have h3 := succ64 (j := j) (by omega)
    have hle := rsT_le h s j
    obtain ⟨k1, k2⟩ := kI_b (h j) (n := (rsT h s j).size) (by omega)
    have e0 : (!emp (rsT h s j)) = true := by rw [hne j hj]; rfl
    have e1 : decide (w64 (((rsT h s j).size : Int) + 1) ≠ 0) = true := decide_eq_true (by rw [w64_id (by omega) (by omega)]; omega)
    have e2 : decInt 0 (kI (h j) (rsT h s j).size) (rsT h s j).size = true := by rw [k1]; unfold decInt; simp; omega
    have e3 : decInt (kI (h j) (rsT h s j).size) ((rsT h s j).size : Int) (rsT h s j).size = true := by rw [k1]; unfold decInt; simp; omega
    refine rT_sem qaG_ok noLoopsS ((rT_go q2_go ?_).trans ?_)
    · simp only [Int.toNat_natCast, Nat.zero_add]
      repeat' (first | exact AllT.nil | refine AllT.cons ?_ ?_)
      all_goals first | (with_reducible rfl) | exact e0 | exact e1 | exact e2 | exact e3 | exact decide_eq_true (by omega) | exact decide_eq_true trivial | exact decide_eq_true (by unfold maxCells; omega)
    · simp only [Int.toNat_natCast, Nat.zero_add, h3]
      refine Eq.trans (b := some (Ex.normal, (⟨slots 192 [(2, .c (.sl 1 0 T)), (3, I64 v), (4, .c (.ptr 2 0 0)), (9, St0 s), (12, .c (.sl 3 0 (j + 1))), (13, St0 (rsT h s (j + 1))), (14, I64 ((j + 1 : Nat) : Int))], [rowJ false K g, rowH false T h, rowA a, some ⟨83, true, .row 4 (j + 1) (upd (fun q => encN (pP h s v j q)) j (encN ⟨0, ptT h s j, v, 0⟩))⟩]⟩ : St))) rfl ?_
      rw [upd_pP]
      rfl
theorem fr_step (P : Nat → Rn) (i : Nat) (z : Int) (hz : z = (lenR P (i + 1) : Int)) : updC (fun j => v1 (frF P i j)) (i + 1) (splice (v1 (frF P i (i + 1))) 0 [.int .i64 z]) = fun j => v1 (frF P (i + 1) j) := by
  rw [updC_eq]
  funext k
  unfold frF
  by_cases h : k = i + 1
  · subst h
    rw [hz]
    simp
    rfl
  · by_cases h2 : k ≤ i
    · have : k ≤ i + 1 := by omega
      simp [h, h2, this]
    · have : ¬ k ≤ i + 1 := by omega
      simp [h, h2, this]
theorem q3_loop {K : Nat} {g : Nat → Int} {T : Nat} {h : Nat → Int} {n : Nat} {P : Nat → Rn} {na : Nat} {L : Nat → Gl} {nb : Nat} {L' : Nat → Gl} {nf : Nat} (hn : n < 100) (hf : nf = n + 1) (hl : lenR P n < 2 ^ 40) :
    CodeSem qaG 2 (.loop (bodyOf Try.f21 2)) (q3S K g T h n P na L nb L' nf (frF P 0) 0) (.exit 4, q3S K g T h n P na L nb L' nf (frF P n) n) := by
  refine loop_of (fun i => q3S K g T h n P na L nb L' nf (frF P i) (i : Int)) n (by simp) ?_ fun j hj => ?_
  · exact rT_sem qaG_ok noLoopsS (rT_go q3_ex ⟨by simp, trivial⟩)
  · have h3 := succ64 (j := j) (by omega)
    have h4 := lenR_le (R := P) (k := n) j hj
    have e5 : frF P j j = (lenR P j : Int) := by simp [frF]
    have h5 : w64 (frF P j j + ((P j).s.size : Int)) = (lenR P (j + 1) : Int) := by
      rw [e5, w64_id (by omega) (by omega)]
      have : lenR P (j + 1) = lenR P j + (P j).s.size := rfl
      omega
    refine rT_sem qaG_ok noLoopsS ((rT_go q3_go ?_).trans ?_)
    · simp only [Int.toNat_natCast, Nat.zero_add, h3]
      repeat' (first | exact AllT.nil | refine AllT.cons ?_ ?_)
      all_goals first | (with_reducible rfl) | exact decide_eq_true (by omega)
    · simp only [Int.toNat_natCast, Nat.zero_add, h3]
      refine Eq.trans (b := some (Ex.normal, (⟨slots 192 [(12, .c (.sl 2 0 n)), (16, .c (.sl 3 0 na)), (17, .c (.sl 4 0 nb)), (18, .c (.sl 5 0 nf)), (19, I64 ((j + 1 : Nat) : Int))], [rowJ false K g, rowH false T h, rowRn true n P, rowGl na L, rowGl nb L', some ⟨3, true, .row 1 nf (updC (fun q => v1 (frF P j q)) (j + 1) (splice (v1 (frF P j (j + 1))) 0 [.int .i64 (w64 (frF P j j + ((P j).s.size : Int)))]))⟩]⟩ : St))) rfl ?_
      rw [fr_step P j _ h5]
      rfl
theorem q4_loop {K : Nat} {g : Nat → Int} {T : Nat} {h : Nat → Int} {n : Nat} {P : Nat → Rn} {na : Nat} {L : Nat → Gl} {L' : Nat → Gl} {nf : Nat} (hf : nf = n + 1) (hna : na < 2 ^ 40) (hl : lenR P n < 2 ^ 40)
    (hx : ∀ i, i < na → 0 ≤ (L' i).r ∧ (L' i).r < n ∧ 0 ≤ (L' i).a ∧ (L' i).a < 2 ^ 40 ∧ lenR P (L' i).r.toNat < 2 ^ 40 ∧ (L i).k = (L' i).k ∧ (L i).w = (L' i).w ∧ (L i).a = lenR P (L' i).r.toNat + (L' i).a) :
    CodeSem qaG 2 (.loop (bodyOf Try.f21 3)) (q4S K g T h n P na L na L' nf (frF P n) 0) (.exit 6, q4S K g T h n P na L na L' nf (frF P n) na) := by
  refine loop_of (fun i => q4S K g T h n P na L na L' nf (frF P n) (i : Int)) na (by simp) ?_ fun j hj => ?_
  · exact rT_sem qaG_ok noLoopsS (rT_go q4_ex ⟨by simp, trivial⟩)
  · have h3 := succ64 (j := j) (by omega)
    obtain ⟨x1, x2, x3, x4, x5, x6, x7, x8⟩ := hx j hj
    have e5 : frF P n (L' j).r.toNat = (lenR P (L' j).r.toNat : Int) := by
      unfold frF
      rw [if_pos (by omega)]
    have e6 : w64 ((lenR P (L' j).r.toNat : Int) + (L' j).a) = (lenR P (L' j).r.toNat : Int) + (L' j).a := w64_id (by omega) (by omega)
    refine rT_sem qaG_ok noLoopsS ((rT_go q4_go ?_).trans ?_)
    · simp only [Int.toNat_natCast, Nat.zero_add, e5, e6, x6, x7, x8]
      repeat' (first | exact AllT.nil | refine AllT.cons ?_ ?_)
      all_goals first | (with_reducible rfl) | exact decide_eq_true (by omega) | (simp; done) | (simp; omega)
    · rw [h3]
      rfl
end Go.Proofs.Ytcpahifgdppkbaa.QAI
end
section
/- WhitParts: the whole. -/
set_option linter.unusedVariables false
set_option linter.unusedSimpArgs false
namespace Go.Proofs.Ytcpahifgdppkbaa.QAI
open Go Go.RowKit
set_option maxRecDepth 100000
theorem qR_eq (K : Nat) (g h : Nat → Int) (v : Int) (N : Nat) : qR K g h v N = fun j => encN (pQ h (prX K g) v N j) := upd_pQ h (prX K g) v N
theorem qB_eq (K : Nat) (g h a : Nat → Int) (v : Int) (N : Nat) : qB K g h a v N = glyphs (Mt fun k => dv ((v1 (tz a k)).headD undef)) (pQ h (prX K g) v N) (N + 1) := by
  unfold qB
  rw [qR_eq]
  refine glyphs_cg fun i hi => ?_
  rw [Nat.zero_add]
  rfl
theorem whitParts_true (K T : Nat) (g h a : Nat → Int) (x : Int) : ∃ keep tm d ℓ, LoopsSem (GT KWQ keep 0 tm) [rowJ false K g, rowH false T h].length ℓ ∧ (lfun (GT KWQ keep 0 tm) ℓ d Try.f21 [aA a, .c (.sl 0 0 K), .c (.sl 1 0 T), I64 x] [rowJ false K g, rowH false T h]).eval = some (Bo true, [rowJ false K g, rowH false T h]) := by
  obtain ⟨hm1, hm2⟩ := m12_le K
  have hx := runs_cat K g
  have hl := runsL_len (fun j => g (0 + j)) (m := m12 K) (m12 K) (Nat.le_refl _)
  obtain ⟨N, n1, n2, n3, n4⟩ := stop_N h (prX K g) T
  have hP := lenR_pQ h (prX K g) (qv x) N
  have hpar := glyphs_parts (M := Mt fun k => dv ((v1 (tz a k)).headD undef)) (P := pQ h (prX K g) (qv x) N) (R := fun _ => ⟨0, prX K g, qv x, 0⟩) (n := N + 1) (v := qv x) (pQ_v h (prX K g) (qv x) N) rfl (bsR_all h (prX K g) (qv x) N)
  have hpar' : (qA K g a (qv x)).map f1 = (qB K g h a (qv x) N).map (fP (pQ h (prX K g) (qv x) N)) := by rw [qB_eq]; exact hpar
  have hlen := parts_len hpar'
  have hA : (qA K g a (qv x)).length ≤ 432 := by
    refine Nat.le_trans glyphs_len ?_
    show 0 + (prX K g).size ≤ 432
    omega
  have hN : qN N = N + 1 + 1 := by
    unfold qN
    rw [w64_id (by omega) (by omega)]
    omega
  have h4 := q4_loop (K := K) (g := g) (T := T) (h := h) (n := N + 1) (P := pQ h (prX K g) (qv x) N) (na := (qA K g a (qv x)).length) (L := at_ (qA K g a (qv x))) (L' := at_ (qB K g h a (qv x) N)) (nf := qN N) hN (by omega) (by omega) fun i hi => by
    obtain ⟨p1, p2, p3⟩ := parts_at hpar' hi
    have hi' : i < (qB K g h a (qv x) N).length := by omega
    have hmem := at_mem hi'
    rw [qB_eq] at hmem
    obtain ⟨r, q, hr, hq, e⟩ := glyphs_mem hmem
    rw [← qB_eq] at e
    have hle := lenR_le (R := pQ h (prX K g) (qv x) N) (k := N + 1) r hr
    rw [e] at p1 p2 p3 ⊢
    have er : (gl (Mt fun k => dv ((v1 (tz a k)).headD undef)) (pQ h (prX K g) (qv x) N r).v (r : Int) q (bt (pQ h (prX K g) (qv x) N r).s q)).r = r := rfl
    have ea : (gl (Mt fun k => dv ((v1 (tz a k)).headD undef)) (pQ h (prX K g) (qv x) N r).v (r : Int) q (bt (pQ h (prX K g) (qv x) N r).s q)).a = q := rfl
    rw [er, ea] at p3 ⊢
    rw [Int.toNat_natCast] at p3 ⊢
    refine ⟨by omega, by omega, by omega, by omega, by omega, p1, p2, p3⟩
  have hfr : frF (pQ h (prX K g) (qv x) N) 0 = fun _ => 0 := by
    funext j
    unfold frF
    cases j with
    | zero => rfl
    | succ j => simp
  have h3 := q3_loop (K := K) (g := g) (T := T) (h := h) (n := N + 1) (P := pQ h (prX K g) (qv x) N) (na := (qA K g a (qv x)).length) (L := at_ (qA K g a (qv x))) (nb := (qB K g h a (qv x) N).length) (L' := at_ (qB K g h a (qv x) N)) (nf := qN N) (by omega) hN (by omega)
  rw [hfr] at h3
  refine ⟨_, [], 60, qL K T N g h a (qv x), byReg_sem (r := 6) (tell_ok (q1_loop hm1 (by omega))) (byReg_sem (r := 12) (tell_ok (q2_loop (by omega) n1 n2 n3 n4)) (byReg_sem (r := 23) (tell_ok h3) (tell_ok ?_))), (Tr.go_eval (qa_w (K := K) (T := T) (N := N) (g := g) (h := h) (a := a) (x := x)) ?_).trans ?_⟩
  · rw [← hlen]
    exact h4
  · have e7 : lenR (fun i => decN (qR K g h (qv x) N (0 + i))) (N + 1) < 2 ^ 39 := by
      have e : (fun i => decN (qR K g h (qv x) N (0 + i))) = pQ h (prX K g) (qv x) N := by
        rw [qR_eq]
        funext i
        rw [Nat.zero_add]
        rfl
      rw [e]
      omega
    have e8 : qR K g h (qv x) N = fun j => encN (decN (qR K g h (qv x) N j)) := by rw [qR_eq]; rfl
    have e9 : (!(((qA K g a (qv x)).length : Nat) : Int) != (((qB K g h a (qv x) N).length : Nat) : Int)) = true := by rw [hlen]; simp
    have w1 : w64 (((N + 1 : Nat) : Int) + 1) = ((N + 1 + 1 : Nat) : Int) := by rw [w64_id (by omega) (by omega)]; omega
    have e10 : decide ((0 : Int) ≤ w64 (((N + 1 : Nat) : Int) + 1)) = true := decide_eq_true (by omega)
    have e11 : decide ((w64 (((N + 1 : Nat) : Int) + 1)).toNat * 8 ≤ 16777216) = true := decide_eq_true (by omega)
    repeat' (first | exact AllT.nil | refine AllT.cons ?_ ?_)
    all_goals first
      | (with_reducible rfl)
      | exact yes_of rfl
      | exact e9
      | exact e10
      | exact e11
      | exact decide_eq_true rfl
      | exact decide_eq_true (by unfold maxCells; omega)
      | exact yes_of ⟨by omega, rfl⟩
      | exact yes_of ⟨rfl, rfl, by omega, rfl⟩
      | exact yes_of ⟨by omega, by omega, e7, rfl, e8⟩
      | exact yes_of ⟨rfl, by unfold q3S; rw [qR_eq]⟩
      | exact yes_of ⟨rfl, rfl⟩
  · rfl
theorem ins_ints3 {ss : List Shp} {is : List In} (h : InsOk (.rows 3 [.int .i64] :: ss) is) : ∃ (k : Nat) (g : Nat → Int) (is' : List In), is = .rows k (fun i => [.int .i64 (g i)]) :: is' ∧ InsOk ss is' ∧ k ≤ maxLen := ins_ints h
def whitPartsS : List Shp := [.arr 256 (.int .i64), .rows 2 [.int .i64], .rows 3 [.int .i64], .one (.int .i64)]
theorem whitParts_core : ∀ is, InsOk whitPartsS is → ∃ keep tm d ℓ, LoopsSem (GT KWQ keep 0 tm) (blksIn whitPartsS is).length ℓ ∧ (lfun (GT KWQ keep 0 tm) ℓ d Try.f21 (avsIn 0 whitPartsS is) (blksIn whitPartsS is)).eval = some (Bo true, blksIn whitPartsS is) := by
  intro is0 h0
  obtain ⟨v0, is1, rfl, h1⟩ := ins_arr h0
  obtain ⟨k2, v2, is3, rfl, h3, _⟩ := ins_ints h1
  obtain ⟨k4, v4, is5, rfl, h5, _⟩ := ins_ints3 h3
  obtain ⟨v3, is4, rfl, h4⟩ := ins_i64 h5
  obtain rfl := ins_nil h4
  exact whitParts_true k2 k4 v2 v4 v0 v3
end Go.Proofs.Ytcpahifgdppkbaa.QAI
end
