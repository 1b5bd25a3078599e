/- RectTells: the walk. -/
import Derived.Test.YtcpahifgdppkbaaR2
import Derived.Test.YtcpahifgdppkbaaR4
set_option linter.unusedVariables false
set_option linter.unusedSimpArgs false
namespace Go.Proofs.Ytcpahifgdppkbaa.QAI
open Go Go.RowKit
set_option maxRecDepth 100000
noncomputable def rjG (L : Nat) : Ctx2 := GK [] (fun k => if k = 5 then [(0,none),(2,none),(3,none),(4,none),(5,none),(6,none),(7,none)] else []) L
noncomputable def sRj : Spec := afun (rjG 10) 60 Try.f65
theorem rj3_eq {a b c d e f g h i j k l : Int} : (sRj [.c (.sl 0 0 3)] [some ⟨44, true, .lst 4 [qd a b c d, qd e f g h, qd i j k l] (qd 0 0 0 0)⟩]).eval =
  some
    (AV.agg
        [i64 (mnI i (mnI e a)), i64 (mnI j (mnI f b)),
          i64 (w64 (mxI (w64 (i + k)) (mxI (w64 (e + g)) (w64 (a + c))) - mnI i (mnI e a))),
          i64 (w64 (mxI (w64 (j + l)) (mxI (w64 (f + h)) (w64 (b + d))) - mnI j (mnI f b)))],
      [some
          { t := 44, own := true,
            c :=
              Cont.lst 4
                [[i64 a, i64 b, i64 c, i64 d], [i64 e, i64 f, i64 g, i64 h], [i64 i, i64 j, i64 k, i64 l]]
                [i64 (0 : Int), i64 (0 : Int), i64 (0 : Int), i64 (0 : Int)] }]) := by kernel_rfl
noncomputable def rjF : Spec := fun args hp => match args, hp with
  | [.c (.sl 0 0 3)], [some ⟨44, true, .lst 4 [[.v (.int .i64 a), .v (.int .i64 b), .v (.int .i64 c), .v (.int .i64 d)], [.v (.int .i64 e), .v (.int .i64 f), .v (.int .i64 g), .v (.int .i64 h)], [.v (.int .i64 i), .v (.int .i64 j), .v (.int .i64 k), .v (.int .i64 l)]] z⟩] =>
    .need (yes (z = qd 0 0 0 0)) (.ret (Rv (mnI i (mnI e a)) (mnI j (mnI f b)) (w64 (mxI (w64 (i + k)) (mxI (w64 (e + g)) (w64 (a + c))) - mnI i (mnI e a))) (w64 (mxI (w64 (j + l)) (mxI (w64 (f + h)) (w64 (b + d))) - mnI j (mnI f b))), [some ⟨44, true, .lst 4 [qd a b c d, qd e f g h, qd i j k l] z⟩]))
  | _, _ => .fail
theorem rjF_ok : SpecOk Try.prog 65 rjF := by
  refine known' rKnil Try.func65 fun args h r he => ?_
  unfold rjF at he
  split at he
  · obtain ⟨rfl, he⟩ := Tr.eval_ask.1 he
    cases he; exact ⟨_, _, _, rj3_eq⟩
  · cases he
noncomputable def rKT : Known := (59, rmeetF) :: (61, rokF) :: (62, hasF) :: (64, afun rG0 60 Try.f64) :: (65, rjF) :: rK3
theorem rKT_ok : KnownOk rKT := rKcons rmeetF_ok (by kernel_rfl) (rKcons rrokF_ok (by kernel_rfl) (rKcons rhasF_ok (by kernel_rfl) (rKcons (known0 rKnil 60 Try.func64) (by kernel_rfl) (rKcons rjF_ok (by kernel_rfl) rK3_ok))))
noncomputable def rGT : Ctx2 := GK rKT (fun _ => []) 0
theorem rt_1 {q r s t a b c d e f g h i j k l x y : Int} : (afun rGT 60 Try.f10 [Rv q r s t, Rv a b c d, Rv e f g h, Rv i j k l, I64 x, I64 y, Bo true] []).go [] =
  some
    ([true, true, true, rokB q r s t == rokB q r s t, true, true, rokB (tX true a) (tX true b) (tW true c) (tW true d),
        true, true, true, true, true, true, true, true, true,
        hasB (tX true a) (tX true b) (tW true c) (tW true d)
            (w64 (and64 (n1 x (8796093022208 : Int)) (15 : Int) - (4 : Int)))
            (w64 (and64 (n1 y (8796093022208 : Int)) (15 : Int) - (4 : Int))) ==
          hasB (tX true a) (tX true b) (tW true c) (tW true d)
            (w64 (and64 (n1 x (8796093022208 : Int)) (15 : Int) - (4 : Int)))
            (w64 (and64 (n1 y (8796093022208 : Int)) (15 : Int) - (4 : Int))),
        true, true, true, true, true, true, true, true, true,
        w64 (tX true a + w64 (and64 (n1 x (8796093022208 : Int)) (15 : Int) - (4 : Int))) ==
            w64 (tX true a + w64 (and64 (n1 x (8796093022208 : Int)) (15 : Int) - (4 : Int))) &&
          (w64 (tX true b + w64 (and64 (n1 y (8796093022208 : Int)) (15 : Int) - (4 : Int))) ==
              w64 (tX true b + w64 (and64 (n1 y (8796093022208 : Int)) (15 : Int) - (4 : Int))) &&
            (tW true c == tW true c && (tW true d == tW true d && true))),
        true, true, true,
        ((bif meetB (tX true a) (tX true b) (tW true c) (tW true d) (tX true e) (tX true f) (tW true g) (tW true h) then
              mxI (tX true e) (tX true a)
            else (0 : Int)) ==
            bif
                rmeetB (tX true a) (tX true b) (tW true c) (tW true d) (tX true e) (tX true f) (tW true g)
                  (tW true h) then
              mxI (tX true e) (tX true a)
            else (0 : Int)) &&
          (((bif
                  meetB (tX true a) (tX true b) (tW true c) (tW true d) (tX true e) (tX true f) (tW true g)
                    (tW true h) then
                mxI (tX true f) (tX true b)
              else (0 : Int)) ==
              bif
                  rmeetB (tX true a) (tX true b) (tW true c) (tW true d) (tX true e) (tX true f) (tW true g)
                    (tW true h) then
                mxI (tX true f) (tX true b)
              else (0 : Int)) &&
            (((bif
                    meetB (tX true a) (tX true b) (tW true c) (tW true d) (tX true e) (tX true f) (tW true g)
                      (tW true h) then
                  w64 (mnI (w64 (tX true e + tW true g)) (w64 (tX true a + tW true c)) - mxI (tX true e) (tX true a))
                else (0 : Int)) ==
                bif
                    rmeetB (tX true a) (tX true b) (tW true c) (tW true d) (tX true e) (tX true f) (tW true g)
                      (tW true h) then
                  w64 (mnI (w64 (tX true e + tW true g)) (w64 (tX true a + tW true c)) - mxI (tX true e) (tX true a))
                else (0 : Int)) &&
              (((bif
                      meetB (tX true a) (tX true b) (tW true c) (tW true d) (tX true e) (tX true f) (tW true g)
                        (tW true h) then
                    w64 (mnI (w64 (tX true f + tW true h)) (w64 (tX true b + tW true d)) - mxI (tX true f) (tX true b))
                  else (0 : Int)) ==
                  bif
                      rmeetB (tX true a) (tX true b) (tW true c) (tW true d) (tX true e) (tX true f) (tW true g)
                        (tW true h) then
                    w64 (mnI (w64 (tX true f + tW true h)) (w64 (tX true b + tW true d)) - mxI (tX true f) (tX true b))
                  else (0 : Int)) &&
                true))),
        true, true, true,
        meetB (tX true a) (tX true b) (tW true c) (tW true d) (tX true e) (tX true f) (tW true g) (tW true h) ==
          rmeetB (tX true a) (tX true b) (tW true c) (tW true d) (tX true e) (tX true f) (tW true g) (tW true h),
        true, true, true, true, true, true, true, true,
        yes ([i64 (0 : Int), i64 (0 : Int), i64 (0 : Int), i64 (0 : Int)] = qd (0 : Int) (0 : Int) (0 : Int) (0 : Int)),
        true,
        yes ([i64 (0 : Int), i64 (0 : Int), i64 (0 : Int), i64 (0 : Int)] = qd (0 : Int) (0 : Int) (0 : Int) (0 : Int)),
        true, true,
        mnI (tX true i) (mnI (tX true e) (tX true a)) == mnI (tX true i) (mnI (tX true e) (tX true a)) &&
          (mnI (tX true j) (mnI (tX true f) (tX true b)) == mnI (tX true j) (mnI (tX true f) (tX true b)) &&
            (w64
                  (mxI (w64 (tX true i + tW true k)) (mxI (w64 (tX true e + tW true g)) (w64 (tX true a + tW true c))) -
                    mnI (tX true i) (mnI (tX true e) (tX true a))) ==
                w64
                  (mxI (w64 (tX true i + tW true k)) (mxI (w64 (tX true e + tW true g)) (w64 (tX true a + tW true c))) -
                    mnI (tX true i) (mnI (tX true e) (tX true a))) &&
              (w64
                    (mxI (w64 (tX true j + tW true l))
                        (mxI (w64 (tX true f + tW true h)) (w64 (tX true b + tW true d))) -
                      mnI (tX true j) (mnI (tX true f) (tX true b))) ==
                  w64
                    (mxI (w64 (tX true j + tW true l))
                        (mxI (w64 (tX true f + tW true h)) (w64 (tX true b + tW true d))) -
                      mnI (tX true j) (mnI (tX true f) (tX true b))) &&
                true))),
        true],
      Bo true, []) := by kernel_rfl
theorem rt_2 {q r s t a b c d e f g h i j k l x y : Int} : (afun rGT 60 Try.f10 [Rv q r s t, Rv a b c d, Rv e f g h, Rv i j k l, I64 x, I64 y, Bo false] []).go [true, true, false] =
  some
    ([true, true, true, rokB q r s t == rokB q r s t, true, true,
        rokB (tX false a) (tX false b) (tW false c) (tW false d), true, true, true, true, true, true, true, true, true,
        hasB (tX false a) (tX false b) (tW false c) (tW false d) (n1 x (8796093022208 : Int))
            (n1 y (8796093022208 : Int)) ==
          hasB (tX false a) (tX false b) (tW false c) (tW false d) (n1 x (8796093022208 : Int))
            (n1 y (8796093022208 : Int)),
        true, true, true, true, true, true, true, true, true,
        w64 (tX false a + n1 x (8796093022208 : Int)) == w64 (tX false a + n1 x (8796093022208 : Int)) &&
          (w64 (tX false b + n1 y (8796093022208 : Int)) == w64 (tX false b + n1 y (8796093022208 : Int)) &&
            (tW false c == tW false c && (tW false d == tW false d && true))),
        true, true, true,
        ((bif
                meetB (tX false a) (tX false b) (tW false c) (tW false d) (tX false e) (tX false f) (tW false g)
                  (tW false h) then
              mxI (tX false e) (tX false a)
            else (0 : Int)) ==
            bif
                rmeetB (tX false a) (tX false b) (tW false c) (tW false d) (tX false e) (tX false f) (tW false g)
                  (tW false h) then
              mxI (tX false e) (tX false a)
            else (0 : Int)) &&
          (((bif
                  meetB (tX false a) (tX false b) (tW false c) (tW false d) (tX false e) (tX false f) (tW false g)
                    (tW false h) then
                mxI (tX false f) (tX false b)
              else (0 : Int)) ==
              bif
                  rmeetB (tX false a) (tX false b) (tW false c) (tW false d) (tX false e) (tX false f) (tW false g)
                    (tW false h) then
                mxI (tX false f) (tX false b)
              else (0 : Int)) &&
            (((bif
                    meetB (tX false a) (tX false b) (tW false c) (tW false d) (tX false e) (tX false f) (tW false g)
                      (tW false h) then
                  w64
                    (mnI (w64 (tX false e + tW false g)) (w64 (tX false a + tW false c)) -
                      mxI (tX false e) (tX false a))
                else (0 : Int)) ==
                bif
                    rmeetB (tX false a) (tX false b) (tW false c) (tW false d) (tX false e) (tX false f) (tW false g)
                      (tW false h) then
                  w64
                    (mnI (w64 (tX false e + tW false g)) (w64 (tX false a + tW false c)) -
                      mxI (tX false e) (tX false a))
                else (0 : Int)) &&
              (((bif
                      meetB (tX false a) (tX false b) (tW false c) (tW false d) (tX false e) (tX false f) (tW false g)
                        (tW false h) then
                    w64
                      (mnI (w64 (tX false f + tW false h)) (w64 (tX false b + tW false d)) -
                        mxI (tX false f) (tX false b))
                  else (0 : Int)) ==
                  bif
                      rmeetB (tX false a) (tX false b) (tW false c) (tW false d) (tX false e) (tX false f) (tW false g)
                        (tW false h) then
                    w64
                      (mnI (w64 (tX false f + tW false h)) (w64 (tX false b + tW false d)) -
                        mxI (tX false f) (tX false b))
                  else (0 : Int)) &&
                true))),
        true, true, true,
        meetB (tX false a) (tX false b) (tW false c) (tW false d) (tX false e) (tX false f) (tW false g) (tW false h) ==
          rmeetB (tX false a) (tX false b) (tW false c) (tW false d) (tX false e) (tX false f) (tW false g)
            (tW false h),
        true, true, true, true, true, true, true, true,
        yes ([i64 (0 : Int), i64 (0 : Int), i64 (0 : Int), i64 (0 : Int)] = qd (0 : Int) (0 : Int) (0 : Int) (0 : Int)),
        true,
        yes ([i64 (0 : Int), i64 (0 : Int), i64 (0 : Int), i64 (0 : Int)] = qd (0 : Int) (0 : Int) (0 : Int) (0 : Int)),
        true, true,
        mnI (tX false i) (mnI (tX false e) (tX false a)) == mnI (tX false i) (mnI (tX false e) (tX false a)) &&
          (mnI (tX false j) (mnI (tX false f) (tX false b)) == mnI (tX false j) (mnI (tX false f) (tX false b)) &&
            (w64
                  (mxI (w64 (tX false i + tW false k))
                      (mxI (w64 (tX false e + tW false g)) (w64 (tX false a + tW false c))) -
                    mnI (tX false i) (mnI (tX false e) (tX false a))) ==
                w64
                  (mxI (w64 (tX false i + tW false k))
                      (mxI (w64 (tX false e + tW false g)) (w64 (tX false a + tW false c))) -
                    mnI (tX false i) (mnI (tX false e) (tX false a))) &&
              (w64
                    (mxI (w64 (tX false j + tW false l))
                        (mxI (w64 (tX false f + tW false h)) (w64 (tX false b + tW false d))) -
                      mnI (tX false j) (mnI (tX false f) (tX false b))) ==
                  w64
                    (mxI (w64 (tX false j + tW false l))
                        (mxI (w64 (tX false f + tW false h)) (w64 (tX false b + tW false d))) -
                      mnI (tX false j) (mnI (tX false f) (tX false b))) &&
                true))),
        true],
      Bo true, []) := by kernel_rfl
end Go.Proofs.Ytcpahifgdppkbaa.QAI
