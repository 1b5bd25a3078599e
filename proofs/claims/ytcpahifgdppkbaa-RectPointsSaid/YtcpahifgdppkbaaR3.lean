/- RectPoints: the walk and the plain law. -/
import Derived.Test.YtcpahifgdppkbaaR2
import Derived.Test.YtcpahifgdppkbaaC
set_option linter.unusedVariables false
set_option linter.unusedSimpArgs false
namespace Go.Proofs.Ytcpahifgdppkbaa.QAI
open Go Go.RowKit
set_option maxRecDepth 100000
theorem rp_1 {a b c d e f g h x y p q : Int} : (afun rG3 60 Try.f11 [Rv a b c d, Rv e f g h, I64 x, I64 y, I64 p, I64 q] []).go [true, true, true, true, true, true, true, true, true, true, true, true, true, false, false, true, false, true, false, false, false, false, true, false] =
  some
    ([true, true,
        yes ([i64 (0 : Int), i64 (0 : Int), i64 (0 : Int), i64 (0 : Int)] = qd (0 : Int) (0 : Int) (0 : Int) (0 : Int)),
        meetB (tX true a) (tX true b) (tW true c) (tW true d) (tX true e) (tX true f) (tW true g) (tW true h), true,
        true, true, true,
        hasB (tX true a) (tX true b) (tW true c) (tW true d) (w64 (and64 x (15 : Int) - (4 : Int)))
          (w64 (and64 y (15 : Int) - (4 : Int))),
        true,
        hasB
            (bif
                meetB (tX true a) (tX true b) (tW true c) (tW true d) (tX true e) (tX true f) (tW true g)
                  (tW true h) then
              mxI (tX true e) (tX true a)
            else (0 : Int))
            (bif
                meetB (tX true a) (tX true b) (tW true c) (tW true d) (tX true e) (tX true f) (tW true g)
                  (tW true h) then
              mxI (tX true f) (tX true b)
            else (0 : Int))
            (bif
                meetB (tX true a) (tX true b) (tW true c) (tW true d) (tX true e) (tX true f) (tW true g)
                  (tW true h) then
              w64 (mnI (w64 (tX true e + tW true g)) (w64 (tX true a + tW true c)) - mxI (tX true e) (tX true a))
            else (0 : Int))
            (bif
                meetB (tX true a) (tX true b) (tW true c) (tW true d) (tX true e) (tX true f) (tW true g)
                  (tW true h) then
              w64 (mnI (w64 (tX true f + tW true h)) (w64 (tX true b + tW true d)) - mxI (tX true f) (tX true b))
            else (0 : Int))
            (w64 (and64 x (15 : Int) - (4 : Int))) (w64 (and64 y (15 : Int) - (4 : Int))) ==
          hasB (tX true e) (tX true f) (tW true g) (tW true h) (w64 (and64 x (15 : Int) - (4 : Int)))
            (w64 (and64 y (15 : Int) - (4 : Int))),
        true, true,
        !!hasB (tX true a) (tX true b) (tW true c) (tW true d) (w64 (and64 x (15 : Int) - (4 : Int)))
              (w64 (and64 y (15 : Int) - (4 : Int))),
        true, true, true, true, true, true, true, true, true, true, true,
        hasB (mnI (tX true e) (tX true a)) (mnI (tX true f) (tX true b))
          (w64 (mxI (w64 (tX true e + tW true g)) (w64 (tX true a + tW true c)) - mnI (tX true e) (tX true a)))
          (w64 (mxI (w64 (tX true f + tW true h)) (w64 (tX true b + tW true d)) - mnI (tX true f) (tX true b)))
          (w64 (and64 x (15 : Int) - (4 : Int))) (w64 (and64 y (15 : Int) - (4 : Int))),
        true, true, true, true, true, true, true, true, true, true, true, true, true,
        hasB (w64 (tX true a + n1 p (1099511627776 : Int))) (w64 (tX true b + n1 q (1099511627776 : Int))) (tW true c)
            (tW true d) (w64 (w64 (and64 x (15 : Int) - (4 : Int)) + n1 p (1099511627776 : Int)))
            (w64 (w64 (and64 y (15 : Int) - (4 : Int)) + n1 q (1099511627776 : Int))) ==
          hasB (tX true a) (tX true b) (tW true c) (tW true d) (w64 (and64 x (15 : Int) - (4 : Int)))
            (w64 (and64 y (15 : Int) - (4 : Int))),
        true, true, true, true,
        yes ([i64 (0 : Int), i64 (0 : Int), i64 (0 : Int), i64 (0 : Int)] = qd (0 : Int) (0 : Int) (0 : Int) (0 : Int)),
        true, true,
        mnI (tX true a) (tX true e) == mnI (tX true e) (tX true a) &&
          (mnI (tX true b) (tX true f) == mnI (tX true f) (tX true b) &&
            (w64 (mxI (w64 (tX true a + tW true c)) (w64 (tX true e + tW true g)) - mnI (tX true a) (tX true e)) ==
                w64 (mxI (w64 (tX true e + tW true g)) (w64 (tX true a + tW true c)) - mnI (tX true e) (tX true a)) &&
              (w64 (mxI (w64 (tX true b + tW true d)) (w64 (tX true f + tW true h)) - mnI (tX true b) (tX true f)) ==
                  w64 (mxI (w64 (tX true f + tW true h)) (w64 (tX true b + tW true d)) - mnI (tX true f) (tX true b)) &&
                true))),
        true, true, true,
        yes ([i64 (0 : Int), i64 (0 : Int), i64 (0 : Int), i64 (0 : Int)] = qd (0 : Int) (0 : Int) (0 : Int) (0 : Int)),
        true, true,
        tX true a == tX true a &&
          (tX true b == tX true b &&
            (w64 (w64 (tX true a + tW true c) - tX true a) == tW true c &&
              (w64 (w64 (tX true b + tW true d) - tX true b) == tW true d && true))),
        true, true, true, true,
        yes ([i64 (0 : Int), i64 (0 : Int), i64 (0 : Int), i64 (0 : Int)] = qd (0 : Int) (0 : Int) (0 : Int) (0 : Int)),
        true, true,
        mnI (tX true a) (mnI (tX true e) (tX true a)) == mnI (tX true e) (tX true a) &&
          (mnI (tX true b) (mnI (tX true f) (tX true b)) == mnI (tX true f) (tX true b) &&
            (w64
                  (mxI (w64 (tX true a + tW true c))
                      (w64
                        (mnI (tX true e) (tX true a) +
                          w64
                            (mxI (w64 (tX true e + tW true g)) (w64 (tX true a + tW true c)) -
                              mnI (tX true e) (tX true a)))) -
                    mnI (tX true a) (mnI (tX true e) (tX true a))) ==
                w64 (mxI (w64 (tX true e + tW true g)) (w64 (tX true a + tW true c)) - mnI (tX true e) (tX true a)) &&
              (w64
                    (mxI (w64 (tX true b + tW true d))
                        (w64
                          (mnI (tX true f) (tX true b) +
                            w64
                              (mxI (w64 (tX true f + tW true h)) (w64 (tX true b + tW true d)) -
                                mnI (tX true f) (tX true b)))) -
                      mnI (tX true b) (mnI (tX true f) (tX true b))) ==
                  w64 (mxI (w64 (tX true f + tW true h)) (w64 (tX true b + tW true d)) - mnI (tX true f) (tX true b)) &&
                true))),
        true],
      Bo true, []) := by kernel_rfl
theorem rp_2 {a b c d e f g h x y p q : Int} : (afun rG3 60 Try.f11 [Rv a b c d, Rv e f g h, I64 x, I64 y, I64 p, I64 q] []).go [true, true, true, true, true, true, true, true, false, false] =
  some
    ([true, true,
        yes ([i64 (0 : Int), i64 (0 : Int), i64 (0 : Int), i64 (0 : Int)] = qd (0 : Int) (0 : Int) (0 : Int) (0 : Int)),
        meetB (tX true a) (tX true b) (tW true c) (tW true d) (tX true e) (tX true f) (tW true g) (tW true h), true,
        true, true, true,
        !hasB (tX true a) (tX true b) (tW true c) (tW true d) (w64 (and64 x (15 : Int) - (4 : Int)))
            (w64 (and64 y (15 : Int) - (4 : Int))),
        true,
        hasB
            (bif
                meetB (tX true a) (tX true b) (tW true c) (tW true d) (tX true e) (tX true f) (tW true g)
                  (tW true h) then
              mxI (tX true e) (tX true a)
            else (0 : Int))
            (bif
                meetB (tX true a) (tX true b) (tW true c) (tW true d) (tX true e) (tX true f) (tW true g)
                  (tW true h) then
              mxI (tX true f) (tX true b)
            else (0 : Int))
            (bif
                meetB (tX true a) (tX true b) (tW true c) (tW true d) (tX true e) (tX true f) (tW true g)
                  (tW true h) then
              w64 (mnI (w64 (tX true e + tW true g)) (w64 (tX true a + tW true c)) - mxI (tX true e) (tX true a))
            else (0 : Int))
            (bif
                meetB (tX true a) (tX true b) (tW true c) (tW true d) (tX true e) (tX true f) (tW true g)
                  (tW true h) then
              w64 (mnI (w64 (tX true f + tW true h)) (w64 (tX true b + tW true d)) - mxI (tX true f) (tX true b))
            else (0 : Int))
            (w64 (and64 x (15 : Int) - (4 : Int))) (w64 (and64 y (15 : Int) - (4 : Int))) ==
          false,
        true, true,
        !hasB (tX true a) (tX true b) (tW true c) (tW true d) (w64 (and64 x (15 : Int) - (4 : Int)))
            (w64 (and64 y (15 : Int) - (4 : Int))),
        true, true, true, true,
        !hasB (tX true e) (tX true f) (tW true g) (tW true h) (w64 (and64 x (15 : Int) - (4 : Int)))
            (w64 (and64 y (15 : Int) - (4 : Int))),
        true, true, true, true, true, true, true, true, true, true, true, true, true, true, true, true, true, true,
        true, true,
        hasB (w64 (tX true a + n1 p (1099511627776 : Int))) (w64 (tX true b + n1 q (1099511627776 : Int))) (tW true c)
            (tW true d) (w64 (w64 (and64 x (15 : Int) - (4 : Int)) + n1 p (1099511627776 : Int)))
            (w64 (w64 (and64 y (15 : Int) - (4 : Int)) + n1 q (1099511627776 : Int))) ==
          hasB (tX true a) (tX true b) (tW true c) (tW true d) (w64 (and64 x (15 : Int) - (4 : Int)))
            (w64 (and64 y (15 : Int) - (4 : Int))),
        true, true, true, true,
        yes ([i64 (0 : Int), i64 (0 : Int), i64 (0 : Int), i64 (0 : Int)] = qd (0 : Int) (0 : Int) (0 : Int) (0 : Int)),
        true, true,
        mnI (tX true a) (tX true e) == mnI (tX true e) (tX true a) &&
          (mnI (tX true b) (tX true f) == mnI (tX true f) (tX true b) &&
            (w64 (mxI (w64 (tX true a + tW true c)) (w64 (tX true e + tW true g)) - mnI (tX true a) (tX true e)) ==
                w64 (mxI (w64 (tX true e + tW true g)) (w64 (tX true a + tW true c)) - mnI (tX true e) (tX true a)) &&
              (w64 (mxI (w64 (tX true b + tW true d)) (w64 (tX true f + tW true h)) - mnI (tX true b) (tX true f)) ==
                  w64 (mxI (w64 (tX true f + tW true h)) (w64 (tX true b + tW true d)) - mnI (tX true f) (tX true b)) &&
                true))),
        true, true, true,
        yes ([i64 (0 : Int), i64 (0 : Int), i64 (0 : Int), i64 (0 : Int)] = qd (0 : Int) (0 : Int) (0 : Int) (0 : Int)),
        true, true,
        tX true a == tX true a &&
          (tX true b == tX true b &&
            (w64 (w64 (tX true a + tW true c) - tX true a) == tW true c &&
              (w64 (w64 (tX true b + tW true d) - tX true b) == tW true d && true))),
        true, true, true, true,
        yes ([i64 (0 : Int), i64 (0 : Int), i64 (0 : Int), i64 (0 : Int)] = qd (0 : Int) (0 : Int) (0 : Int) (0 : Int)),
        true, true,
        mnI (tX true a) (mnI (tX true e) (tX true a)) == mnI (tX true e) (tX true a) &&
          (mnI (tX true b) (mnI (tX true f) (tX true b)) == mnI (tX true f) (tX true b) &&
            (w64
                  (mxI (w64 (tX true a + tW true c))
                      (w64
                        (mnI (tX true e) (tX true a) +
                          w64
                            (mxI (w64 (tX true e + tW true g)) (w64 (tX true a + tW true c)) -
                              mnI (tX true e) (tX true a)))) -
                    mnI (tX true a) (mnI (tX true e) (tX true a))) ==
                w64 (mxI (w64 (tX true e + tW true g)) (w64 (tX true a + tW true c)) - mnI (tX true e) (tX true a)) &&
              (w64
                    (mxI (w64 (tX true b + tW true d))
                        (w64
                          (mnI (tX true f) (tX true b) +
                            w64
                              (mxI (w64 (tX true f + tW true h)) (w64 (tX true b + tW true d)) -
                                mnI (tX true f) (tX true b)))) -
                      mnI (tX true b) (mnI (tX true f) (tX true b))) ==
                  w64 (mxI (w64 (tX true f + tW true h)) (w64 (tX true b + tW true d)) - mnI (tX true f) (tX true b)) &&
                true))),
        true],
      Bo true, []) := by kernel_rfl
theorem rp_3 {a b c d e f g h x y p q : Int} : (afun rG3 60 Try.f11 [Rv a b c d, Rv e f g h, I64 x, I64 y, I64 p, I64 q] []).go [true, true, true, true, true, true, true, true, false, false, true, true, true, true, true, true, true, true, false, false, false, false, true, false] =
  some
    ([true, true,
        yes ([i64 (0 : Int), i64 (0 : Int), i64 (0 : Int), i64 (0 : Int)] = qd (0 : Int) (0 : Int) (0 : Int) (0 : Int)),
        meetB (tX true a) (tX true b) (tW true c) (tW true d) (tX true e) (tX true f) (tW true g) (tW true h), true,
        true, true, true,
        !hasB (tX true a) (tX true b) (tW true c) (tW true d) (w64 (and64 x (15 : Int) - (4 : Int)))
            (w64 (and64 y (15 : Int) - (4 : Int))),
        true,
        hasB
            (bif
                meetB (tX true a) (tX true b) (tW true c) (tW true d) (tX true e) (tX true f) (tW true g)
                  (tW true h) then
              mxI (tX true e) (tX true a)
            else (0 : Int))
            (bif
                meetB (tX true a) (tX true b) (tW true c) (tW true d) (tX true e) (tX true f) (tW true g)
                  (tW true h) then
              mxI (tX true f) (tX true b)
            else (0 : Int))
            (bif
                meetB (tX true a) (tX true b) (tW true c) (tW true d) (tX true e) (tX true f) (tW true g)
                  (tW true h) then
              w64 (mnI (w64 (tX true e + tW true g)) (w64 (tX true a + tW true c)) - mxI (tX true e) (tX true a))
            else (0 : Int))
            (bif
                meetB (tX true a) (tX true b) (tW true c) (tW true d) (tX true e) (tX true f) (tW true g)
                  (tW true h) then
              w64 (mnI (w64 (tX true f + tW true h)) (w64 (tX true b + tW true d)) - mxI (tX true f) (tX true b))
            else (0 : Int))
            (w64 (and64 x (15 : Int) - (4 : Int))) (w64 (and64 y (15 : Int) - (4 : Int))) ==
          false,
        true, true,
        !hasB (tX true a) (tX true b) (tW true c) (tW true d) (w64 (and64 x (15 : Int) - (4 : Int)))
            (w64 (and64 y (15 : Int) - (4 : Int))),
        true, true, true, true,
        !!hasB (tX true e) (tX true f) (tW true g) (tW true h) (w64 (and64 x (15 : Int) - (4 : Int)))
              (w64 (and64 y (15 : Int) - (4 : Int))),
        true, true, true, true, true, true,
        hasB (mnI (tX true e) (tX true a)) (mnI (tX true f) (tX true b))
          (w64 (mxI (w64 (tX true e + tW true g)) (w64 (tX true a + tW true c)) - mnI (tX true e) (tX true a)))
          (w64 (mxI (w64 (tX true f + tW true h)) (w64 (tX true b + tW true d)) - mnI (tX true f) (tX true b)))
          (w64 (and64 x (15 : Int) - (4 : Int))) (w64 (and64 y (15 : Int) - (4 : Int))),
        true, true, true, true, true, true, true, true, true, true, true, true, true,
        hasB (w64 (tX true a + n1 p (1099511627776 : Int))) (w64 (tX true b + n1 q (1099511627776 : Int))) (tW true c)
            (tW true d) (w64 (w64 (and64 x (15 : Int) - (4 : Int)) + n1 p (1099511627776 : Int)))
            (w64 (w64 (and64 y (15 : Int) - (4 : Int)) + n1 q (1099511627776 : Int))) ==
          hasB (tX true a) (tX true b) (tW true c) (tW true d) (w64 (and64 x (15 : Int) - (4 : Int)))
            (w64 (and64 y (15 : Int) - (4 : Int))),
        true, true, true, true,
        yes ([i64 (0 : Int), i64 (0 : Int), i64 (0 : Int), i64 (0 : Int)] = qd (0 : Int) (0 : Int) (0 : Int) (0 : Int)),
        true, true,
        mnI (tX true a) (tX true e) == mnI (tX true e) (tX true a) &&
          (mnI (tX true b) (tX true f) == mnI (tX true f) (tX true b) &&
            (w64 (mxI (w64 (tX true a + tW true c)) (w64 (tX true e + tW true g)) - mnI (tX true a) (tX true e)) ==
                w64 (mxI (w64 (tX true e + tW true g)) (w64 (tX true a + tW true c)) - mnI (tX true e) (tX true a)) &&
              (w64 (mxI (w64 (tX true b + tW true d)) (w64 (tX true f + tW true h)) - mnI (tX true b) (tX true f)) ==
                  w64 (mxI (w64 (tX true f + tW true h)) (w64 (tX true b + tW true d)) - mnI (tX true f) (tX true b)) &&
                true))),
        true, true, true,
        yes ([i64 (0 : Int), i64 (0 : Int), i64 (0 : Int), i64 (0 : Int)] = qd (0 : Int) (0 : Int) (0 : Int) (0 : Int)),
        true, true,
        tX true a == tX true a &&
          (tX true b == tX true b &&
            (w64 (w64 (tX true a + tW true c) - tX true a) == tW true c &&
              (w64 (w64 (tX true b + tW true d) - tX true b) == tW true d && true))),
        true, true, true, true,
        yes ([i64 (0 : Int), i64 (0 : Int), i64 (0 : Int), i64 (0 : Int)] = qd (0 : Int) (0 : Int) (0 : Int) (0 : Int)),
        true, true,
        mnI (tX true a) (mnI (tX true e) (tX true a)) == mnI (tX true e) (tX true a) &&
          (mnI (tX true b) (mnI (tX true f) (tX true b)) == mnI (tX true f) (tX true b) &&
            (w64
                  (mxI (w64 (tX true a + tW true c))
                      (w64
                        (mnI (tX true e) (tX true a) +
                          w64
                            (mxI (w64 (tX true e + tW true g)) (w64 (tX true a + tW true c)) -
                              mnI (tX true e) (tX true a)))) -
                    mnI (tX true a) (mnI (tX true e) (tX true a))) ==
                w64 (mxI (w64 (tX true e + tW true g)) (w64 (tX true a + tW true c)) - mnI (tX true e) (tX true a)) &&
              (w64
                    (mxI (w64 (tX true b + tW true d))
                        (w64
                          (mnI (tX true f) (tX true b) +
                            w64
                              (mxI (w64 (tX true f + tW true h)) (w64 (tX true b + tW true d)) -
                                mnI (tX true f) (tX true b)))) -
                      mnI (tX true b) (mnI (tX true f) (tX true b))) ==
                  w64 (mxI (w64 (tX true f + tW true h)) (w64 (tX true b + tW true d)) - mnI (tX true f) (tX true b)) &&
                true))),
        true],
      Bo true, []) := by kernel_rfl
theorem rp_4 {a b c d e f g h x y p q : Int} : (afun rG3 60 Try.f11 [Rv a b c d, Rv e f g h, I64 x, I64 y, I64 p, I64 q] []).go [true, true, true, false, false, false, false, false, true, true, true, true, true, false, false, true, false, true, false, false, false, false, true, false] =
  some
    ([true, true,
        yes ([i64 (0 : Int), i64 (0 : Int), i64 (0 : Int), i64 (0 : Int)] = qd (0 : Int) (0 : Int) (0 : Int) (0 : Int)),
        !meetB (tX true a) (tX true b) (tW true c) (tW true d) (tX true e) (tX true f) (tW true g) (tW true h), true,
        true, true, true,
        hasB (tX true a) (tX true b) (tW true c) (tW true d) (w64 (and64 x (15 : Int) - (4 : Int)))
          (w64 (and64 y (15 : Int) - (4 : Int))),
        true,
        false ==
          hasB (tX true e) (tX true f) (tW true g) (tW true h) (w64 (and64 x (15 : Int) - (4 : Int)))
            (w64 (and64 y (15 : Int) - (4 : Int))),
        true, true,
        !!hasB (tX true a) (tX true b) (tW true c) (tW true d) (w64 (and64 x (15 : Int) - (4 : Int)))
              (w64 (and64 y (15 : Int) - (4 : Int))),
        true, true, true, true, true, true, true, true, true, true, true,
        hasB (mnI (tX true e) (tX true a)) (mnI (tX true f) (tX true b))
          (w64 (mxI (w64 (tX true e + tW true g)) (w64 (tX true a + tW true c)) - mnI (tX true e) (tX true a)))
          (w64 (mxI (w64 (tX true f + tW true h)) (w64 (tX true b + tW true d)) - mnI (tX true f) (tX true b)))
          (w64 (and64 x (15 : Int) - (4 : Int))) (w64 (and64 y (15 : Int) - (4 : Int))),
        true, true, true, true, true, true, true, true, true, true, true, true, true,
        hasB (w64 (tX true a + n1 p (1099511627776 : Int))) (w64 (tX true b + n1 q (1099511627776 : Int))) (tW true c)
            (tW true d) (w64 (w64 (and64 x (15 : Int) - (4 : Int)) + n1 p (1099511627776 : Int)))
            (w64 (w64 (and64 y (15 : Int) - (4 : Int)) + n1 q (1099511627776 : Int))) ==
          hasB (tX true a) (tX true b) (tW true c) (tW true d) (w64 (and64 x (15 : Int) - (4 : Int)))
            (w64 (and64 y (15 : Int) - (4 : Int))),
        true, true, true, true,
        yes ([i64 (0 : Int), i64 (0 : Int), i64 (0 : Int), i64 (0 : Int)] = qd (0 : Int) (0 : Int) (0 : Int) (0 : Int)),
        true, true,
        mnI (tX true a) (tX true e) == mnI (tX true e) (tX true a) &&
          (mnI (tX true b) (tX true f) == mnI (tX true f) (tX true b) &&
            (w64 (mxI (w64 (tX true a + tW true c)) (w64 (tX true e + tW true g)) - mnI (tX true a) (tX true e)) ==
                w64 (mxI (w64 (tX true e + tW true g)) (w64 (tX true a + tW true c)) - mnI (tX true e) (tX true a)) &&
              (w64 (mxI (w64 (tX true b + tW true d)) (w64 (tX true f + tW true h)) - mnI (tX true b) (tX true f)) ==
                  w64 (mxI (w64 (tX true f + tW true h)) (w64 (tX true b + tW true d)) - mnI (tX true f) (tX true b)) &&
                true))),
        true, true, true,
        yes ([i64 (0 : Int), i64 (0 : Int), i64 (0 : Int), i64 (0 : Int)] = qd (0 : Int) (0 : Int) (0 : Int) (0 : Int)),
        true, true,
        tX true a == tX true a &&
          (tX true b == tX true b &&
            (w64 (w64 (tX true a + tW true c) - tX true a) == tW true c &&
              (w64 (w64 (tX true b + tW true d) - tX true b) == tW true d && true))),
        true, true, true, true,
        yes ([i64 (0 : Int), i64 (0 : Int), i64 (0 : Int), i64 (0 : Int)] = qd (0 : Int) (0 : Int) (0 : Int) (0 : Int)),
        true, true,
        mnI (tX true a) (mnI (tX true e) (tX true a)) == mnI (tX true e) (tX true a) &&
          (mnI (tX true b) (mnI (tX true f) (tX true b)) == mnI (tX true f) (tX true b) &&
            (w64
                  (mxI (w64 (tX true a + tW true c))
                      (w64
                        (mnI (tX true e) (tX true a) +
                          w64
                            (mxI (w64 (tX true e + tW true g)) (w64 (tX true a + tW true c)) -
                              mnI (tX true e) (tX true a)))) -
                    mnI (tX true a) (mnI (tX true e) (tX true a))) ==
                w64 (mxI (w64 (tX true e + tW true g)) (w64 (tX true a + tW true c)) - mnI (tX true e) (tX true a)) &&
              (w64
                    (mxI (w64 (tX true b + tW true d))
                        (w64
                          (mnI (tX true f) (tX true b) +
                            w64
                              (mxI (w64 (tX true f + tW true h)) (w64 (tX true b + tW true d)) -
                                mnI (tX true f) (tX true b)))) -
                      mnI (tX true b) (mnI (tX true f) (tX true b))) ==
                  w64 (mxI (w64 (tX true f + tW true h)) (w64 (tX true b + tW true d)) - mnI (tX true f) (tX true b)) &&
                true))),
        true],
      Bo true, []) := by kernel_rfl
theorem rp_5 {a b c d e f g h x y p q : Int} : (afun rG3 60 Try.f11 [Rv a b c d, Rv e f g h, I64 x, I64 y, I64 p, I64 q] []).go [true, true, true, false, false, false, false, false, false, false] =
  some
    ([true, true,
        yes ([i64 (0 : Int), i64 (0 : Int), i64 (0 : Int), i64 (0 : Int)] = qd (0 : Int) (0 : Int) (0 : Int) (0 : Int)),
        !meetB (tX true a) (tX true b) (tW true c) (tW true d) (tX true e) (tX true f) (tW true g) (tW true h), true,
        true, true, true,
        !hasB (tX true a) (tX true b) (tW true c) (tW true d) (w64 (and64 x (15 : Int) - (4 : Int)))
            (w64 (and64 y (15 : Int) - (4 : Int))),
        true, true, true, true,
        !hasB (tX true a) (tX true b) (tW true c) (tW true d) (w64 (and64 x (15 : Int) - (4 : Int)))
            (w64 (and64 y (15 : Int) - (4 : Int))),
        true, true, true, true,
        !hasB (tX true e) (tX true f) (tW true g) (tW true h) (w64 (and64 x (15 : Int) - (4 : Int)))
            (w64 (and64 y (15 : Int) - (4 : Int))),
        true, true, true, true, true, true, true, true, true, true, true, true, true, true, true, true, true, true,
        true, true,
        hasB (w64 (tX true a + n1 p (1099511627776 : Int))) (w64 (tX true b + n1 q (1099511627776 : Int))) (tW true c)
            (tW true d) (w64 (w64 (and64 x (15 : Int) - (4 : Int)) + n1 p (1099511627776 : Int)))
            (w64 (w64 (and64 y (15 : Int) - (4 : Int)) + n1 q (1099511627776 : Int))) ==
          hasB (tX true a) (tX true b) (tW true c) (tW true d) (w64 (and64 x (15 : Int) - (4 : Int)))
            (w64 (and64 y (15 : Int) - (4 : Int))),
        true, true, true, true,
        yes ([i64 (0 : Int), i64 (0 : Int), i64 (0 : Int), i64 (0 : Int)] = qd (0 : Int) (0 : Int) (0 : Int) (0 : Int)),
        true, true,
        mnI (tX true a) (tX true e) == mnI (tX true e) (tX true a) &&
          (mnI (tX true b) (tX true f) == mnI (tX true f) (tX true b) &&
            (w64 (mxI (w64 (tX true a + tW true c)) (w64 (tX true e + tW true g)) - mnI (tX true a) (tX true e)) ==
                w64 (mxI (w64 (tX true e + tW true g)) (w64 (tX true a + tW true c)) - mnI (tX true e) (tX true a)) &&
              (w64 (mxI (w64 (tX true b + tW true d)) (w64 (tX true f + tW true h)) - mnI (tX true b) (tX true f)) ==
                  w64 (mxI (w64 (tX true f + tW true h)) (w64 (tX true b + tW true d)) - mnI (tX true f) (tX true b)) &&
                true))),
        true, true, true,
        yes ([i64 (0 : Int), i64 (0 : Int), i64 (0 : Int), i64 (0 : Int)] = qd (0 : Int) (0 : Int) (0 : Int) (0 : Int)),
        true, true,
        tX true a == tX true a &&
          (tX true b == tX true b &&
            (w64 (w64 (tX true a + tW true c) - tX true a) == tW true c &&
              (w64 (w64 (tX true b + tW true d) - tX true b) == tW true d && true))),
        true, true, true, true,
        yes ([i64 (0 : Int), i64 (0 : Int), i64 (0 : Int), i64 (0 : Int)] = qd (0 : Int) (0 : Int) (0 : Int) (0 : Int)),
        true, true,
        mnI (tX true a) (mnI (tX true e) (tX true a)) == mnI (tX true e) (tX true a) &&
          (mnI (tX true b) (mnI (tX true f) (tX true b)) == mnI (tX true f) (tX true b) &&
            (w64
                  (mxI (w64 (tX true a + tW true c))
                      (w64
                        (mnI (tX true e) (tX true a) +
                          w64
                            (mxI (w64 (tX true e + tW true g)) (w64 (tX true a + tW true c)) -
                              mnI (tX true e) (tX true a)))) -
                    mnI (tX true a) (mnI (tX true e) (tX true a))) ==
                w64 (mxI (w64 (tX true e + tW true g)) (w64 (tX true a + tW true c)) - mnI (tX true e) (tX true a)) &&
              (w64
                    (mxI (w64 (tX true b + tW true d))
                        (w64
                          (mnI (tX true f) (tX true b) +
                            w64
                              (mxI (w64 (tX true f + tW true h)) (w64 (tX true b + tW true d)) -
                                mnI (tX true f) (tX true b)))) -
                      mnI (tX true b) (mnI (tX true f) (tX true b))) ==
                  w64 (mxI (w64 (tX true f + tW true h)) (w64 (tX true b + tW true d)) - mnI (tX true f) (tX true b)) &&
                true))),
        true],
      Bo true, []) := by kernel_rfl
theorem rp_6 {a b c d e f g h x y p q : Int} : (afun rG3 60 Try.f11 [Rv a b c d, Rv e f g h, I64 x, I64 y, I64 p, I64 q] []).go [true, true, true, false, false, false, false, false, false, false, true, true, true, true, true, true, true, true, false, false, false, false, true, false] =
  some
    ([true, true,
        yes ([i64 (0 : Int), i64 (0 : Int), i64 (0 : Int), i64 (0 : Int)] = qd (0 : Int) (0 : Int) (0 : Int) (0 : Int)),
        !meetB (tX true a) (tX true b) (tW true c) (tW true d) (tX true e) (tX true f) (tW true g) (tW true h), true,
        true, true, true,
        !hasB (tX true a) (tX true b) (tW true c) (tW true d) (w64 (and64 x (15 : Int) - (4 : Int)))
            (w64 (and64 y (15 : Int) - (4 : Int))),
        true, true, true, true,
        !hasB (tX true a) (tX true b) (tW true c) (tW true d) (w64 (and64 x (15 : Int) - (4 : Int)))
            (w64 (and64 y (15 : Int) - (4 : Int))),
        true, true, true, true,
        !!hasB (tX true e) (tX true f) (tW true g) (tW true h) (w64 (and64 x (15 : Int) - (4 : Int)))
              (w64 (and64 y (15 : Int) - (4 : Int))),
        true, true, true, true, true, true,
        hasB (mnI (tX true e) (tX true a)) (mnI (tX true f) (tX true b))
          (w64 (mxI (w64 (tX true e + tW true g)) (w64 (tX true a + tW true c)) - mnI (tX true e) (tX true a)))
          (w64 (mxI (w64 (tX true f + tW true h)) (w64 (tX true b + tW true d)) - mnI (tX true f) (tX true b)))
          (w64 (and64 x (15 : Int) - (4 : Int))) (w64 (and64 y (15 : Int) - (4 : Int))),
        true, true, true, true, true, true, true, true, true, true, true, true, true,
        hasB (w64 (tX true a + n1 p (1099511627776 : Int))) (w64 (tX true b + n1 q (1099511627776 : Int))) (tW true c)
            (tW true d) (w64 (w64 (and64 x (15 : Int) - (4 : Int)) + n1 p (1099511627776 : Int)))
            (w64 (w64 (and64 y (15 : Int) - (4 : Int)) + n1 q (1099511627776 : Int))) ==
          hasB (tX true a) (tX true b) (tW true c) (tW true d) (w64 (and64 x (15 : Int) - (4 : Int)))
            (w64 (and64 y (15 : Int) - (4 : Int))),
        true, true, true, true,
        yes ([i64 (0 : Int), i64 (0 : Int), i64 (0 : Int), i64 (0 : Int)] = qd (0 : Int) (0 : Int) (0 : Int) (0 : Int)),
        true, true,
        mnI (tX true a) (tX true e) == mnI (tX true e) (tX true a) &&
          (mnI (tX true b) (tX true f) == mnI (tX true f) (tX true b) &&
            (w64 (mxI (w64 (tX true a + tW true c)) (w64 (tX true e + tW true g)) - mnI (tX true a) (tX true e)) ==
                w64 (mxI (w64 (tX true e + tW true g)) (w64 (tX true a + tW true c)) - mnI (tX true e) (tX true a)) &&
              (w64 (mxI (w64 (tX true b + tW true d)) (w64 (tX true f + tW true h)) - mnI (tX true b) (tX true f)) ==
                  w64 (mxI (w64 (tX true f + tW true h)) (w64 (tX true b + tW true d)) - mnI (tX true f) (tX true b)) &&
                true))),
        true, true, true,
        yes ([i64 (0 : Int), i64 (0 : Int), i64 (0 : Int), i64 (0 : Int)] = qd (0 : Int) (0 : Int) (0 : Int) (0 : Int)),
        true, true,
        tX true a == tX true a &&
          (tX true b == tX true b &&
            (w64 (w64 (tX true a + tW true c) - tX true a) == tW true c &&
              (w64 (w64 (tX true b + tW true d) - tX true b) == tW true d && true))),
        true, true, true, true,
        yes ([i64 (0 : Int), i64 (0 : Int), i64 (0 : Int), i64 (0 : Int)] = qd (0 : Int) (0 : Int) (0 : Int) (0 : Int)),
        true, true,
        mnI (tX true a) (mnI (tX true e) (tX true a)) == mnI (tX true e) (tX true a) &&
          (mnI (tX true b) (mnI (tX true f) (tX true b)) == mnI (tX true f) (tX true b) &&
            (w64
                  (mxI (w64 (tX true a + tW true c))
                      (w64
                        (mnI (tX true e) (tX true a) +
                          w64
                            (mxI (w64 (tX true e + tW true g)) (w64 (tX true a + tW true c)) -
                              mnI (tX true e) (tX true a)))) -
                    mnI (tX true a) (mnI (tX true e) (tX true a))) ==
                w64 (mxI (w64 (tX true e + tW true g)) (w64 (tX true a + tW true c)) - mnI (tX true e) (tX true a)) &&
              (w64
                    (mxI (w64 (tX true b + tW true d))
                        (w64
                          (mnI (tX true f) (tX true b) +
                            w64
                              (mxI (w64 (tX true f + tW true h)) (w64 (tX true b + tW true d)) -
                                mnI (tX true f) (tX true b)))) -
                      mnI (tX true b) (mnI (tX true f) (tX true b))) ==
                  w64 (mxI (w64 (tX true f + tW true h)) (w64 (tX true b + tW true d)) - mnI (tX true f) (tX true b)) &&
                true))),
        true],
      Bo true, []) := by kernel_rfl
end Go.Proofs.Ytcpahifgdppkbaa.QAI
