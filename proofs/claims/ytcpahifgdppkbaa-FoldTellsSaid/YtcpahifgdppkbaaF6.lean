/- FoldTells: the whole. -/
import Derived.Test.YtcpahifgdppkbaaF5
import Derived.Test.YtcpahifgdppkbaaA21
set_option linter.unusedVariables false
set_option linter.unusedSimpArgs false
namespace Go.Proofs.Ytcpahifgdppkbaa.QAI
open Go Go.RowKit
set_option maxRecDepth 100000
def ftZ (k : Nat) (g : Nat → Int) (c : Int) : St := ftS2 k g c k 0 (fun j => enc2 (ga g k j)) (fun _ => enc2 (0, 0)) (sPos g k) (sNeg g k) (IntKind.wrap .i64 ((k : Int) - 1))
noncomputable def ftW (L k : Nat) (g : Nat → Int) (c : Int) : Tr (AV × AHeap) :=
  lfun (ftG L) (byReg 6 (told 52 (bodyOf Try.f4 0) (ftI k g c 0) (.exit 0, ftF k g c)) (told 51 (bodyOf Try.f4 1) (ftZ k g c) (.exit 2, ftF2 k g c))) 60 Try.f4 [.c (.sl 0 0 k), I64 c] (inL 2 k g)
theorem ft_w1 {L k : Nat} {g : Nat → Int} {c : Int} : (lfun (ftG L) (fun _ _ _ => .fail) 60 Try.f4 [.c (.sl 0 0 k), I64 c] (inL 2 k g)).go [] =
  some
    ([decide (↑k > (100 : Int))], Bo true,
      [some { t := 2, own := false, c := Cont.row 1 k fun i => [Value.int IntKind.i64 (g i)] }]) := by kernel_rfl
theorem ft_w2 {L k : Nat} {g : Nat → Int} {c : Int} : (ftW L k g c).go [false, true, true, true, true, true, true, true, true, true, true, true, true, true, true, true, true, true, true, true, true, true, true, true, true, true, true, true, true, true, true, true, true, true, true, true, true, true, true, true, true, false, true, true, true, true, true, true, true, true, true, true, false] =
  some
    ([!decide (↑k > (100 : Int)), yes (was 52 (bodyOf Try.f4 0) (ftI k g c 0)), yes (was 51 (bodyOf Try.f4 1) (ftZ k g c)), decide (w64 (↑k + (1 : Int)) ≠ (0 : Int)),
        yes
          (0 + k ≤ k ∧
            k < 2 ^ 60 ∧ (fun j => enc2 (ga g k j)) = fun i => enc2 (dec2 (enc2 (ga g k i)))),
        (jp (fun i => dec2 (enc2 (ga g k i))) 0 k).fst == sPos g k &&
          ((jp (fun i => dec2 (enc2 (ga g k i))) 0 k).snd == sNeg g k && true),
        true, true, true, true, true, true,
        w64
            ((jp (fun i => dec2 (enc2 (ga g k i))) 0 k).fst +
              (jp (fun i => dec2 (enc2 (ga g k i))) 0 k).snd) ==
          w64 (sPos g k + sNeg g k),
        true, true,
        yes
          (0 + 2 * k ≤ 2 * k ∧
            2 * k < 2 ^ 60 ∧
              (fun j => enc2 (bk (ga g k) k k j)) = fun i => enc2 (dec2 (enc2 (bk (ga g k) k k i)))),
        true, true,
        (jp (fun i => dec2 (enc2 (bk (ga g k) k k i))) 0 (2 * k)).fst ==
            (jp (fun i => dec2 (enc2 (ga g k i))) 0 k).fst &&
          ((jp (fun i => dec2 (enc2 (bk (ga g k) k k i))) 0 (2 * k)).snd ==
              (jp (fun i => dec2 (enc2 (ga g k i))) 0 k).snd &&
            true),
        true, true, decInt (0 : Int) ((and64 c (255 : Int)).tmod (w64 (↑k + (1 : Int)))) k, true, true, true,
        decInt ((and64 c (255 : Int)).tmod (w64 (↑k + (1 : Int)))) (↑k) k, true, true,
        yes
          (0 + Int.toNat (0 : Int) +
                (((and64 c (255 : Int)).tmod (w64 (↑k + (1 : Int)))).toNat - Int.toNat (0 : Int)) ≤
              k ∧
            ((and64 c (255 : Int)).tmod (w64 (↑k + (1 : Int)))).toNat - Int.toNat (0 : Int) < 2 ^ 60 ∧
              (fun j => enc2 (ga g k j)) = fun i => enc2 (dec2 (enc2 (ga g k i)))),
        true,
        yes
          (0 + ((and64 c (255 : Int)).tmod (w64 (↑k + (1 : Int)))).toNat +
                (((k : Nat) : Int).toNat - ((and64 c (255 : Int)).tmod (w64 (↑k + (1 : Int)))).toNat) ≤
              k ∧
            ((k : Nat) : Int).toNat - ((and64 c (255 : Int)).tmod (w64 (↑k + (1 : Int)))).toNat < 2 ^ 60 ∧
              (fun j => enc2 (ga g k j)) = fun i => enc2 (dec2 (enc2 (ga g k i)))),
        true, true, true, true, true, true, true, true, true, true, true, true, true,
        mxI
              (jp (fun i => dec2 (enc2 (ga g k i)))
                  (0 + ((and64 c (255 : Int)).tmod (w64 (↑k + (1 : Int)))).toNat)
                  (((k : Nat) : Int).toNat - ((and64 c (255 : Int)).tmod (w64 (↑k + (1 : Int)))).toNat)).fst
              (mxI
                (jp (fun i => dec2 (enc2 (ga g k i))) (0 + Int.toNat (0 : Int))
                    (((and64 c (255 : Int)).tmod (w64 (↑k + (1 : Int)))).toNat - Int.toNat (0 : Int))).fst
                (0 : Int)) ==
            (jp (fun i => dec2 (enc2 (ga g k i))) 0 k).fst &&
          (mnI
                (jp (fun i => dec2 (enc2 (ga g k i)))
                    (0 + ((and64 c (255 : Int)).tmod (w64 (↑k + (1 : Int)))).toNat)
                    (((k : Nat) : Int).toNat - ((and64 c (255 : Int)).tmod (w64 (↑k + (1 : Int)))).toNat)).snd
                (mnI
                  (jp (fun i => dec2 (enc2 (ga g k i))) (0 + Int.toNat (0 : Int))
                      (((and64 c (255 : Int)).tmod (w64 (↑k + (1 : Int)))).toNat - Int.toNat (0 : Int))).snd
                  (0 : Int)) ==
              (jp (fun i => dec2 (enc2 (ga g k i))) 0 k).snd &&
            true),
        true, true, true, true, true, true, true, true, true, true,
        mxI (jp (fun i => dec2 (enc2 (ga g k i))) 0 k).fst (0 : Int) ==
            (jp (fun i => dec2 (enc2 (ga g k i))) 0 k).fst &&
          (mnI (jp (fun i => dec2 (enc2 (ga g k i))) 0 k).snd (0 : Int) ==
              (jp (fun i => dec2 (enc2 (ga g k i))) 0 k).snd &&
            true),
        true],
      Bo true,
      [some { t := 2, own := false, c := Cont.row 1 k fun i => [Value.int IntKind.i64 (g i)] }]) := by kernel_rfl
end Go.Proofs.Ytcpahifgdppkbaa.QAI
