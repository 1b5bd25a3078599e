/- GaugTells: the walk and the plain law. -/
import Derived.Test.YtcpahifgdppkbaaG8
import Derived.Test.YtcpahifgdppkbaaC
set_option linter.unusedVariables false
set_option linter.unusedSimpArgs false
namespace Go.Proofs.Ytcpahifgdppkbaa.QAI
open Go Go.RowKit
set_option maxRecDepth 100000
noncomputable def gtG : Ctx2 := GK KGT (fun k => if k = 4 then [(1,none),(2,none),(3,none),(7,none)] else []) 5
theorem w64_eqG (x : Int) : w64 x = (x + 9223372036854775808) % 18446744073709551616 - 9223372036854775808 := IntKind.wrap_i64 x
theorem ins_i64w {ss : List Shp} {is : List In} (h : InsOk (.one (.int .i64) :: ss) is) : ∃ (a : Int) (is' : List In), is = .one (.int .i64 a) :: is' ∧ InsOk ss is' ∧ -(2 ^ 63 : Int) ≤ a ∧ a < (2 ^ 63 : Int) := by
  obtain ⟨i, is', rfl, h1, h2⟩ := ins_cons h
  cases i with
  | one v =>
    obtain ⟨⟨a, rfl, hw⟩, _⟩ := h1
    refine ⟨a, is', rfl, h2, ?_⟩
    simp only [Lit.wf, Bool.and_eq_true, decide_eq_true_eq] at hw
    have h1 : IntKind.i64.min = -9223372036854775808 := by decide
    have h2 : IntKind.i64.max = 9223372036854775807 := by decide
    omega
  | _ => cases h1
theorem gt_w1 {a : Nat → Int} {s : ByteArray} {x : Int} : (afun gtG 60 Try.f6 [aA a, Str s, I64 x] []).go [] =
  some ([decide (↑s.size > (2000 : Int))], Bo true, []) := by kernel_rfl
theorem gt_w2 {a : Nat → Int} {s : ByteArray} {x : Int} : (afun gtG 60 Try.f6 [aA a, Str s, I64 x] []).go [false, true, true, true, true, true, false, true, false, false, true, false, false, true, false, true, false, false, false, false, false, true, true, false, true, false, false, false, true, true, true, true, true, true, true, false, true, false, false, true, false, false, true, false, true, false, false, false, false, false, true, true, false, true, false, false, false, true, true, false] =
  some
    ([!decide (↑s.size > (2000 : Int)), true, true, true,
        yes ((fun k => Value.int IntKind.i64 (a k)) = fun k => Value.int IntKind.i64 (a k)),
        yes ((fun k => Value.int IntKind.i64 (a k)) = fun k => Value.int IntKind.i64 (a k)),
        !!(okB fun k => a k) == okB fun k => a k, true, true, true, true, true, true,
        yes
          (s.size ≤ 2 ^ 40 ∧
            (fun k => Value.int IntKind.i64 (a k)) = fun k => Value.int IntKind.i64 (a k)),
        true,
        yes
          (s.size ≤ 2 ^ 40 ∧
            (fun k => Value.int IntKind.i64 (a k)) = fun k => Value.int IntKind.i64 (a k)),
        true, true, !cs (fun k => a k) s.data.toList != cs (fun k => a k) s.data.toList, true, true, true, true, true,
        decide (x < (0 : Int)), true, true,
        !w64 (w64 ((mxI (0 : Int) x).tdiv (2 : Int)) + (mxI (0 : Int) x).tmod (2 : Int)) != (0 : Int), true,
        yes ((fun k => Value.int IntKind.i64 (a k)) = fun k => Value.int IntKind.i64 (a k)), true, true, true,
        yes
          ((fun k => Value.int IntKind.i64 (tz (fun k => a k) k)) = fun k =>
            Value.int IntKind.i64 (tz (fun k => a k) k)),
        yes
          ((fun k => Value.int IntKind.i64 (tz (fun k => a k) k)) = fun k =>
            Value.int IntKind.i64 (tz (fun k => a k) k)),
        !!(okB fun k => tz (fun k => a k) k) == okB fun k => tz (fun k => a k) k, true, true, true, true, true, true,
        yes
          (s.size ≤ 2 ^ 40 ∧
            (fun k => Value.int IntKind.i64 (tz (fun k => a k) k)) = fun k =>
              Value.int IntKind.i64 (tz (fun k => a k) k)),
        true,
        yes
          (s.size ≤ 2 ^ 40 ∧
            (fun k => Value.int IntKind.i64 (tz (fun k => a k) k)) = fun k =>
              Value.int IntKind.i64 (tz (fun k => a k) k)),
        true, true, !cs (fun k => tz (fun k => a k) k) s.data.toList != cs (fun k => tz (fun k => a k) k) s.data.toList,
        true, true, true, true, true, decide (x < (0 : Int)), true, true,
        !w64 (w64 ((mxI (0 : Int) x).tdiv (2 : Int)) + (mxI (0 : Int) x).tmod (2 : Int)) != (0 : Int), true,
        yes
          ((fun k => Value.int IntKind.i64 (tz (fun k => a k) k)) = fun k =>
            Value.int IntKind.i64 (tz (fun k => a k) k)),
        true],
      Bo true, []) := by kernel_rfl
theorem gt_w3 {a : Nat → Int} {s : ByteArray} {x : Int} : (afun gtG 60 Try.f6 [aA a, Str s, I64 x] []).go [false, true, true, true, true, true, false, true, false, false, true, false, false, true, false, true, false, false, false, false, false, true, true, false, false, true, false, false, false, true, true, true, true, true, true, true, false, true, false, false, true, false, false, true, false, true, false, false, false, false, false, true, true, false, false, true, false, false, false, true, true, false] =
  some
    ([!decide (↑s.size > (2000 : Int)), true, true, true,
        yes ((fun k => Value.int IntKind.i64 (a k)) = fun k => Value.int IntKind.i64 (a k)),
        yes ((fun k => Value.int IntKind.i64 (a k)) = fun k => Value.int IntKind.i64 (a k)),
        !!(okB fun k => a k) == okB fun k => a k, true, true, true, true, true, true,
        yes
          (s.size ≤ 2 ^ 40 ∧
            (fun k => Value.int IntKind.i64 (a k)) = fun k => Value.int IntKind.i64 (a k)),
        true,
        yes
          (s.size ≤ 2 ^ 40 ∧
            (fun k => Value.int IntKind.i64 (a k)) = fun k => Value.int IntKind.i64 (a k)),
        true, true, !cs (fun k => a k) s.data.toList != cs (fun k => a k) s.data.toList, true, true, true, true, true,
        !decide (x < (0 : Int)), true, true, true,
        !w64 (w64 ((mxI (0 : Int) x).tdiv (2 : Int)) + (mxI (0 : Int) x).tmod (2 : Int)) !=
            w64 (x - w64 (x.tdiv (2 : Int))),
        true, yes ((fun k => Value.int IntKind.i64 (a k)) = fun k => Value.int IntKind.i64 (a k)), true, true, true,
        yes
          ((fun k => Value.int IntKind.i64 (tz (fun k => a k) k)) = fun k =>
            Value.int IntKind.i64 (tz (fun k => a k) k)),
        yes
          ((fun k => Value.int IntKind.i64 (tz (fun k => a k) k)) = fun k =>
            Value.int IntKind.i64 (tz (fun k => a k) k)),
        !!(okB fun k => tz (fun k => a k) k) == okB fun k => tz (fun k => a k) k, true, true, true, true, true, true,
        yes
          (s.size ≤ 2 ^ 40 ∧
            (fun k => Value.int IntKind.i64 (tz (fun k => a k) k)) = fun k =>
              Value.int IntKind.i64 (tz (fun k => a k) k)),
        true,
        yes
          (s.size ≤ 2 ^ 40 ∧
            (fun k => Value.int IntKind.i64 (tz (fun k => a k) k)) = fun k =>
              Value.int IntKind.i64 (tz (fun k => a k) k)),
        true, true, !cs (fun k => tz (fun k => a k) k) s.data.toList != cs (fun k => tz (fun k => a k) k) s.data.toList,
        true, true, true, true, true, !decide (x < (0 : Int)), true, true, true,
        !w64 (w64 ((mxI (0 : Int) x).tdiv (2 : Int)) + (mxI (0 : Int) x).tmod (2 : Int)) !=
            w64 (x - w64 (x.tdiv (2 : Int))),
        true,
        yes
          ((fun k => Value.int IntKind.i64 (tz (fun k => a k) k)) = fun k =>
            Value.int IntKind.i64 (tz (fun k => a k) k)),
        true],
      Bo true, []) := by kernel_rfl
theorem gaugTells_true (a : Nat → Int) (s : ByteArray) (x : Int) (hx : -(2 ^ 63 : Int) ≤ x ∧ x < (2 ^ 63 : Int)) : (afun gtG 60 Try.f6 [aA a, Str s, I64 x] []).eval = some (Bo true, []) := by
  by_cases h : (s.size : Int) > 2000
  · exact Tr.go_eval gt_w1 ⟨decide_eq_true h, trivial⟩
  · have h2 : s.size ≤ 2 ^ 40 := by omega
    by_cases h3 : x < 0
    · have e : w64 (w64 ((mxI 0 x).tdiv 2) + (mxI 0 x).tmod 2) = 0 := by
        have : mxI 0 x = 0 := by unfold mxI; omega
        rw [this]
        decide
      refine Tr.go_eval gt_w2 ?_
      repeat' (first | exact AllT.nil | refine AllT.cons ?_ ?_)
      all_goals first | rfl | exact yes_of rfl | exact yes_of ⟨h2, rfl⟩ | exact decide_eq_true h3 | (rw [decide_eq_false h]; rfl) | (rw [e]; rfl) | simp
    · have e : w64 (w64 ((mxI 0 x).tdiv 2) + (mxI 0 x).tmod 2) = w64 (x - w64 (x.tdiv 2)) := by
        have : mxI 0 x = x := by unfold mxI; omega
        rw [this, tdiv_nn (by omega) (by decide), tmod_nn (by omega)]
        have e1 : w64 (x / 2) = x / 2 := by rw [w64_eqG]; omega
        rw [e1]
        congr 1
        omega
      refine Tr.go_eval gt_w3 ?_
      repeat' (first | exact AllT.nil | refine AllT.cons ?_ ?_)
      all_goals first | rfl | exact yes_of rfl | exact yes_of ⟨h2, rfl⟩ | (rw [decide_eq_false h3]; rfl) | (rw [decide_eq_false h]; rfl) | (rw [e]; simp; done) | simp
def gaugTellsS : List Shp := [.arr 256 (.int .i64), .one .str, .one (.int .i64)]
theorem gaugTells_core : ∀ is, InsOk gaugTellsS is → ∃ keep L d, (afun (GK KGT keep L) d Try.f6 (avsIn 0 gaugTellsS is) (blksIn gaugTellsS is)).eval = some (Bo true, blksIn gaugTellsS is) := by
  intro is0 h0
  obtain ⟨a, is1, rfl, h1⟩ := ins_arr h0
  obtain ⟨s, is2, rfl, h2, l2⟩ := ins_str h1
  obtain ⟨x, is3, rfl, h3, l3⟩ := ins_i64w h2
  obtain rfl := ins_nil h3
  exact ⟨_, _, 60, gaugTells_true a s x l3⟩
end Go.Proofs.Ytcpahifgdppkbaa.QAI
