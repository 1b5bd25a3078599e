/- RectTells: the plain law. -/
import Derived.Test.YtcpahifgdppkbaaT1
import Derived.Test.YtcpahifgdppkbaaC
set_option linter.unusedVariables false
set_option linter.unusedSimpArgs false
namespace Go.Proofs.Ytcpahifgdppkbaa.QAI
open Go Go.RowKit
set_option maxRecDepth 100000
theorem tX_wide (s : Bool) (v : Int) : -(2 ^ 43 : Int) ≤ tX s v ∧ tX s v ≤ 2 ^ 43 := by
  cases s
  · exact n1_b (by omega)
  · have := tX_small v
    omega
theorem tW_wide (s : Bool) (v : Int) : 0 ≤ tW s v ∧ tW s v < 2 ^ 43 := by
  cases s
  · simp only [tW, cond_false]
    rw [u64_mod 43 (by decide) v 8796093022208 rfl]
    omega
  · have := tW_small v
    omega
theorem rok_tame {a b c d : Int} (h1 : -(2 ^ 43 : Int) ≤ a ∧ a ≤ 2 ^ 43) (h2 : -(2 ^ 43 : Int) ≤ b ∧ b ≤ 2 ^ 43) (h3 : 0 ≤ c ∧ c < 2 ^ 43) (h4 : 0 ≤ d ∧ d < 2 ^ 43) : rokB a b c d = true := by
  unfold rokB nrB
  simp only [Bool.and_eq_true, decide_eq_true_eq]
  omega
theorem meet_same (s : Bool) (a b c d e f g h : Int) : meetB (tX s a) (tX s b) (tW s c) (tW s d) (tX s e) (tX s f) (tW s g) (tW s h) = rmeetB (tX s a) (tX s b) (tW s c) (tW s d) (tX s e) (tX s f) (tW s g) (tW s h) := by
  have ba := tX_wide s a
  have bb := tX_wide s b
  have be := tX_wide s e
  have bf := tX_wide s f
  have bc := tW_wide s c
  have bd := tW_wide s d
  have bg := tW_wide s g
  have bh := tW_wide s h
  rw [Bool.eq_iff_iff, meetB_iff (by omega) (by omega) (by omega) (by omega) (by omega) (by omega) (by omega) (by omega), rmeetB_iff (by omega) (by omega) (by omega) (by omega) (by omega) (by omega) (by omega) (by omega)]
theorem rectTells_true (q r s t a b c d e f g h i j k l x y : Int) (z : Bool) : (afun rGT 60 Try.f10 [Rv q r s t, Rv a b c d, Rv e f g h, Rv i j k l, I64 x, I64 y, Bo z] []).eval = some (Bo true, []) := by
  have hr := rok_tame (tX_wide z a) (tX_wide z b) (tW_wide z c) (tW_wide z d)
  have hm := meet_same z a b c d e f g h
  cases z
  · refine Tr.go_eval rt_2 ?_
    rw [hr, hm]
    repeat' (first | exact AllT.nil | refine AllT.cons ?_ ?_)
    all_goals first | with_reducible rfl | exact yes_of rfl | (simp only [beq_self_eq_true, Bool.and_self]; done)
  · refine Tr.go_eval rt_1 ?_
    rw [hr, hm]
    repeat' (first | exact AllT.nil | refine AllT.cons ?_ ?_)
    all_goals first | with_reducible rfl | exact yes_of rfl | (simp only [beq_self_eq_true, Bool.and_self]; done)
theorem ins_rectT {ss : List Shp} {is : List In} (h : InsOk (.agg [.int .i64, .int .i64, .int .i64, .int .i64] :: ss) is) : ∃ (a b c d : Int) (is' : List In), is = .agg [.int .i64 a, .int .i64 b, .int .i64 c, .int .i64 d] :: is' ∧ InsOk ss is' := by
  obtain ⟨i, is', rfl, h1, h2⟩ := ins_cons h
  cases i with
  | agg cs =>
    have h1' : F2 Kd.ok [.int .i64, .int .i64, .int .i64, .int .i64] cs := h1
    cases h1' with
    | cons p1 h1' => cases h1' with
      | cons p2 h1' => cases h1' with
        | cons p3 h1' => cases h1' with
          | cons p4 h1' => cases h1' with
            | nil =>
              obtain ⟨a, rfl, _⟩ := p1
              obtain ⟨b, rfl, _⟩ := p2
              obtain ⟨c, rfl, _⟩ := p3
              obtain ⟨d, rfl, _⟩ := p4
              exact ⟨a, b, c, d, is', rfl, h2⟩
  | _ => cases h1
def rc4 : Shp := .agg [.int .i64, .int .i64, .int .i64, .int .i64]
def rectTellsS : List Shp := [rc4, rc4, rc4, rc4, .one (.int .i64), .one (.int .i64), .one .bool]
theorem rectTells_core : ∀ is, InsOk rectTellsS is → ∃ keep L d, (afun (GK rKT keep L) d Try.f10 (avsIn 0 rectTellsS is) (blksIn rectTellsS is)).eval = some (Bo true, blksIn rectTellsS is) := by
  intro is0 h0
  obtain ⟨q, r, s, t, is1, rfl, h1⟩ := ins_rectT h0
  obtain ⟨a, b, c, d, is2, rfl, h2⟩ := ins_rectT h1
  obtain ⟨e, f, g, h, is3, rfl, h3⟩ := ins_rectT h2
  obtain ⟨i, j, k, l, is4, rfl, h4⟩ := ins_rectT h3
  obtain ⟨x, is5, rfl, h5⟩ := ins_i64 h4
  obtain ⟨y, is6, rfl, h6⟩ := ins_i64 h5
  obtain ⟨z, is7, rfl, h7⟩ := ins_bool h6
  obtain rfl := ins_nil h7
  exact ⟨_, _, 60, rectTells_true q r s t a b c d e f g h i j k l x y z⟩
end Go.Proofs.Ytcpahifgdppkbaa.QAI
