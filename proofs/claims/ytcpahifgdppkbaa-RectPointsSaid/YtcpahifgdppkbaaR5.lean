/- RectPoints: the plain law. -/
import Derived.Test.YtcpahifgdppkbaaR3
import Derived.Test.YtcpahifgdppkbaaR4
import Derived.Test.YtcpahifgdppkbaaC
set_option linter.unusedVariables false
set_option linter.unusedSimpArgs false
namespace Go.Proofs.Ytcpahifgdppkbaa.QAI
open Go Go.RowKit
set_option maxRecDepth 100000
theorem rectPoints_true (a b c d e f g h x y p q : Int) : (afun rG3 60 Try.f11 [Rv a b c d, Rv e f g h, I64 x, I64 y, I64 p, I64 q] []).eval = some (Bo true, []) := by
  have q1 := @rp_1 a b c d e f g h x y p q
  have q2 := @rp_2 a b c d e f g h x y p q
  have q3 := @rp_3 a b c d e f g h x y p q
  have q4 := @rp_4 a b c d e f g h x y p q
  have q5 := @rp_5 a b c d e f g h x y p q
  have q6 := @rp_6 a b c d e f g h x y p q
  have ba := tX_small a
  have bb := tX_small b
  have be := tX_small e
  have bf := tX_small f
  have bc := tW_small c
  have bd := tW_small d
  have bg := tW_small g
  have bh := tW_small h
  have bx := pt_small x
  have by_ := pt_small y
  have bp := n1_b (v := p) (m := 1099511627776) (by omega)
  have bq := n1_b (v := q) (m := 1099511627776) (by omega)
  revert q1 q2 q3 q4 q5 q6
  generalize (afun rG3 60 Try.f11 [Rv a b c d, Rv e f g h, I64 x, I64 y, I64 p, I64 q] []) = T
  revert ba bb be bf bc bd bg bh bx by_ bp bq
  generalize tX true a = A
  generalize tX true b = B
  generalize tX true e = E
  generalize tX true f = F
  generalize tW true c = C
  generalize tW true d = D
  generalize tW true g = G
  generalize tW true h = H
  generalize w64 (and64 x 15 - 4) = X
  generalize w64 (and64 y 15 - 4) = Y
  generalize n1 p 1099511627776 = P
  generalize n1 q 1099511627776 = Q
  intro ba bb be bf bc bd bg bh bx by_ bp bq q1 q2 q3 q4 q5 q6
  have im := meetB_iff (a := A) (b := B) (c := C) (d := D) (e := E) (f := F) (g := G) (h := H) (by omega) (by omega) (by omega) (by omega) (by omega) (by omega) (by omega) (by omega)
  have iA := hasB_iff (a := A) (b := B) (c := C) (d := D) (x := X) (y := Y) (by omega) (by omega)
  have iB := hasB_iff (a := E) (b := F) (c := G) (d := H) (x := X) (y := Y) (by omega) (by omega)
  simp only [mxI_eq, mnI_eq] at q1 q2 q3 q4 q5 q6
  rw [w64_in (x := A + C) (by omega), w64_in (x := B + D) (by omega), w64_in (x := E + G) (by omega), w64_in (x := F + H) (by omega)] at q1 q2 q3 q4 q5 q6
  rw [w64_in (x := min (E + G) (A + C) - max E A) (by omega), w64_in (x := min (F + H) (B + D) - max F B) (by omega)] at q1 q2 q3
  rw [w64_in (x := max (E + G) (A + C) - min E A) (by omega), w64_in (x := max (F + H) (B + D) - min F B) (by omega)] at q1 q2 q3 q4 q5 q6
  rw [w64_in (x := max (A + C) (E + G) - min A E) (by omega), w64_in (x := max (B + D) (F + H) - min B F) (by omega)] at q1 q2 q3 q4 q5 q6
  rw [w64_in (x := A + C - A) (by omega), w64_in (x := B + D - B) (by omega), w64_in (x := A + P) (by omega), w64_in (x := B + Q) (by omega), w64_in (x := X + P) (by omega), w64_in (x := Y + Q) (by omega)] at q1 q2 q3 q4 q5 q6
  rw [w64_in (x := min E A + (max (E + G) (A + C) - min E A)) (by omega), w64_in (x := min F B + (max (F + H) (B + D) - min F B)) (by omega)] at q1 q2 q3 q4 q5 q6
  rw [w64_in (x := max (A + C) (min E A + (max (E + G) (A + C) - min E A)) - min A (min E A)) (by omega), w64_in (x := max (B + D) (min F B + (max (F + H) (B + D) - min F B)) - min B (min F B)) (by omega)] at q1 q2 q3 q4 q5 q6
  have c3 : (min A (min E A) == min E A && (min B (min F B) == min F B && (max (A + C) (min E A + (max (E + G) (A + C) - min E A)) - min A (min E A) == max (E + G) (A + C) - min E A && (max (B + D) (min F B + (max (F + H) (B + D) - min F B)) - min B (min F B) == max (F + H) (B + D) - min F B && true)))) = true := by
    clear im iA iB q1 q2 q3 q4 q5 q6
    simp only [Bool.and_eq_true, beq_iff_eq, and_true]; refine ⟨?_, ?_, ?_, ?_⟩ <;> omega
  have iJ := hasB_iff (a := min E A) (b := min F B) (c := max (E + G) (A + C) - min E A) (d := max (F + H) (B + D) - min F B) (x := X) (y := Y) (by omega) (by omega)
  have iM := hasB_iff (a := max E A) (b := max F B) (c := min (E + G) (A + C) - max E A) (d := min (F + H) (B + D) - max F B) (x := X) (y := Y) (by omega) (by omega)
  have iM' : hasB (max E A) (max F B) (min (E + G) (A + C) - max E A) (min (F + H) (B + D) - max F B) X Y = true ↔ (A ≤ X ∧ X < A + C ∧ B ≤ Y ∧ Y < B + D) ∧ (E ≤ X ∧ X < E + G ∧ F ≤ Y ∧ Y < F + H) := by
    rw [iM, ← and_assoc, meet1, meet1]
    constructor
    · rintro ⟨⟨⟨a1, a2⟩, a3, a4⟩, ⟨a5, a6⟩, a7, a8⟩; exact ⟨⟨a1, a2, a5, a6⟩, a3, a4, a7, a8⟩
    · rintro ⟨⟨a1, a2, a5, a6⟩, a3, a4, a7, a8⟩; exact ⟨⟨⟨a1, a2⟩, a3, a4⟩, ⟨a5, a6⟩, a7, a8⟩
  have iV := hasB_iff (a := A + P) (b := B + Q) (c := C) (d := D) (x := X + P) (y := Y + Q) (by omega) (by omega)
  have cV : (hasB (A + P) (B + Q) C D (X + P) (Y + Q) == hasB A B C D X Y) = true := by
    rw [beq_iff_eq, Bool.eq_iff_iff, iV, iA]
    clear iM iM' iJ iB im q1 q2 q3 q4 q5 q6 iV iA c3
    omega
  have c1 : (min A E == min E A && (min B F == min F B && (max (A + C) (E + G) - min A E == max (E + G) (A + C) - min E A && (max (B + D) (F + H) - min B F == max (F + H) (B + D) - min F B && true)))) = true := by
    clear iM iM' iJ iB im q1 q2 q3 q4 q5 q6 iV iA c3 cV
    simp only [Bool.and_eq_true, beq_iff_eq, and_true]; refine ⟨?_, ?_, ?_, ?_⟩ <;> omega
  have c2 : (A == A && (B == B && (A + C - A == C && (B + D - B == D && true)))) = true := by
    have e1 : A + C - A = C := by omega
    have e2 : B + D - B = D := by omega
    rw [e1, e2]
    simp
  by_cases hm : meetB A B C D E F G H = true
  · simp only [hm, cond_true] at q1 q2 q3
    by_cases hA : hasB A B C D X Y = true
    · have hA' := iA.1 hA
      have cM : (hasB (max E A) (max F B) (min (E + G) (A + C) - max E A) (min (F + H) (B + D) - max F B) X Y == hasB E F G H X Y) = true := by
        rw [beq_iff_eq, Bool.eq_iff_iff, iM', iB]; exact ⟨fun h => h.2, fun h => ⟨hA', h⟩⟩
      have cJ := iJ.2 (by clear iM iM' iB im iV cV c1 c2 c3; omega)
      clear q2 q3 q4 q5 q6
      refine Tr.go_eval q1 ?_
      repeat' (first | exact AllT.nil | refine AllT.cons ?_ ?_)
      all_goals first | rfl | exact yes_of trivial | assumption | (simp only [hA]; rfl)
    · have nM : hasB (max E A) (max F B) (min (E + G) (A + C) - max E A) (min (F + H) (B + D) - max F B) X Y = false := by
        cases hh : hasB (max E A) (max F B) (min (E + G) (A + C) - max E A) (min (F + H) (B + D) - max F B) X Y with
        | false => rfl
        | true => exact absurd (iA.2 (iM'.1 hh).1) hA
      have hA2 : hasB A B C D X Y = false := by simpa using hA
      by_cases hB : hasB E F G H X Y = true
      · have cJ := iJ.2 (by have := iB.1 hB; clear iM iM' iB im iV cV c1 c2 c3; omega)
        clear q1 q2 q4 q5 q6
        refine Tr.go_eval q3 ?_
        repeat' (first | exact AllT.nil | refine AllT.cons ?_ ?_)
        all_goals first | rfl | exact yes_of trivial | assumption | (simp only [hA2]; rfl) | (simp only [hB]; rfl) | (simp only [nM]; rfl)
      · have hB2 : hasB E F G H X Y = false := by simpa using hB
        clear q1 q3 q4 q5 q6
        refine Tr.go_eval q2 ?_
        repeat' (first | exact AllT.nil | refine AllT.cons ?_ ?_)
        all_goals first | rfl | exact yes_of trivial | assumption | (simp only [hA2]; rfl) | (simp only [hB2]; rfl) | (simp only [nM]; rfl)
  · have hm2 : meetB A B C D E F G H = false := by simpa using hm
    by_cases hA : hasB A B C D X Y = true
    · have hA' := iA.1 hA
      have hB2 : hasB E F G H X Y = false := by
        cases hh : hasB E F G H X Y with
        | false => rfl
        | true => exact absurd (im.2 (by have := iB.1 hh; omega)) hm
      have cJ := iJ.2 (by clear iM iM' iB im iV cV c1 c2 c3; omega)
      clear q1 q2 q3 q5 q6
      refine Tr.go_eval q4 ?_
      repeat' (first | exact AllT.nil | refine AllT.cons ?_ ?_)
      all_goals first | rfl | exact yes_of trivial | assumption | (simp only [hA]; rfl) | (simp only [hB2]; rfl) | (simp only [hm2]; rfl)
    · have hA2 : hasB A B C D X Y = false := by simpa using hA
      by_cases hB : hasB E F G H X Y = true
      · have cJ := iJ.2 (by have := iB.1 hB; clear iM iM' iB im iV cV c1 c2 c3; omega)
        clear q1 q2 q3 q4 q5
        refine Tr.go_eval q6 ?_
        repeat' (first | exact AllT.nil | refine AllT.cons ?_ ?_)
        all_goals first | rfl | exact yes_of trivial | assumption | (simp only [hA2]; rfl) | (simp only [hB]; rfl) | (simp only [hm2]; rfl)
      · have hB2 : hasB E F G H X Y = false := by simpa using hB
        clear q1 q2 q3 q4 q6
        refine Tr.go_eval q5 ?_
        repeat' (first | exact AllT.nil | refine AllT.cons ?_ ?_)
        all_goals first | rfl | exact yes_of trivial | assumption | (simp only [hA2]; rfl) | (simp only [hB2]; rfl) | (simp only [hm2]; rfl)
theorem ins_rect {ss : List Shp} {is : List In} (h : InsOk (.agg [.int .i64, .int .i64, .int .i64, .int .i64] :: ss) is) : ∃ (a b c d : Int) (is' : List In), is = .agg [.int .i64 a, .int .i64 b, .int .i64 c, .int .i64 d] :: is' ∧ InsOk ss is' := by
  obtain ⟨i, is', rfl, h1, h2⟩ := ins_cons h
  cases i with
  | agg cs =>
    have h1' : F2 Kd.ok [.int .i64, .int .i64, .int .i64, .int .i64] cs := h1
    cases h1' with
    | cons p1 h1' => cases h1' with
      | cons p2 h1' => cases h1' with
        | cons p3 h1' => cases h1' with
          | cons p4 h1' => cases h1' with
            | nil =>
              obtain ⟨a, rfl, _⟩ := p1
              obtain ⟨b, rfl, _⟩ := p2
              obtain ⟨c, rfl, _⟩ := p3
              obtain ⟨d, rfl, _⟩ := p4
              exact ⟨a, b, c, d, is', rfl, h2⟩
  | _ => cases h1
def rectPointsS : List Shp := [.agg [.int .i64, .int .i64, .int .i64, .int .i64], .agg [.int .i64, .int .i64, .int .i64, .int .i64], .one (.int .i64), .one (.int .i64), .one (.int .i64), .one (.int .i64)]
theorem rectPoints_core : ∀ is, InsOk rectPointsS is → ∃ keep L d, (afun (GK rK3 keep L) d Try.f11 (avsIn 0 rectPointsS is) (blksIn rectPointsS is)).eval = some (Bo true, blksIn rectPointsS is) := by
  intro is0 h0
  obtain ⟨a, b, c, d, is1, rfl, h1⟩ := ins_rect h0
  obtain ⟨e, f, g, h, is2, rfl, h2⟩ := ins_rect h1
  obtain ⟨x, is3, rfl, h3⟩ := ins_i64 h2
  obtain ⟨y, is4, rfl, h4⟩ := ins_i64 h3
  obtain ⟨p, is5, rfl, h5⟩ := ins_i64 h4
  obtain ⟨q, is6, rfl, h6⟩ := ins_i64 h5
  obtain rfl := ins_nil h6
  exact ⟨_, _, 60, rectPoints_true a b c d e f g h x y p q⟩
end Go.Proofs.Ytcpahifgdppkbaa.QAI
