/- StakTells: the walk and the plain law. -/
import Derived.Test.YtcpahifgdppkbaaZ2
import Derived.Test.YtcpahifgdppkbaaC
set_option linter.unusedVariables false
set_option linter.unusedSimpArgs false
namespace Go.Proofs.Ytcpahifgdppkbaa.QAI
open Go Go.RowKit
set_option maxRecDepth 100000
theorem ins_boxes {ss : List Shp} {is : List In} (h : InsOk (.rows 61 [.int .i64, .int .i64, .int .i64, .int .i64, .int .i64, .bool] :: ss) is) :
    ∃ (k : Nat) (g : Nat → Bx) (is' : List In), is = .rows k (fun i => encX (g i)) :: is' ∧ InsOk ss is' ∧ k ≤ maxLen := by
  obtain ⟨i, is', rfl, h1, h2⟩ := ins_cons h
  cases i with
  | rows k f =>
    obtain ⟨hk, h1⟩ := h1
    have : ∀ i, ∃ b, f i = encX b := fun i => by
      have hl := (h1 i).length
      obtain ⟨b0, hb0, a0, rfl, _⟩ := (h1 i).get 0 _ rfl
      obtain ⟨b1, hb1, a1, rfl, _⟩ := (h1 i).get 1 _ rfl
      obtain ⟨b2, hb2, a2, rfl, _⟩ := (h1 i).get 2 _ rfl
      obtain ⟨b3, hb3, a3, rfl, _⟩ := (h1 i).get 3 _ rfl
      obtain ⟨b4, hb4, a4, rfl, _⟩ := (h1 i).get 4 _ rfl
      obtain ⟨b5, hb5, a5, rfl⟩ := (h1 i).get 5 _ rfl
      match hf : f i, hl with
      | [x0, x1, x2, x3, x4, x5], _ =>
        rw [hf] at hb0 hb1 hb2 hb3 hb4 hb5
        simp only [List.getElem?_cons_zero, List.getElem?_cons_succ, Option.some.injEq] at hb0 hb1 hb2 hb3 hb4 hb5
        subst hb0; subst hb1; subst hb2; subst hb3; subst hb4; subst hb5
        exact ⟨⟨a0, a1, a2, a3, a4, a5⟩, rfl⟩
    refine ⟨k, fun i => (this i).choose, is', ?_, h2, hk⟩
    congr 2
    funext i
    exact (this i).choose_spec
  | _ => cases h1
theorem bif_yes {α : Type} {p : Prop} {a b : α} (h : p) : (bif yes p then a else b) = a := by rw [yes_of h]; rfl
theorem bif_tr {α : Type} {p : Bool} {a b : α} (h : p = true) : (bif p then a else b) = a := by rw [h]; rfl
theorem bif_fa {α : Type} {p : Bool} {a b : α} (h : p = false) : (bif p then a else b) = b := by rw [h]; rfl
theorem m40_le (k : Nat) : m40 k ≤ 40 := by unfold m40; split <;> omega
theorem stakTells_eq {k : Nat} {g : Nat → Bx} {top bottom : Bool} : (afun (GK KS (fun _ => []) 0) 60 Try.f14 [.c (.sl 0 0 k), Bo top, Bo bottom] [rowX false k g]).eval =
  bif yes (0 + k ≤ k ∧ (fun i => encX (g i)) = fun i => encX (decX ((fun i => encX (g i)) i))) then
    bif
        yes
          (0 + m40 k ≤ m40 k ∧
            m40 k < 2 ^ 40 ∧
              rwX (fun j => tmX (decX ((fun i => encX (g i)) (0 + j)))) (m40 k) = fun i =>
                encX (decX (rwX (fun j => tmX (decX ((fun i => encX (g i)) (0 + j)))) (m40 k) i))) then
      bif
          yes
            (0 + m40 k ≤ m40 k ∧
              m40 k < 2 ^ 40 ∧
                rwX (fun j => tmX (decX ((fun i => encX (g i)) (0 + j)))) (m40 k) = fun i =>
                  encX (decX (rwX (fun j => tmX (decX ((fun i => encX (g i)) (0 + j)))) (m40 k) i))) then
        bif
            yes
              (0 + m40 k ≤ m40 k ∧
                0 + m40 k ≤ m40 k ∧
                  m40 k < 2 ^ 40 ∧
                    (rw1
                          (ats
                            (fun j => decX (rwX (fun j => tmX (decX ((fun i => encX (g i)) (0 + j)))) (m40 k) (0 + j)))
                            top)
                          (m40 k) =
                        fun i =>
                        e1
                          (d1
                            (rw1
                              (ats
                                (fun j =>
                                  decX (rwX (fun j => tmX (decX ((fun i => encX (g i)) (0 + j)))) (m40 k) (0 + j)))
                                top)
                              (m40 k) i))) ∧
                      (rw1
                            (ats
                              (fun j =>
                                decX (rwX (fun j => tmX (decX ((fun i => encX (g i)) (0 + j)))) (m40 k) (0 + j)))
                              top)
                            (m40 k) =
                          fun i =>
                          e1
                            (d1
                              (rw1
                                (ats
                                  (fun j =>
                                    decX (rwX (fun j => tmX (decX ((fun i => encX (g i)) (0 + j)))) (m40 k) (0 + j)))
                                  top)
                                (m40 k) i))) ∧
                        m40 k = m40 k ∧
                          ∀ (i : Nat),
                            i < m40 k →
                              d1
                                  (rw1
                                    (ats
                                      (fun j =>
                                        decX
                                          (rwX (fun j => tmX (decX ((fun i => encX (g i)) (0 + j)))) (m40 k) (0 + j)))
                                      top)
                                    (m40 k) (0 + i)) =
                                d1
                                  (rw1
                                    (ats
                                      (fun j =>
                                        decX
                                          (rwX (fun j => tmX (decX ((fun i => encX (g i)) (0 + j)))) (m40 k) (0 + j)))
                                      top)
                                    (m40 k) (0 + i))) then
          bif
              ((run (fun j => decX (rwX (fun j => tmX (decX ((fun i => encX (g i)) (0 + j)))) (m40 k) (0 + j))) top
                          (m40 k)).fin
                      bottom).tp ==
                  ((run (fun j => decX (rwX (fun j => tmX (decX ((fun i => encX (g i)) (0 + j)))) (m40 k) (0 + j))) top
                          (m40 k)).fin
                      bottom).tp &&
                (((run (fun j => decX (rwX (fun j => tmX (decX ((fun i => encX (g i)) (0 + j)))) (m40 k) (0 + j))) top
                            (m40 k)).fin
                        bottom).tn ==
                    ((run (fun j => decX (rwX (fun j => tmX (decX ((fun i => encX (g i)) (0 + j)))) (m40 k) (0 + j)))
                            top (m40 k)).fin
                        bottom).tn &&
                  (((run (fun j => decX (rwX (fun j => tmX (decX ((fun i => encX (g i)) (0 + j)))) (m40 k) (0 + j))) top
                              (m40 k)).fin
                          bottom).bp ==
                      ((run (fun j => decX (rwX (fun j => tmX (decX ((fun i => encX (g i)) (0 + j)))) (m40 k) (0 + j)))
                              top (m40 k)).fin
                          bottom).bp &&
                    (((run (fun j => decX (rwX (fun j => tmX (decX ((fun i => encX (g i)) (0 + j)))) (m40 k) (0 + j)))
                                top (m40 k)).fin
                            bottom).bn ==
                        ((run
                                (fun j =>
                                  decX (rwX (fun j => tmX (decX ((fun i => encX (g i)) (0 + j)))) (m40 k) (0 + j)))
                                top (m40 k)).fin
                            bottom).bn &&
                      (((run (fun j => decX (rwX (fun j => tmX (decX ((fun i => encX (g i)) (0 + j)))) (m40 k) (0 + j)))
                                  top (m40 k)).fin
                              bottom).th ==
                          ((run
                                  (fun j =>
                                    decX (rwX (fun j => tmX (decX ((fun i => encX (g i)) (0 + j)))) (m40 k) (0 + j)))
                                  top (m40 k)).fin
                              bottom).th &&
                        (((run
                                    (fun j =>
                                      decX (rwX (fun j => tmX (decX ((fun i => encX (g i)) (0 + j)))) (m40 k) (0 + j)))
                                    top (m40 k)).fin
                                bottom).h ==
                            ((run
                                    (fun j =>
                                      decX (rwX (fun j => tmX (decX ((fun i => encX (g i)) (0 + j)))) (m40 k) (0 + j)))
                                    top (m40 k)).fin
                                bottom).h &&
                          true))))) then
            some
              (Bo true,
                [some
                    { t := 61, own := false,
                      c :=
                        Cont.row 6 k fun i =>
                          [Value.int IntKind.i64 (g i).h, Value.int IntKind.i64 (g i).tp,
                            Value.int IntKind.i64 (g i).tn, Value.int IntKind.i64 (g i).bp,
                            Value.int IntKind.i64 (g i).bn, Value.bool (g i).th] }])
          else
            some
              (Bo false,
                [some
                    { t := 61, own := false,
                      c :=
                        Cont.row 6 k fun i =>
                          [Value.int IntKind.i64 (g i).h, Value.int IntKind.i64 (g i).tp,
                            Value.int IntKind.i64 (g i).tn, Value.int IntKind.i64 (g i).bp,
                            Value.int IntKind.i64 (g i).bn, Value.bool (g i).th] }])
        else none
      else none
    else none
  else none := by kernel_rfl
theorem stakTells_true (k : Nat) (g : Nat → Bx) (top bottom : Bool) :
    (afun (GK KS (fun _ => []) 0) 60 Try.f14 [.c (.sl 0 0 k), Bo top, Bo bottom] [rowX false k g]).eval = some (Bo true, [rowX false k g]) := by
  rw [stakTells_eq]
  have hm := m40_le k
  repeat first
    | (refine (bif_yes ?_).trans ?_; (first | exact ⟨by omega, rfl⟩ | exact ⟨by omega, by omega, rfl⟩ | exact ⟨by omega, by omega, by omega, rfl, rfl, rfl, fun _ _ => rfl⟩))
    | (refine (bif_tr (by simp only [beq_self_eq_true, Bool.and_self, Bool.and_true])).trans ?_)
  rfl
def stakTellsS : List Shp := [.rows 61 [.int .i64, .int .i64, .int .i64, .int .i64, .int .i64, .bool], .one .bool, .one .bool]
theorem stakTells_core : ∀ is, InsOk stakTellsS is → ∃ keep L d, (afun (GK KS keep L) d Try.f14 (avsIn 0 stakTellsS is) (blksIn stakTellsS is)).eval = some (Bo true, blksIn stakTellsS is) := by
  intro is0 h0
  obtain ⟨k, g, is1, rfl, h1, _⟩ := ins_boxes h0
  obtain ⟨v1, is2, rfl, h2⟩ := ins_bool h1
  obtain ⟨v2, is3, rfl, h3⟩ := ins_bool h2
  obtain rfl := ins_nil h3
  exact ⟨fun _ => [], 0, 60, stakTells_true k g v1 v2⟩
end Go.Proofs.Ytcpahifgdppkbaa.QAI
