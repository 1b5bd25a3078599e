/- CrosTells: the walk and the plain law. -/
import Derived.Test.YtcpahifgdppkbaaY3
import Derived.Test.YtcpahifgdppkbaaC
set_option linter.unusedVariables false
set_option linter.unusedSimpArgs false
namespace Go.Proofs.Ytcpahifgdppkbaa.QAI
open Go Go.RowKit
set_option maxRecDepth 100000
def c0 (k : Nat) (g : Nat → Int) : Option ABlk := some ⟨2, false, .row 1 k fun i => e1 (g i)⟩
def ctK : Nat → List (Nat × Option TypeId) := fun k => if k = 4 then [(0,none),(1,none),(2,none),(3,none),(4,none),(5,none),(6,none),(7,none),(8,none),(9,none),(21,none)] else []
theorem crosTells_eq {k : Nat} {g : Nat → Int} {line outer least most : Int} {before after : Bool} {items self : Int} {rev : Bool} : (afun (GK KY ctK 4) 60 Try.f19 [I64 line, I64 outer, I64 least, I64 most, Bo before, Bo after, I64 items, I64 self, Bo rev, .c (.sl 0 0 k)] [c0 k g]).eval =
  bif yes (0 + k ≤ k ∧ (1099511627776 : Int) ≠ 0 ∧ (fun i => e1 (g i)) = fun i => e1 (d1 ((fun i => e1 (g i)) i))) then
    bif slf items self != slf items self then
      some (Bo false, [some { t := 2, own := false, c := Cont.row 1 k fun i => [Value.int IntKind.i64 (g i)] }])
    else
      bif
          str (line.tmod 35184372088832) (outer.tmod 35184372088832) (least.tmod 35184372088832)
              (most.tmod 35184372088832) !=
            str (line.tmod 35184372088832) (outer.tmod 35184372088832) (least.tmod 35184372088832)
              (most.tmod 35184372088832) then
        some (Bo false, [some { t := 2, own := false, c := Cont.row 1 k fun i => [Value.int IntKind.i64 (g i)] }])
      else
        bif
            offH hf (line.tmod 35184372088832) (outer.tmod 35184372088832) before after self rev !=
              offH hf2 (line.tmod 35184372088832) (outer.tmod 35184372088832) before after self rev then
          some (Bo false, [some { t := 2, own := false, c := Cont.row 1 k fun i => [Value.int IntKind.i64 (g i)] }])
        else
          bif
              yes
                (0 + m60 k ≤ m60 k ∧
                  m60 k < 2 ^ 40 ∧
                    rw1 (fun j => (d1 ((fun i => e1 (g i)) (0 + j))).tmod 1099511627776) (m60 k) = fun i =>
                      e1 (d1 (rw1 (fun j => (d1 ((fun i => e1 (g i)) (0 + j))).tmod 1099511627776) (m60 k) i))) then
            bif
                yes
                  (0 + m60 k ≤ m60 k ∧
                    m60 k < 2 ^ 40 ∧
                      rw1 (fun j => (d1 ((fun i => e1 (g i)) (0 + j))).tmod 1099511627776) (m60 k) = fun i =>
                        e1 (d1 (rw1 (fun j => (d1 ((fun i => e1 (g i)) (0 + j))).tmod 1099511627776) (m60 k) i))) then
              bif
                  yes
                    (0 + m60 k ≤ m60 k ∧
                      0 + m60 k ≤ m60 k ∧
                        m60 k < 2 ^ 40 ∧
                          (rw1
                                (ln
                                  (fun i =>
                                    d1 (rw1 (fun j => (d1 ((fun i => e1 (g i)) (0 + j))).tmod 1099511627776) (m60 k) i))
                                  0 (line.tmod 35184372088832) rev)
                                (m60 k) =
                              fun i =>
                              e1
                                (d1
                                  (rw1
                                    (ln
                                      (fun i =>
                                        d1
                                          (rw1 (fun j => (d1 ((fun i => e1 (g i)) (0 + j))).tmod 1099511627776) (m60 k)
                                            i))
                                      0 (line.tmod 35184372088832) rev)
                                    (m60 k) i))) ∧
                            (rw1
                                  (ln
                                    (fun i =>
                                      d1
                                        (rw1 (fun j => (d1 ((fun i => e1 (g i)) (0 + j))).tmod 1099511627776) (m60 k)
                                          i))
                                    0 (line.tmod 35184372088832) rev)
                                  (m60 k) =
                                fun i =>
                                e1
                                  (d1
                                    (rw1
                                      (ln
                                        (fun i =>
                                          d1
                                            (rw1 (fun j => (d1 ((fun i => e1 (g i)) (0 + j))).tmod 1099511627776)
                                              (m60 k) i))
                                        0 (line.tmod 35184372088832) rev)
                                      (m60 k) i))) ∧
                              m60 k = m60 k ∧
                                ∀ (i : Nat),
                                  i < m60 k →
                                    d1
                                        (rw1
                                          (ln
                                            (fun i =>
                                              d1
                                                (rw1 (fun j => (d1 ((fun i => e1 (g i)) (0 + j))).tmod 1099511627776)
                                                  (m60 k) i))
                                            0 (line.tmod 35184372088832) rev)
                                          (m60 k) (0 + i)) =
                                      d1
                                        (rw1
                                          (ln
                                            (fun i =>
                                              d1
                                                (rw1 (fun j => (d1 ((fun i => e1 (g i)) (0 + j))).tmod 1099511627776)
                                                  (m60 k) i))
                                            0 (line.tmod 35184372088832) rev)
                                          (m60 k) (0 + i))) then
                bif slf (and64 items 3) ((and64 self 255).tmod 5) != slf (and64 items 3) ((and64 self 255).tmod 5) then
                  some
                    (Bo false,
                      [some { t := 2, own := false, c := Cont.row 1 k fun i => [Value.int IntKind.i64 (g i)] }])
                else
                  bif
                      str (and64 (line.tmod 35184372088832) 255) (and64 (outer.tmod 35184372088832) 255)
                          (least.tmod 35184372088832) (most.tmod 35184372088832) !=
                        str (and64 (line.tmod 35184372088832) 255) (and64 (outer.tmod 35184372088832) 255)
                          (least.tmod 35184372088832) (most.tmod 35184372088832) then
                    some
                      (Bo false,
                        [some { t := 2, own := false, c := Cont.row 1 k fun i => [Value.int IntKind.i64 (g i)] }])
                  else
                    bif
                        offH hf (and64 (line.tmod 35184372088832) 255) (and64 (outer.tmod 35184372088832) 255) before
                            after ((and64 self 255).tmod 5) rev !=
                          offH hf2 (and64 (line.tmod 35184372088832) 255) (and64 (outer.tmod 35184372088832) 255) before
                            after ((and64 self 255).tmod 5) rev then
                      some
                        (Bo false,
                          [some { t := 2, own := false, c := Cont.row 1 k fun i => [Value.int IntKind.i64 (g i)] }])
                    else
                      bif
                          yes
                            (0 + m60 k ≤ m60 k ∧
                              m60 k < 2 ^ 40 ∧
                                rw1 (fun j => (d1 ((fun i => e1 (g i)) (0 + j))).tmod 1099511627776) (m60 k) = fun i =>
                                  e1
                                    (d1
                                      (rw1 (fun j => (d1 ((fun i => e1 (g i)) (0 + j))).tmod 1099511627776) (m60 k)
                                        i))) then
                        bif
                            yes
                              (0 + m60 k ≤ m60 k ∧
                                m60 k < 2 ^ 40 ∧
                                  rw1 (fun j => (d1 ((fun i => e1 (g i)) (0 + j))).tmod 1099511627776) (m60 k) =
                                    fun i =>
                                    e1
                                      (d1
                                        (rw1 (fun j => (d1 ((fun i => e1 (g i)) (0 + j))).tmod 1099511627776) (m60 k)
                                          i))) then
                          bif
                              yes
                                (0 + m60 k ≤ m60 k ∧
                                  0 + m60 k ≤ m60 k ∧
                                    m60 k < 2 ^ 40 ∧
                                      (rw1
                                            (ln
                                              (fun i =>
                                                d1
                                                  (rw1 (fun j => (d1 ((fun i => e1 (g i)) (0 + j))).tmod 1099511627776)
                                                    (m60 k) i))
                                              0 (and64 (line.tmod 35184372088832) 255) rev)
                                            (m60 k) =
                                          fun i =>
                                          e1
                                            (d1
                                              (rw1
                                                (ln
                                                  (fun i =>
                                                    d1
                                                      (rw1
                                                        (fun j => (d1 ((fun i => e1 (g i)) (0 + j))).tmod 1099511627776)
                                                        (m60 k) i))
                                                  0 (and64 (line.tmod 35184372088832) 255) rev)
                                                (m60 k) i))) ∧
                                        (rw1
                                              (ln
                                                (fun i =>
                                                  d1
                                                    (rw1
                                                      (fun j => (d1 ((fun i => e1 (g i)) (0 + j))).tmod 1099511627776)
                                                      (m60 k) i))
                                                0 (and64 (line.tmod 35184372088832) 255) rev)
                                              (m60 k) =
                                            fun i =>
                                            e1
                                              (d1
                                                (rw1
                                                  (ln
                                                    (fun i =>
                                                      d1
                                                        (rw1
                                                          (fun j =>
                                                            (d1 ((fun i => e1 (g i)) (0 + j))).tmod 1099511627776)
                                                          (m60 k) i))
                                                    0 (and64 (line.tmod 35184372088832) 255) rev)
                                                  (m60 k) i))) ∧
                                          m60 k = m60 k ∧
                                            ∀ (i : Nat),
                                              i < m60 k →
                                                d1
                                                    (rw1
                                                      (ln
                                                        (fun i =>
                                                          d1
                                                            (rw1
                                                              (fun j =>
                                                                (d1 ((fun i => e1 (g i)) (0 + j))).tmod 1099511627776)
                                                              (m60 k) i))
                                                        0 (and64 (line.tmod 35184372088832) 255) rev)
                                                      (m60 k) (0 + i)) =
                                                  d1
                                                    (rw1
                                                      (ln
                                                        (fun i =>
                                                          d1
                                                            (rw1
                                                              (fun j =>
                                                                (d1 ((fun i => e1 (g i)) (0 + j))).tmod 1099511627776)
                                                              (m60 k) i))
                                                        0 (and64 (line.tmod 35184372088832) 255) rev)
                                                      (m60 k) (0 + i))) then
                            some
                              (Bo true,
                                [some
                                    { t := 2, own := false, c := Cont.row 1 k fun i => [Value.int IntKind.i64 (g i)] }])
                          else none
                        else none
                      else none
              else none
            else none
          else none
  else none := by kernel_rfl
theorem bif_yes {α : Type} {p : Prop} {a b : α} (h : p) : (bif yes p then a else b) = a := by rw [yes_of h]; rfl
theorem bif_ne {α : Type} {x y : Int} {a b : α} (h : x = y) : (bif x != y then a else b) = b := by subst h; simp
theorem m60_le (k : Nat) : m60 k ≤ 60 := by unfold m60; split <;> omega
theorem crosTells_true (k : Nat) (g : Nat → Int) (line outer least most : Int) (before after : Bool) (items self : Int) (rev : Bool) :
    (afun (GK KY ctK 4) 60 Try.f19 [I64 line, I64 outer, I64 least, I64 most, Bo before, Bo after, I64 items, I64 self, Bo rev, .c (.sl 0 0 k)] [c0 k g]).eval = some (Bo true, [c0 k g]) := by
  rw [crosTells_eq]
  have hm := m60_le k
  repeat first
    | (refine (bif_yes ?_).trans ?_; (first | exact ⟨by omega, by decide, rfl⟩ | exact ⟨by omega, by omega, rfl⟩ | exact ⟨by omega, by omega, by omega, rfl, rfl, rfl, fun _ _ => rfl⟩))
    | (refine (bif_ne ?_).trans ?_; (first | rfl | exact off_eq _ _ _ _ _ _))
  rfl
def crosTellsS : List Shp := [.one (.int .i64), .one (.int .i64), .one (.int .i64), .one (.int .i64), .one .bool, .one .bool, .one (.int .i64), .one (.int .i64), .one .bool, .rows 2 [.int .i64]]
theorem crosTells_core : ∀ is, InsOk crosTellsS is → ∃ keep L d, (afun (GK KY keep L) d Try.f19 (avsIn 0 crosTellsS is) (blksIn crosTellsS is)).eval = some (Bo true, blksIn crosTellsS is) := by
  intro is0 h0
  obtain ⟨v0, is1, rfl, h1⟩ := ins_i64 h0
  obtain ⟨v1, is2, rfl, h2⟩ := ins_i64 h1
  obtain ⟨v2, is3, rfl, h3⟩ := ins_i64 h2
  obtain ⟨v3, is4, rfl, h4⟩ := ins_i64 h3
  obtain ⟨v4, is5, rfl, h5⟩ := ins_bool h4
  obtain ⟨v5, is6, rfl, h6⟩ := ins_bool h5
  obtain ⟨v6, is7, rfl, h7⟩ := ins_i64 h6
  obtain ⟨v7, is8, rfl, h8⟩ := ins_i64 h7
  obtain ⟨v8, is9, rfl, h9⟩ := ins_bool h8
  obtain ⟨k9, v9, is10, rfl, h10, l9⟩ := ins_ints h9
  obtain rfl := ins_nil h10
  exact ⟨ctK, 4, 60, crosTells_true k9 v9 v0 v1 v2 v3 v4 v5 v6 v7 v8⟩
end Go.Proofs.Ytcpahifgdppkbaa.QAI
