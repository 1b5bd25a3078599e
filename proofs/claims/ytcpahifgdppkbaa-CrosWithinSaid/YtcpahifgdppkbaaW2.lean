/- CrosWithin: the whole, the plain law. -/
import Derived.Test.YtcpahifgdppkbaaW1
set_option linter.unusedVariables false
set_option linter.unusedSimpArgs false
namespace Go.Proofs.Ytcpahifgdppkbaa.QAI
open Go Go.RowKit
set_option maxRecDepth 100000
def oW (b : Bool) (k : Nat) (g : Nat → Int) : Option (AV × AHeap) := some (Bo b, [c0 k g])
def cwO (line outer : Int) : Int := w64 ((u64 outer).tmod (u64 (w64 (and64 line 65535 + 1))))
noncomputable def cwTail (k : Nat) (g : Nat → Int) : Option (AV × AHeap) :=
  bif yes (0 + k ≤ k ∧ (1099511627776 : Int) ≠ 0 ∧ (fun i => e1 (g i)) = fun i => e1 (d1 ((fun i => e1 (g i)) i))) then
  bif yes (0 + m60 k ≤ m60 k ∧ m60 k < 2 ^ 40 ∧ rw1 (fun j => (d1 ((fun i => e1 (g i)) (0 + j))).tmod 1099511627776) (m60 k) = fun i => e1 (d1 (rw1 (fun j => (d1 ((fun i => e1 (g i)) (0 + j))).tmod 1099511627776) (m60 k) i))) then
  bif ((m60 k : Int) != (m60 k : Int)) then oW false k g else
  bif yes (was 46 (bodyOf Try.f20 0) (cwS k g (m60 k) (fW g (m60 k)) (pF (fW g (m60 k)) (m60 k) 0 false) 0 0)) then
  bif yes (0 + m60 k ≤ m60 k ∧ m60 k < 2 ^ 40 ∧ (fun i => e1 (fW g (m60 k) i)) = fun i => e1 (d1 ((fun i => e1 (fW g (m60 k) i)) i))) then
  bif ((m60 k : Int) != (m60 k : Int)) then oW false k g else
  bif yes (was 43 (bodyOf Try.f20 1) (cwS2 k g (m60 k) (fW g (m60 k)) (pF (fW g (m60 k)) (m60 k) 0 false) (pF (fW g (m60 k)) (m60 k) (atS (fW g (m60 k)) 0 (m60 k)) true) (atS (fW g (m60 k)) 0 (m60 k)) 0)) then oW true k g
  else none else none else none else none else none
noncomputable def cwX (before after : Bool) (s a b : Int) (k : Nat) (g : Nat → Int) : Option (AV × AHeap) :=
  bif before then bif a != b then oW false k g else cwTail k g
  else bif after then bif a != b then oW false k g else cwTail k g
  else bif s == 2 then bif a != b then oW false k g else cwTail k g
  else cwTail k g
noncomputable def cwY (A O : Int) (before after : Bool) (s a b : Int) (k : Nat) (g : Nat → Int) : Option (AV × AHeap) :=
  bif decide (a < 0) then oW false k g else
  bif decide (w64 (a + O) > A) then oW false k g else
  bif decide (b < 0) then oW false k g else
  bif decide (w64 (b + O) > A) then oW false k g else
  bif !before then bif !after then bif s != 2 then bif w64 (w64 (a + b) + O) != A then oW false k g else cwX before after s a b k g
  else cwX before after s a b k g else cwX before after s a b k g else cwX before after s a b k g
theorem crosWithin_eq {L k : Nat} {g : Nat → Int} {line outer : Int} {before after : Bool} {self : Int} : (lfun (cwG L) (cwT k g (m60 k)) 60 Try.f20 [I64 line, I64 outer, Bo before, Bo after, I64 self, .c (.sl 0 0 k)] [c0 k g]).eval =
  bif decide (u64 (w64 (and64 line 65535 + 1)) ≠ 0) then
    cwY (and64 line 65535) (cwO line outer) before after (and64 self 3) (offH hf (and64 line 65535) (cwO line outer) before after (and64 self 3) false) (offH hf (and64 line 65535) (cwO line outer) before after (and64 self 3) true) k g
  else none := by kernel_rfl
theorem cwTail_eq (k : Nat) (g : Nat → Int) : cwTail k g = oW true k g := by
  have hm := m60_le k
  unfold cwTail
  refine (bif_yes ⟨by omega, by decide, rfl⟩).trans ((bif_yes ⟨by omega, by omega, rfl⟩).trans ((bif_ne rfl).trans ((bif_yes ⟨rfl, rfl, rfl⟩).trans ((bif_yes ⟨by omega, by omega, rfl⟩).trans ((bif_ne rfl).trans (bif_yes ⟨rfl, rfl, rfl⟩))))))
theorem off_law {A O : Int} (h1 : 0 ≤ O) (h2 : O ≤ A) (h3 : A < 65536) (p q : Bool) (s : Int) :
    (∀ r, 0 ≤ offH hf A O p q s r ∧ offH hf A O p q s r + O ≤ A) ∧
    ((p || q || s == 2) = true → offH hf A O p q s false = offH hf A O p q s true) ∧
    ((p || q || s == 2) = false → offH hf A O p q s false + offH hf A O p q s true + O = A) := by
  have e1 : w64 (A - O) = A - O := w64_id (by omega) (by omega)
  have e2 : hf (A - O) = (A - O) / 2 := fdiv2 _
  unfold offH
  rw [e1, e2]
  by_cases hs : s = 2
  · subst hs
    cases p <;> cases q <;> by_cases hf0 : A - O ≤ 0 <;> simp [hf0] <;> omega
  · have hs' : (s == 2) = false := by simp [hs]
    rw [hs']
    cases hs1 : (s == 1) <;> cases p <;> cases q <;> by_cases hf0 : A - O ≤ 0 <;> simp [hf0] <;> omega
theorem crosWithin_true (k : Nat) (g : Nat → Int) (line outer : Int) (before after : Bool) (self : Int) :
    (afun (cwG (m60 k + 1)) 60 Try.f20 [I64 line, I64 outer, Bo before, Bo after, I64 self, .c (.sl 0 0 k)] [c0 k g]).eval = some (Bo true, [c0 k g]) := by
  have hm := m60_le k
  have hl : LoopsOk (cwG (m60 k + 1)) 1 (cwT k g (m60 k)) := byReg_ok (told_ok (cw_loop hm (Nat.lt_succ_self _))) (told_ok (cw_loop2 hm (Nat.lt_succ_self _)))
  refine lfun_ok (h := [c0 k g]) hl ?_
  rw [crosWithin_eq]
  have hA : 0 ≤ and64 line 65535 ∧ and64 line 65535 < 65536 := by
    rw [and_mask 16 (by decide) line 65535 rfl]
    omega
  have hO : 0 ≤ cwO line outer ∧ cwO line outer ≤ and64 line 65535 := by
    unfold cwO
    rw [w64_id (x := and64 line 65535 + 1) (by omega) (by omega)]
    have e1 : u64 (and64 line 65535 + 1) = and64 line 65535 + 1 := by unfold u64; rw [IntKind.wrap_u64]; omega
    have e2 : 0 ≤ u64 outer := by unfold u64; rw [IntKind.wrap_u64]; omega
    rw [e1, tmod_nn e2]
    have h1 : 0 ≤ u64 outer % (and64 line 65535 + 1) := Int.emod_nonneg _ (by omega)
    have h2 : u64 outer % (and64 line 65535 + 1) < and64 line 65535 + 1 := Int.emod_lt_of_pos _ (by omega)
    rw [w64_id (by omega) (by omega)]
    omega
  have hn : decide (u64 (w64 (and64 line 65535 + 1)) ≠ 0) = true := by
    rw [w64_id (x := and64 line 65535 + 1) (by omega) (by omega)]
    refine decide_eq_true ?_
    unfold u64; rw [IntKind.wrap_u64]; omega
  rw [hn, cond_true]
  revert hA hO
  generalize cwO line outer = O
  generalize and64 line 65535 = A
  generalize and64 self 3 = s
  intro hA hO
  obtain ⟨hb, heq, hsum⟩ := off_law hO.1 hO.2 hA.2 before after s
  obtain ⟨a0, a1⟩ := hb false
  obtain ⟨b0, b1⟩ := hb true
  revert a0 a1 b0 b1 heq hsum
  generalize offH hf A O before after s false = a
  generalize offH hf A O before after s true = b
  intro heq hsum a0 a1 b0 b1
  have w1 : w64 (a + O) = a + O := w64_id (by omega) (by omega)
  have w2 : w64 (b + O) = b + O := w64_id (by omega) (by omega)
  have w3 : w64 (w64 (a + b) + O) = a + b + O := by rw [w64_id (x := a + b) (by omega) (by omega), w64_id (by omega) (by omega)]
  have c1 : decide (a < 0) = false := decide_eq_false (by omega)
  have c2 : decide (a + O > A) = false := decide_eq_false (by omega)
  have c3 : decide (b < 0) = false := decide_eq_false (by omega)
  have c4 : decide (b + O > A) = false := decide_eq_false (by omega)
  have hX : cwX before after s a b k g = oW true k g := by
    unfold cwX
    rw [cwTail_eq]
    cases before
    · cases after
      · cases hs : (s == 2)
        · rfl
        · have : a = b := heq (by simp [hs])
          subst this; simp
      · have : a = b := heq (by simp)
        subst this; simp
    · have : a = b := heq (by simp)
      subst this; simp
  unfold cwY
  simp only [w1, w2, w3, c1, c2, c3, c4, cond_false, hX]
  cases before
  · cases after
    · cases hs : (s == 2)
      · have h := hsum (by simp [hs])
        have h' : (a + b + O != A) = false := by rw [h]; simp
        rw [h']
        simp [bne, hs]
        rfl
      · simp [bne, hs]
        rfl
    · rfl
  · rfl
def crosWithinS : List Shp := [.one (.int .i64), .one (.int .i64), .one .bool, .one .bool, .one (.int .i64), .rows 2 [.int .i64]]
theorem crosWithin_core : ∀ is, InsOk crosWithinS is → ∃ keep L d, (afun (GK KY keep L) d Try.f20 (avsIn 0 crosWithinS is) (blksIn crosWithinS is)).eval = some (Bo true, blksIn crosWithinS is) := by
  intro is0 h0
  obtain ⟨v0, is1, rfl, h1⟩ := ins_i64 h0
  obtain ⟨v1, is2, rfl, h2⟩ := ins_i64 h1
  obtain ⟨v2, is3, rfl, h3⟩ := ins_bool h2
  obtain ⟨v3, is4, rfl, h4⟩ := ins_bool h3
  obtain ⟨v4, is5, rfl, h5⟩ := ins_i64 h4
  obtain ⟨k5, v5, is6, rfl, h6, l5⟩ := ins_ints h5
  obtain rfl := ins_nil h6
  exact ⟨_, _, _, crosWithin_true k5 v5 v0 v1 v2 v3 v4⟩
end Go.Proofs.Ytcpahifgdppkbaa.QAI
