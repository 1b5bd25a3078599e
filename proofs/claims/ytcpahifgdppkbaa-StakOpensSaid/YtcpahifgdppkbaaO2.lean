/- StakOpens: the whole, the plain law. -/
import Derived.Test.YtcpahifgdppkbaaO1
set_option linter.unusedVariables false
set_option linter.unusedSimpArgs false
namespace Go.Proofs.Ytcpahifgdppkbaa.QAI
open Go Go.RowKit
set_option maxRecDepth 100000
theorem stakOpens_eq {L k : Nat} {g : Nat → Bx} {bottom : Bool} : (lfun (soG L) (soT k g bottom (m40 k)) 60 Try.f12 [.c (.sl 0 0 k), Bo bottom] [rowX false k g]).eval = 
  bif yes (0 + k ≤ k ∧ (fun i => encX (g i)) = fun i => encX (decX ((fun i => encX (g i)) i))) then 
  bif yes (was 54 (bodyOf Try.f12 0) (soS k g (m40 k) (zh (f0 g (m40 k)) 0) bottom 0)) then 
  bif (m40 k : Int) == 0 then oX true k g
  else 
  bif yes (0 + m40 k ≤ m40 k ∧ m40 k < 2 ^ 40 ∧ (fun i => encX (gO g (m40 k) i)) = fun i => encX (decX ((fun i => encX (gO g (m40 k) i)) i))) then 
  bif yes (0 + m40 k ≤ m40 k ∧ m40 k < 2 ^ 40 ∧ (fun i => encX (gO g (m40 k) i)) = fun i => encX (decX ((fun i => encX (gO g (m40 k) i)) i))) then 
  bif (m40 k : Int) != (m40 k : Int) then oX false k g
  else 
  bif (m40 k : Int) != (m40 k : Int) then oX false k g
  else 
  bif yes (was 48 (bodyOf Try.f12 1) (soS2 k g (m40 k) (gO g (m40 k)) (yO g (m40 k) true) (yO g (m40 k) false) (zO g (m40 k) true bottom) (zO g (m40 k) false bottom) (w64 ((zO g (m40 k) true bottom).tp + (zO g (m40 k) true bottom).tn)) 0)) then 
  bif yes (0 + m40 k ≤ m40 k ∧ m40 k < 2 ^ 40 ∧ (fun i => encX (gO g (m40 k) i)) = fun i => encX (decX ((fun i => encX (gO g (m40 k) i)) i))) then 
  bif yes (0 + m40 k ≤ m40 k ∧ m40 k < 2 ^ 40 ∧ (fun i => encX (gO g (m40 k) i)) = fun i => encX (decX ((fun i => encX (gO g (m40 k) i)) i))) then 
  bif decide (0 ≤ w64 ((m40 k : Int) - 1)) then 
  bif decide (w64 ((m40 k : Int) - 1) < (m40 k : Int)) then 
  bif decide (0 + (w64 ((m40 k : Int) - 1)).toNat < m40 k) then 
  bif decide (0 ≤ w64 ((m40 k : Int) - 1)) then 
  bif decide (w64 ((m40 k : Int) - 1) < (m40 k : Int)) then 
  bif decide (0 + (w64 ((m40 k : Int) - 1)).toNat < m40 k) then 
  bif decide (0 < (m40 k : Int)) then 
  bif decide (0 + Int.toNat 0 < m40 k) then 
  bif (zO g (m40 k) true bottom).tp == (gO g (m40 k) (0 + Int.toNat 0)).tp && ((zO g (m40 k) true bottom).tn == (gO g (m40 k) (0 + Int.toNat 0)).tn && true) then 
  bif (zO g (m40 k) false bottom).tp == 0 && ((zO g (m40 k) false bottom).tn == 0 && true) then 
  bif decide (0 ≤ w64 ((m40 k : Int) - 1)) then 
  bif decide (w64 ((m40 k : Int) - 1) < (m40 k : Int)) then 
  bif decide (0 + (w64 ((m40 k : Int) - 1)).toNat < m40 k) then 
  bif (zO g (m40 k) true true).bp == (gO g (m40 k) (0 + (w64 ((m40 k : Int) - 1)).toNat)).bp && ((zO g (m40 k) true true).bn == (gO g (m40 k) (0 + (w64 ((m40 k : Int) - 1)).toNat)).bn && true) then 
  bif (zO g (m40 k) true false).bp == 0 && ((zO g (m40 k) true false).bn == 0 && true) then 
  bif (zO g (m40 k) true true).h == mxI 0 (w64 (yO g (m40 k) true (0 + (w64 ((m40 k : Int) - 1)).toNat) + (gO g (m40 k) (0 + (w64 ((m40 k : Int) - 1)).toNat)).h)) then 
  bif (zO g (m40 k) true false).h == mxI 0 (w64 (w64 (w64 (yO g (m40 k) true (0 + (w64 ((m40 k : Int) - 1)).toNat) + (gO g (m40 k) (0 + (w64 ((m40 k : Int) - 1)).toNat)).h) + (zO g (m40 k) true true).bp) + (zO g (m40 k) true true).bn)) then oX true k g
  else oX false k g
  else oX false k g
  else oX false k g
  else oX false k g
  else none
  else none
  else none
  else oX false k g
  else oX false k g
  else none
  else none
  else none
  else none
  else none
  else none
  else none
  else none
  else none
  else none
  else none
  else none
  else none
  else none
  else none := by kernel_rfl 

theorem zt_ok {b : Bx} (h : b.ok) : (zt b).ok := ⟨h.h0, h.h1, h.a0, h.a1, h.b0, h.b1, h.c0, h.c1, h.d0, h.d1, fun h => by cases h⟩
theorem gO_ok (g : Nat → Bx) {m : Nat} : ∀ i, i < m → (gO g m i).ok ∧ (gO g m i).th = false := by
  intro i hi
  have e : gO g m i = zt (tmX (g i)) := by simp [gO, zh, f0, hi]
  rw [e]
  exact ⟨zt_ok (tmX_ok _), rfl⟩
theorem gO_eq (g : Nat → Bx) (m : Nat) : gO' g m = gO g m := by
  funext j
  simp [gO']
theorem stakOpens_true (k : Nat) (g : Nat → Bx) (bottom : Bool) :
    (afun (soG (m40 k + 1)) 60 Try.f12 [.c (.sl 0 0 k), Bo bottom] [rowX false k g]).eval = some (Bo true, [rowX false k g]) := by
  have hm := m40_le k
  have hm' : m40 k ≤ 1000 := by omega
  have hG := gO_ok g (m := m40 k)
  have hok : ∀ i, i < m40 k → (gO g (m40 k) i).ok := fun i hi => (hG i hi).1
  have hY : ∀ top i, i < m40 k → yO g (m40 k) top i = ats0 (gO g (m40 k)) top i := by
    intro top i hi
    simp only [yO, hi, if_true, gO_eq]
    exact ats_eq hi hm' hok
  have hZ : ∀ top b, zO g (m40 k) top b = (run0 (gO g (m40 k)) top (m40 k)).fin0 b := by
    intro top b
    simp only [zO, gO_eq, run_eq hm' hok]
    exact Sk.fin_eq (run0_ok hok) hm' b
  have hq : ∀ i, i < m40 k → yO g (m40 k) false i = w64 (yO g (m40 k) true i + w64 ((zO g (m40 k) true bottom).tp + (zO g (m40 k) true bottom).tn)) := by
    intro i hi
    obtain ⟨a1, a2, _⟩ := opens_fin (by omega : 0 < m40 k) hG bottom
    obtain ⟨_, _, _, _, _, _, _, _, _, _, a3, _⟩ := opens hG i hi
    have b0 := hok 0 (by omega)
    have q1 := b0.a0; have q2 := b0.a1; have q3 := b0.b0; have q4 := b0.b1
    have hb := ats0_b (top := true) hm' hok hi
    rw [hY _ i hi, hY _ i hi, hZ, a1, a2, a3, w64_id (x := (gO g (m40 k) 0).tp + (gO g (m40 k) 0).tn) (by omega) (by omega), w64_id (by omega) (by omega)]
  have hl : LoopsOk (soG (m40 k + 1)) 1 (soT k g bottom (m40 k)) :=
    byReg_ok (told_ok (so_loop hm (Nat.lt_succ_self _))) (told_ok (so_loop2 hm (Nat.lt_succ_self _) hq))
  refine lfun_ok (h := [rowX false k g]) hl ?_
  rw [stakOpens_eq]
  refine (bif_yes ⟨by omega, rfl⟩).trans ((bif_yes ⟨rfl, rfl, rfl⟩).trans ?_)
  by_cases h0 : m40 k = 0
  · rw [h0]
    rfl
  · have hp : 0 < m40 k := by omega
    obtain ⟨a1, a2, _, _, a5, a6, a7, a8, a9, a10⟩ := opens_fin hp hG bottom
    obtain ⟨_, _, a3, a4, _⟩ := opens_fin hp hG bottom
    have w1 : w64 ((m40 k : Int) - 1) = ((m40 k - 1 : Nat) : Int) := by rw [w64_id (by omega) (by omega)]; omega
    have hl1 := hok (m40 k - 1) (by omega)
    have q0 := hl1.h0; have q1 := hl1.h1; have q2 := hl1.c0; have q3 := hl1.c1; have q4 := hl1.d0; have q5 := hl1.d1
    have hb := ats0_b (top := true) hm' hok (i := m40 k - 1) (by omega)
    have e1 : (0 ≤ ((m40 k - 1 : Nat) : Int)) = True := by simp
    have e2 : (((m40 k - 1 : Nat) : Int) < (m40 k : Int)) = True := by simp; omega
    have e3 : (m40 k - 1 < m40 k) = True := by simp; omega
    have e4 : ((0 : Int) < (m40 k : Int)) = True := by simp; omega
    have e5 : (0 < m40 k) = True := by simp; omega
    refine (bif_fa (by simp; omega)).trans ((bif_yes ⟨by omega, by omega, rfl⟩).trans ((bif_yes ⟨by omega, by omega, rfl⟩).trans ((bif_fa (by simp)).trans ((bif_fa (by simp)).trans ((bif_yes ⟨rfl, rfl, rfl⟩).trans
      ((bif_yes ⟨by omega, by omega, rfl⟩).trans ((bif_yes ⟨by omega, by omega, rfl⟩).trans ?_)))))))
    have v1 : w64 (ats0 (gO g (m40 k)) true (m40 k - 1) + (gO g (m40 k) (m40 k - 1)).h) = ats0 (gO g (m40 k)) true (m40 k - 1) + (gO g (m40 k) (m40 k - 1)).h := w64_id (by omega) (by omega)
    have v2 : w64 (w64 (ats0 (gO g (m40 k)) true (m40 k - 1) + (gO g (m40 k) (m40 k - 1)).h + (gO g (m40 k) (m40 k - 1)).bp) + (gO g (m40 k) (m40 k - 1)).bn) = ats0 (gO g (m40 k)) true (m40 k - 1) + (gO g (m40 k) (m40 k - 1)).h + ((gO g (m40 k) (m40 k - 1)).bp + (gO g (m40 k) (m40 k - 1)).bn) := by
      rw [w64_id (x := ats0 (gO g (m40 k)) true (m40 k - 1) + (gO g (m40 k) (m40 k - 1)).h + (gO g (m40 k) (m40 k - 1)).bp) (by omega) (by omega), w64_id (by omega) (by omega)]; omega
    have mj : ∀ a b, mxI a b = jmax a b := fun _ _ => rfl
    have t0 : Int.toNat 0 = 0 := rfl
    simp only [w1, Int.toNat_natCast, Nat.zero_add, t0, e1, e2, e3, e4, e5, decide_true, cond_true, hZ, a1, a2, a3, a4, a5, a6, a7, a8, a9, a10, hY true (m40 k - 1) (by omega), v1, v2, mj, beq_self_eq_true, Bool.and_self, Bool.and_true]
    rfl
def stakOpensS : List Shp := [.rows 61 [.int .i64, .int .i64, .int .i64, .int .i64, .int .i64, .bool], .one .bool]
theorem stakOpens_core : ∀ is, InsOk stakOpensS is → ∃ keep L d, (afun (GK KS keep L) d Try.f12 (avsIn 0 stakOpensS is) (blksIn stakOpensS is)).eval = some (Bo true, blksIn stakOpensS is) := by
  intro is0 h0
  obtain ⟨k, g, is1, rfl, h1, _⟩ := ins_boxes h0
  obtain ⟨v1, is2, rfl, h2⟩ := ins_bool h1
  obtain rfl := ins_nil h2
  exact ⟨_, _, _, stakOpens_true k g v1⟩
end Go.Proofs.Ytcpahifgdppkbaa.QAI
