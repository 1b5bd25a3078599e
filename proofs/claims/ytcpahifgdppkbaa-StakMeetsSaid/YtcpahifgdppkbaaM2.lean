/- StakMeets: the whole, the plain law. -/
import Derived.Test.YtcpahifgdppkbaaM1
set_option linter.unusedVariables false
set_option linter.unusedSimpArgs false
namespace Go.Proofs.Ytcpahifgdppkbaa.QAI
open Go Go.RowKit
set_option maxRecDepth 100000
def gT (g : Nat → Bx) (m : Nat) : Nat → Bx := fun j => f0 g m (0 + j)
def yT (g : Nat → Bx) (m : Nat) (top : Bool) : Nat → Int := fun i => if i < m then ats (gT g m) top i else 0
def zT (g : Nat → Bx) (m : Nat) (top bottom : Bool) : Sm := (run (gT g m) top m).fin bottom
def smE (k : Nat) (g : Nat → Bx) (m : Nat) (top bottom : Bool) : St :=
  ⟨slots 178 [(0, .c (.sl 1 0 m)), (1, Bo top), (2, Bo bottom), (7, .c (.sl 2 0 m)), (8, .c (.ptr 3 0 0)), (9, I64 (run0 (f0 g m) top m).fp), (10, I64 (run0 (f0 g m) top m).fn), (11, I64 (run0 (f0 g m) top m).y), (12, Bo (seenB (f0 g m) m)), (13, I64 m), (30, I64 m), (31, .c (.sl 1 0 m)), (32, I64 m), (33, Bo false)], smH k g m (f0 g m) (yT g m top) (zT g m top bottom)⟩
noncomputable def smT (k : Nat) (g : Nat → Bx) (top bottom : Bool) (m : Nat) : Loops :=
  told 51 (bodyOf Try.f15 0) (smS k g m (f0 g m) (yT g m top) (zT g m top bottom) top bottom 0 0 0 false 0) (.exit 0, smE k g m top bottom)
theorem stakMeets_eq {L k : Nat} {g : Nat → Bx} {top bottom : Bool} : (lfun (smG L) (smT k g top bottom (m40 k)) 60 Try.f15 [.c (.sl 0 0 k), Bo top, Bo bottom] [rowX false k g]).eval = 
  bif yes (0 + k ≤ k ∧ (fun i => encX (g i)) = fun i => encX (decX ((fun i => encX (g i)) i))) then 
  bif yes (0 + m40 k ≤ m40 k ∧ m40 k < 2 ^ 40 ∧ rwX (fun j => tmX (decX ((fun i => encX (g i)) (0 + j)))) (m40 k) = fun i => encX (decX (rwX (fun j => tmX (decX ((fun i => encX (g i)) (0 + j)))) (m40 k) i))) then 
  bif ((m40 k : Int) != (m40 k : Int)) then oX false k g
  else 
  bif yes (was 51 (bodyOf Try.f15 0) (smS k g (m40 k) (f0 g (m40 k)) (yT g (m40 k) top) (zT g (m40 k) top bottom) top bottom 0 0 0 false 0)) then 
  bif !seenB (f0 g (m40 k)) (m40 k) then 
  bif top then 
  bif (zT g (m40 k) top bottom).tp == (run0 (f0 g (m40 k)) top (m40 k)).fp && ((zT g (m40 k) top bottom).tn == (run0 (f0 g (m40 k)) top (m40 k)).fn && ((zT g (m40 k) top bottom).bp == 0 && ((zT g (m40 k) top bottom).bn == 0 && ((zT g (m40 k) top bottom).th == bottom && ((zT g (m40 k) top bottom).h == 0 && true))))) then oX true k g
  else oX false k g
  else 
  bif bottom then 
  bif (zT g (m40 k) top bottom).bp == (run0 (f0 g (m40 k)) top (m40 k)).fp && ((zT g (m40 k) top bottom).bn == (run0 (f0 g (m40 k)) top (m40 k)).fn && true) then 
  bif (zT g (m40 k) top bottom).h == mxI 0 (run0 (f0 g (m40 k)) top (m40 k)).y then 
  bif !(zT g (m40 k) top bottom).th then oX true k g
  else oX false k g
  else oX false k g
  else oX false k g
  else 
  bif (zT g (m40 k) top bottom).bp == 0 && ((zT g (m40 k) top bottom).bn == 0 && true) then 
  bif (zT g (m40 k) top bottom).h == mxI 0 (w64 (w64 ((run0 (f0 g (m40 k)) top (m40 k)).y + (run0 (f0 g (m40 k)) top (m40 k)).fp) + (run0 (f0 g (m40 k)) top (m40 k)).fn)) then 
  bif !(zT g (m40 k) top bottom).th then oX true k g
  else oX false k g
  else oX false k g
  else oX false k g
  else 
  bif bottom then 
  bif (zT g (m40 k) top bottom).bp == (run0 (f0 g (m40 k)) top (m40 k)).fp && ((zT g (m40 k) top bottom).bn == (run0 (f0 g (m40 k)) top (m40 k)).fn && true) then 
  bif (zT g (m40 k) top bottom).h == mxI 0 (run0 (f0 g (m40 k)) top (m40 k)).y then 
  bif !(zT g (m40 k) top bottom).th then oX true k g
  else oX false k g
  else oX false k g
  else oX false k g
  else 
  bif (zT g (m40 k) top bottom).bp == 0 && ((zT g (m40 k) top bottom).bn == 0 && true) then 
  bif (zT g (m40 k) top bottom).h == mxI 0 (w64 (w64 ((run0 (f0 g (m40 k)) top (m40 k)).y + (run0 (f0 g (m40 k)) top (m40 k)).fp) + (run0 (f0 g (m40 k)) top (m40 k)).fn)) then 
  bif !(zT g (m40 k) top bottom).th then oX true k g
  else oX false k g
  else oX false k g
  else oX false k g
  else none
  else none
  else none := by kernel_rfl 

theorem f0_ok (g : Nat → Bx) {m : Nat} : ∀ i, i < m → (f0 g m i).ok := by
  intro i hi
  simp only [f0, hi, if_true]
  exact tmX_ok _
theorem gT_eq (g : Nat → Bx) (m : Nat) : gT g m = f0 g m := by
  funext j
  simp [gT]
theorem stakMeets_true (k : Nat) (g : Nat → Bx) (top bottom : Bool) :
    (afun (smG (m40 k + 1)) 60 Try.f15 [.c (.sl 0 0 k), Bo top, Bo bottom] [rowX false k g]).eval = some (Bo true, [rowX false k g]) := by
  have hm := m40_le k
  have hm' : m40 k ≤ 1000 := by omega
  have hok := f0_ok g (m := m40 k)
  have hY : ∀ i, i < m40 k → yT g (m40 k) top i = ats0 (f0 g (m40 k)) top i := by
    intro i hi
    simp only [yT, hi, if_true, gT_eq]
    exact ats_eq hi hm' hok
  have hZ : zT g (m40 k) top bottom = (run0 (f0 g (m40 k)) top (m40 k)).fin0 bottom := by
    simp only [zT, gT_eq, run_eq hm' hok]
    exact Sk.fin_eq (run0_ok hok) hm' bottom
  have hl : LoopsOk (smG (m40 k + 1)) 1 (smT k g top bottom (m40 k)) :=
    told_ok (sm_loop hm (Nat.lt_succ_self _) hok hY fun i hi hth ht => by rw [hZ]; exact fin_first hok hi ht hth bottom)
  refine lfun_ok (h := [rowX false k g]) hl ?_
  rw [stakMeets_eq]
  refine (bif_yes ⟨by omega, rfl⟩).trans ((bif_yes ⟨by omega, by omega, rfl⟩).trans ((bif_fa (by simp)).trans ((bif_yes ⟨rfl, rfl, rfl⟩).trans ?_)))
  have hs := run0_ok (g := f0 g (m40 k)) (top := top) hok
  have ht := run0_top (f0 g (m40 k)) top (m40 k)
  rw [hZ]
  revert hs ht
  generalize run0 (f0 g (m40 k)) top (m40 k) = R
  generalize seenB (f0 g (m40 k)) (m40 k) = sn
  intro hs ht
  obtain ⟨q1, q2, q3, q4, q5, q6, q7, q8, q9, q10, q11⟩ := hs
  have w1 : w64 (w64 (R.y + R.fp) + R.fn) = R.y + (R.fp + R.fn) := by
    rw [w64_id (x := R.y + R.fp) (by omega) (by omega), w64_id (by omega) (by omega)]; omega
  have mj : ∀ a b, mxI a b = jmax a b := fun _ _ => rfl
  rw [w1]
  cases sn <;> cases top <;> simp only [Bool.not_false, Bool.not_true, Bool.and_true, Bool.and_false, Bool.true_and, Bool.false_and] at ht <;>
    cases bottom <;> simp only [Sk.fin0, ht, Bool.false_eq_true, if_false, if_true, Bool.not_false, Bool.not_true, cond_true, cond_false, beq_self_eq_true, Bool.and_true, mj] <;> rfl
def stakMeetsS : List Shp := [.rows 61 [.int .i64, .int .i64, .int .i64, .int .i64, .int .i64, .bool], .one .bool, .one .bool]
theorem stakMeets_core : ∀ is, InsOk stakMeetsS is → ∃ keep L d, (afun (GK KS keep L) d Try.f15 (avsIn 0 stakMeetsS is) (blksIn stakMeetsS is)).eval = some (Bo true, blksIn stakMeetsS is) := by
  intro is0 h0
  obtain ⟨k, g, is1, rfl, h1, _⟩ := ins_boxes h0
  obtain ⟨v1, is2, rfl, h2⟩ := ins_bool h1
  obtain ⟨v2, is3, rfl, h3⟩ := ins_bool h2
  obtain rfl := ins_nil h3
  exact ⟨_, _, _, stakMeets_true k g v1 v2⟩
end Go.Proofs.Ytcpahifgdppkbaa.QAI
