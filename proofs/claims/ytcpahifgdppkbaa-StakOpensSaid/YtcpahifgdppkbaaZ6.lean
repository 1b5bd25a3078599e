/- StakRises: the whole, the plain law. -/
import Derived.Test.YtcpahifgdppkbaaZ5
import Derived.Test.YtcpahifgdppkbaaZ3
set_option linter.unusedVariables false
set_option linter.unusedSimpArgs false
namespace Go.Proofs.Ytcpahifgdppkbaa.QAI
open Go Go.RowKit
set_option maxRecDepth 100000
def f0 (g : Nat → Bx) (m : Nat) : Nat → Bx := fun j => if j < m then tmX (g (0 + j)) else zX
def sG' (g : Nat → Bx) (m : Nat) : Nat → Bx := fun j => zf (f0 g m) m (0 + j)
def sY (g : Nat → Bx) (m : Nat) (top : Bool) : Nat → Int := fun i => if i < m then ats (sG' g m) top i else 0
def sZ (g : Nat → Bx) (m : Nat) (top bottom : Bool) : Sm := (run (sG' g m) top m).fin bottom
noncomputable def srT (k : Nat) (g : Nat → Bx) (top bottom : Bool) (m : Nat) : Loops :=
  byReg 3 (told 54 (bodyOf Try.f13 0) (srS k g m (zf (f0 g m) 0) top bottom 0) (.exit 0, srE k g m (zf (f0 g m) m) top bottom m))
    (told 50 (bodyOf Try.f13 1) (srS2 k g m (zf (f0 g m) m) (sY g m top) (sZ g m top bottom) 0 0 0) (.exit 2, srE2 k g m (zf (f0 g m) m) (sY g m top) (sZ g m top bottom) (enW (zf (f0 g m) m) (sY g m top) m) (smW (zf (f0 g m) m) m) m))
def oX (b : Bool) (k : Nat) (g : Nat → Bx) : Option (AV × AHeap) := some (Bo b, [rowX false k g])
theorem stakRises_eq {L k : Nat} {g : Nat → Bx} {top bottom : Bool} : (lfun (srG L) (srT k g top bottom (m40 k)) 60 Try.f13 [.c (.sl 0 0 k), Bo top, Bo bottom] [rowX false k g]).eval =
  bif yes (0 + k ≤ k ∧ (fun i => encX (g i)) = fun i => encX (decX ((fun i => encX (g i)) i))) then
  bif yes (was 54 (bodyOf Try.f13 0) (srS k g (m40 k) (zf (f0 g (m40 k)) 0) top bottom 0)) then
  bif yes (0 + m40 k ≤ m40 k ∧ m40 k < 2 ^ 40 ∧ (fun i => encX (zf (f0 g (m40 k)) (m40 k) i)) = fun i => encX (decX ((fun i => encX (zf (f0 g (m40 k)) (m40 k) i)) i))) then
  bif ((m40 k : Int) != (m40 k : Int)) then oX false k g else
  bif yes (was 50 (bodyOf Try.f13 1) (srS2 k g (m40 k) (zf (f0 g (m40 k)) (m40 k)) (sY g (m40 k) top) (sZ g (m40 k) top bottom) 0 0 0)) then
  bif decide ((sZ g (m40 k) top bottom).h ≥ smW (zf (f0 g (m40 k)) (m40 k)) (m40 k)) then
  bif (sZ g (m40 k) top bottom).tn == 0 then
  bif (sZ g (m40 k) top bottom).bn == 0 then oX true k g else oX false k g else oX false k g else oX false k g else none else none else none else none := by kernel_rfl

theorem tmX_ok (b : Bx) : (tmX b).ok := by
  have e1 : ∀ x, w64 ((u64 x).tmod 4294967296) = x % 4294967296 := fun x => u64_mod 32 (by decide) x _ rfl
  have e2 : ∀ x, w64 ((u64 x).tmod 68719476736) = x % 68719476736 := fun x => u64_mod 36 (by decide) x _ rfl
  have e3 : ∀ x : Int, w64 (0 - x % 4294967296) = 0 - x % 4294967296 := fun x => w64_id (by omega) (by omega)
  simp only [tmX, tmB, e1, e2, e3]
  refine ⟨?_, ?_, ?_, ?_, ?_, ?_, ?_, ?_, ?_, ?_, ?_⟩
  · cases b.th
    · simp only [cond_false]; omega
    · simp only [cond_true]; omega
  · cases b.th
    · simp only [cond_false]; omega
    · simp only [cond_true]; omega
  · simp only; omega
  · simp only; omega
  · simp only; omega
  · simp only; omega
  · simp only; omega
  · simp only; omega
  · simp only; omega
  · simp only; omega
  · intro h
    have h' : b.th = true := h
    simp only [h', cond_true]
theorem z2_ok {b : Bx} (h : b.ok) : (z2 b).ok := ⟨h.h0, h.h1, h.a0, h.a1, Int.le_refl _, (by simp [z2]), h.c0, h.c1, Int.le_refl _, (by simp [z2]), h.th⟩
theorem sG_at (g : Nat → Bx) {m i : Nat} (hi : i < m) : zf (f0 g m) m i = z2 (tmX (g i)) := by simp [zf, f0, hi]
theorem sG_ok (g : Nat → Bx) {m : Nat} : ∀ i, i < m → (zf (f0 g m) m i).ok ∧ (zf (f0 g m) m i).tn = 0 ∧ (zf (f0 g m) m i).bn = 0 := by
  intro i hi
  rw [sG_at g hi]
  exact ⟨z2_ok (tmX_ok _), rfl, rfl⟩
theorem sG_eq (g : Nat → Bx) (m : Nat) : sG' g m = zf (f0 g m) m := by
  funext j
  simp [sG']
theorem ats0_b {g : Nat → Bx} {top : Bool} {n : Nat} (hn : n ≤ 1000) (hg : ∀ i, i < n → (g i).ok) {i : Nat} (hi : i < n) : -(i * 137438953472 : Int) - 4294967296 ≤ ats0 g top i ∧ ats0 g top i ≤ i * 137438953472 + 4294967296 :=
  Sk.at_b (run0_ok fun j hj => hg j (by omega)) (hg i hi)
theorem enW_eq {g : Nat → Bx} {top : Bool} {n : Nat} {y : Nat → Int} (hn : n ≤ 1000) (hg : ∀ i, i < n → (g i).ok) (hy : ∀ i, i < n → y i = ats0 g top i) : ∀ i, i ≤ n → enW g y i = riseE g (ats0 g top) i
  | 0, _ => rfl
  | i + 1, hi => by
    have hb := ats0_b (top := top) hn hg (i := i) (by omega)
    have h0 := (hg i (by omega)).h0
    have h1 := (hg i (by omega)).h1
    simp only [enW, riseE, enW_eq hn hg hy i (by omega), hy i (by omega)]
    rw [w64_id (by omega) (by omega)]
theorem smW_eq {g : Nat → Bx} {n : Nat} (hn : n ≤ 1000) (hg : ∀ i, i < n → (g i).ok) : ∀ i, i ≤ n → smW g i = sumH g i ∧ 0 ≤ sumH g i ∧ sumH g i ≤ i * 68719476736
  | 0, _ => ⟨rfl, Int.le_refl _, by simp [sumH]⟩
  | i + 1, hi => by
    obtain ⟨h1, h2, h3⟩ := smW_eq hn hg i (by omega)
    have h4 := (hg i (by omega)).h0
    have h5 := (hg i (by omega)).h1
    simp only [smW, sumH, h1]
    rw [w64_id (by omega) (by omega)]
    refine ⟨rfl, by omega, by omega⟩
theorem stakRises_true (k : Nat) (g : Nat → Bx) (top bottom : Bool) :
    (afun (srG (m40 k + 1)) 60 Try.f13 [.c (.sl 0 0 k), Bo top, Bo bottom] [rowX false k g]).eval = some (Bo true, [rowX false k g]) := by
  have hm := m40_le k
  have hm' : m40 k ≤ 1000 := by omega
  have hG := sG_ok g (m := m40 k)
  have hok : ∀ i, i < m40 k → (zf (f0 g (m40 k)) (m40 k) i).ok := fun i hi => (hG i hi).1
  have hY : ∀ i, i < m40 k → sY g (m40 k) top i = ats0 (zf (f0 g (m40 k)) (m40 k)) top i := by
    intro i hi
    simp only [sY, hi, if_true, sG_eq]
    exact ats_eq hi hm' hok
  have hZ : sZ g (m40 k) top bottom = (run0 (zf (f0 g (m40 k)) (m40 k)) top (m40 k)).fin0 bottom := by
    simp only [sZ, sG_eq, run_eq hm' hok]
    exact Sk.fin_eq (run0_ok hok) hm' bottom
  have hen : ∀ i, i < m40 k → enW (zf (f0 g (m40 k)) (m40 k)) (sY g (m40 k) top) i ≤ sY g (m40 k) top i := by
    intro i hi
    rw [enW_eq hm' hok hY i (by omega), hY i hi]
    exact rises_at hG hi
  have hl : LoopsOk (srG (m40 k + 1)) 1 (srT k g top bottom (m40 k)) :=
    byReg_ok (told_ok (sr_loop hm (Nat.lt_succ_self _))) (told_ok (sr_loop2 hm (Nat.lt_succ_self _) hen))
  refine lfun_ok (h := [rowX false k g]) hl ?_
  rw [stakRises_eq]
  obtain ⟨a1, a2, a3⟩ := rises_fin (top := top) hG bottom
  rw [← hZ] at a1 a2 a3
  obtain ⟨s1, _, _⟩ := smW_eq hm' hok (m40 k) (Nat.le_refl _)
  refine (bif_yes ⟨by omega, rfl⟩).trans ((bif_yes ⟨rfl, rfl, rfl⟩).trans ((bif_yes ⟨by omega, by omega, rfl⟩).trans ((bif_fa (by simp)).trans ((bif_yes ⟨rfl, rfl, rfl⟩).trans ?_))))
  refine (bif_tr (decide_eq_true (by rw [s1]; exact a1))).trans ((bif_tr (by rw [a2]; rfl)).trans ((bif_tr (by rw [a3]; rfl)).trans rfl))
def stakRisesS : List Shp := [.rows 61 [.int .i64, .int .i64, .int .i64, .int .i64, .int .i64, .bool], .one .bool, .one .bool]
theorem stakRises_core : ∀ is, InsOk stakRisesS is → ∃ keep L d, (afun (GK KS keep L) d Try.f13 (avsIn 0 stakRisesS is) (blksIn stakRisesS is)).eval = some (Bo true, blksIn stakRisesS is) := by
  intro is0 h0
  obtain ⟨k, g, is1, rfl, h1, _⟩ := ins_boxes h0
  obtain ⟨v1, is2, rfl, h2⟩ := ins_bool h1
  obtain ⟨v2, is3, rfl, h3⟩ := ins_bool h2
  obtain rfl := ins_nil h3
  exact ⟨_, _, _, stakRises_true k g v1 v2⟩
end Go.Proofs.Ytcpahifgdppkbaa.QAI
