/- StakEmpty: what is asked on the way holds. -/
import Derived.Test.YtcpahifgdppkbaaK3
import Derived.Test.YtcpahifgdppkbaaZ3
set_option linter.unusedVariables false
set_option linter.unusedSimpArgs false
namespace Go.Proofs.Ytcpahifgdppkbaa.QAI
open Go Go.RowKit
set_option maxRecDepth 100000
theorem tmX_ok' (b : Bx) : (tmX b).ok := by
  have e1 : ∀ x, w64 ((u64 x).tmod 4294967296) = x % 4294967296 := fun x => u64_mod 32 (by decide) x _ rfl
  have e2 : ∀ x, w64 ((u64 x).tmod 68719476736) = x % 68719476736 := fun x => u64_mod 36 (by decide) x _ rfl
  have e3 : ∀ x : Int, w64 (0 - x % 4294967296) = 0 - x % 4294967296 := fun x => w64_id (by omega) (by omega)
  simp only [tmX, tmB, e1, e2, e3]
  refine ⟨?_, ?_, ?_, ?_, ?_, ?_, ?_, ?_, ?_, ?_, ?_⟩
  · cases b.th
    · simp only [cond_false]; omega
    · simp only [cond_true]; omega
  · cases b.th
    · simp only [cond_false]; omega
    · simp only [cond_true]; omega
  · simp only; omega
  · simp only; omega
  · simp only; omega
  · simp only; omega
  · simp only; omega
  · simp only; omega
  · simp only; omega
  · simp only; omega
  · intro h
    have h' : b.th = true := h
    rw [h']; rfl
theorem run_cg {g g' : Nat → Bx} {top : Bool} : ∀ n, (∀ j, j < n → g j = g' j) → run g top n = run g' top n
  | 0, _ => rfl
  | n + 1, h => by simp only [run]; rw [run_cg n fun j hj => h j (by omega), h n (by omega)]
theorem ats_cg {g g' : Nat → Bx} {top : Bool} {i : Nat} (h : ∀ j, j < i + 1 → g j = g' j) : ats g top i = ats g' top i := by
  unfold ats
  rw [run_cg i fun j hj => h j (by omega), h i (by omega)]
theorem seT_ok {k : Nat} {g : Nat → Bx} : ∀ i, i < m40 k → (seT k g i).ok := by
  intro i hi
  simp only [seT, hi, if_true]
  exact tmX_ok' _
theorem seA_b (k : Nat) (c : Int) : (and64 c 255).tmod (w64 (((m40 k : Nat) : Int) + 1)) = ((seA k c : Nat) : Int) ∧ seA k c ≤ m40 k := by
  have hm := m40_le k
  have e : w64 (((m40 k : Nat) : Int) + 1) = ((m40 k : Nat) : Int) + 1 := w64_id (by omega) (by omega)
  have e2 : and64 c 255 = c % 256 := and_mask 8 (by decide) c 255 rfl
  unfold seA
  rw [e, e2, tmod_nn (by omega)]
  have h1 : 0 ≤ c % 256 % (((m40 k : Nat) : Int) + 1) := Int.emod_nonneg _ (by omega)
  have h2 : c % 256 % (((m40 k : Nat) : Int) + 1) < ((m40 k : Nat) : Int) + 1 := Int.emod_lt_of_pos _ (by omega)
  omega
theorem seR_at (k : Nat) (g : Nat → Bx) (j : Nat) : seR k g j = encX (seT k g j) := rfl
theorem seM_at (k : Nat) (g : Nat → Bx) (c : Int) (j : Nat) : seM k g c j = encX (if j < m40 k + 1 then insB (seT k g) (seA k c) j else zX) := by
  obtain ⟨_, ha⟩ := seA_b k c
  unfold seM cat updL updL upd insB
  simp only [Nat.zero_add, Nat.sub_zero, Nat.not_lt_zero, if_false, seR_at]
  rcases Nat.lt_trichotomy j (seA k c) with h | h | h
  · have h1 : j < seA k c + 1 := by omega
    have h2 : j < m40 k + 1 := by omega
    have h3 : ¬ j = seA k c := by omega
    simp only [h, h1, h2, h3, if_true, if_false]
  · have h1 : j < seA k c + 1 := by omega
    have h2 : j < m40 k + 1 := by omega
    have h3 : ¬ j < seA k c := by omega
    simp only [h, h1, h2, h3, if_true, if_false, Nat.lt_irrefl, Nat.lt_succ_self]
    have : seA k c < m40 k + 1 := by omega
    simp only [this, if_true]
  · have h1 : ¬ j < seA k c + 1 := by omega
    have h3 : ¬ j < seA k c := by omega
    have h4 : ¬ j = seA k c := by omega
    by_cases h5 : j < m40 k + 1
    · have h6 : j < seA k c + 1 + (m40 k - seA k c) := by omega
      have h7 : seA k c + (j - (seA k c + 1)) = j - 1 := by omega
      simp only [h1, h3, h4, h5, h6, h7, if_true, if_false]
    · have h6 : ¬ j < seA k c + 1 + (m40 k - seA k c) := by omega
      simp only [h1, h5, h6, if_true, if_false]
theorem run_M (k : Nat) (g : Nat → Bx) (c : Int) (top : Bool) : run (fun j => decX (seM k g c j)) top (m40 k + 1) = run (fun j => decX (seR k g j)) top (m40 k) := by
  obtain ⟨_, ha⟩ := seA_b k c
  have hm := m40_le k
  have h1 := (run_ins (g := seT k g) (n := m40 k) (k := seA k c) (top := top) seT_ok (by omega) ha (m40 k) (Nat.le_refl _)).2 ha
  rw [run_cg (g' := insB (seT k g) (seA k c)) (m40 k + 1) (fun j hj => by rw [seM_at, decX_enc, if_pos hj]), h1]
  exact run_cg _ fun j _ => rfl
theorem ats_M (k : Nat) (g : Nat → Bx) (c : Int) (top : Bool) {i : Nat} (hi : i < m40 k) :
    ats (fun j => decX (seM k g c j)) top (if i < seA k c then i else i + 1) = ats (fun j => decX (seR k g j)) top i := by
  obtain ⟨_, ha⟩ := seA_b k c
  have hm := m40_le k
  have h1 := ats_ins (g := seT k g) (n := m40 k) (k := seA k c) (top := top) seT_ok (by omega) ha hi
  have e : ∀ q, q < m40 k + 1 → ats (fun j => decX (seM k g c j)) top q = ats (insB (seT k g) (seA k c)) top q := fun q hq => ats_cg fun j hj => by rw [seM_at, decX_enc, if_pos (by omega)]
  have e2 : ats (fun j => decX (seR k g j)) top i = ats (seT k g) top i := rfl
  rw [e2]
  split
  · rename_i h; rw [e _ (by omega)]; exact h1.1 h
  · rename_i h; rw [e _ (by omega)]; exact h1.2 (by omega)
theorem sumB_h {B : Nat → Bx} : ∀ n, sumB B n = hSum B n
  | 0 => rfl
  | n + 1 => by simp only [sumB, hSum, sumB_h n]
theorem hSum_cg {B C : Nat → Bx} : ∀ n, (∀ j, j < n → (B j).h = (C j).h) → hSum B n = hSum C n
  | 0, _ => rfl
  | n + 1, h => by simp only [hSum]; rw [hSum_cg n fun j hj => h j (by omega), h n (by omega)]
theorem seB_h {k : Nat} {g : Nat → Bx} (j : Nat) : 0 ≤ (seB k g j).h ∧ (seB k g j).h < 68719476736 := by
  unfold seB
  split
  · rename_i h
    have := seT_ok (k := k) (g := g) j h
    exact ⟨this.h0, this.h1⟩
  · exact ⟨by simp [zX], by simp [zX]⟩
theorem run_B {k : Nat} {g : Nat → Bx} {top : Bool} {i : Nat} (hi : i ≤ m40 k) : 0 ≤ sumB (seB k g) i ∧ sumB (seB k g) i ≤ i * 68719476736 ∧ run (seB k g) top i = ⟨0, 0, sumB (seB k g) i, 0, 0, top && decide (i = 0)⟩ := by
  have hm := m40_le k
  obtain ⟨h1, h2, h3⟩ := run_bare (g := seT k g) (n := m40 k) (top := top) seT_ok (by omega) i hi
  have e : sumB (seB k g) i = hSum (seT k g) i := by
    rw [sumB_h]
    refine hSum_cg i fun j hj => ?_
    have : j < m40 k := by omega
    simp only [seB, this, if_true, bareB]
  rw [e]
  refine ⟨h1, h2, ?_⟩
  rw [← h3]
  refine run_cg i fun j hj => ?_
  have : j < m40 k := by omega
  simp only [seB, this, if_true]
theorem seX_at {k : Nat} {g : Nat → Bx} {top : Bool} {j : Nat} (hj : j < m40 k) : seX k g top j = sumB (seB k g) j := by
  obtain ⟨h1, h2, h3⟩ := run_B (k := k) (g := g) (top := top) (i := j) (by omega)
  have hm := m40_le k
  have e : seX k g top j = ats (seB k g) top j := by simp only [seX, hj, if_true, Nat.zero_add]
  rw [e, ats, h3]
  have eb : seB k g j = ⟨(seT k g j).h, 0, 0, 0, 0, false⟩ := by simp only [seB, hj, if_true, bareB]
  have e1 : w64 (sumB (seB k g) j) = sumB (seB k g) j := w64_id (by omega) (by omega)
  have e0 : w64 0 = 0 := w64_id (by omega) (by omega)
  have j0 : jmax 0 (jmax 0 0) = 0 := by decide
  have j1 : jmin 0 (jmin 0 0) = 0 := by decide
  rw [eb]
  simp only [Sk.at, Sk.mp, Sk.mn, j0, j1, Int.add_zero, e0, e1]
  split
  · rename_i h
    simp only [Bool.and_eq_true, decide_eq_true_eq] at h
    rw [h.2]; rfl
  · rfl
theorem seU_eq {k : Nat} {g : Nat → Bx} {top bottom : Bool} : (seU k g top bottom).h = sumB (seB k g) (m40 k) ∧ (seU k g top bottom).tp = 0 ∧ (seU k g top bottom).tn = 0 ∧ (seU k g top bottom).bp = 0 ∧ (seU k g top bottom).bn = 0 := by
  obtain ⟨h1, h2, h3⟩ := run_B (k := k) (g := g) (top := top) (i := m40 k) (Nat.le_refl _)
  have hm := m40_le k
  have e : seU k g top bottom = (run (seB k g) top (m40 k)).fin bottom := by simp only [seU, Nat.zero_add]
  have e1 : w64 (sumB (seB k g) (m40 k)) = sumB (seB k g) (m40 k) := w64_id (by omega) (by omega)
  have e0 : w64 0 = 0 := w64_id (by omega) (by omega)
  have ej : jmax 0 (sumB (seB k g) (m40 k)) = sumB (seB k g) (m40 k) := by unfold jmax; split <;> omega
  rw [e, h3, Sk.fin]
  split
  · rename_i h
    simp only [Bool.and_eq_true, decide_eq_true_eq] at h
    rw [h.2]
    exact ⟨rfl, rfl, rfl, rfl, rfl⟩
  · split
    · exact ⟨ej, rfl, rfl, rfl, rfl⟩
    · simp only [Int.add_zero, e0, e1, ej]
      exact ⟨trivial, trivial, trivial, trivial, trivial⟩
theorem stakEmpty_core0 (k : Nat) (g : Nat → Bx) (c : Int) (top bottom : Bool) : ∃ keep tm d ℓ, LoopsSem (GT KS keep 0 tm) [rowX false k g].length ℓ ∧ (lfun (GT KS keep 0 tm) ℓ d Try.f16 [.c (.sl 0 0 k), I64 c, Bo top, Bo bottom] [rowX false k g]).eval = some (Bo true, [rowX false k g]) := by
  refine ⟨_, [70], 60, seL k g top bottom, ?_, Tr.go_eval (se_w (k := k) (g := g) (c := c) (top := top) (bottom := bottom)) ?_⟩
  · exact byReg_sem (tell_ok (se1_loop (m40_le k))) (tell_ok (se2_loop (m40_le k) seB_h fun j hj => seX_at hj))
  · obtain ⟨hA, ha⟩ := seA_b k c
    have hm := m40_le k
    obtain ⟨u1, u2, u3, u4, u5⟩ := seU_eq (k := k) (g := g) (top := top) (bottom := bottom)
    have eK : w64 (((m40 k : Nat) : Int) + 1) = ((m40 k : Nat) : Int) + 1 := w64_id (by omega) (by omega)
    have eN : seA k c + 1 + (m40 k - seA k c) = m40 k + 1 := by omega
    have eW : w64 (((seA k c : Nat) : Int) + 1) = ((seA k c + 1 : Nat) : Int) := by rw [w64_id (by omega) (by omega)]; omega
    have eS : m40 k + 1 - (seA k c + 1) = m40 k - seA k c := by omega
    have eQ : seA k c + (m40 k - seA k c) = m40 k := by omega
    simp only [hA, Nat.zero_add, eN, eW, Int.toNat_natCast, eS, eQ]
    have hc : ∀ n : Nat, n ≤ 41 → decide (n * 48 ≤ maxCells) = true := fun n hn => decide_eq_true (by unfold maxCells; omega)
    have hc8 : ∀ n : Nat, n ≤ 41 → decide (n * 8 ≤ maxCells) = true := fun n hn => decide_eq_true (by unfold maxCells; omega)
    have hrun := run_M k g c top
    have hM : seM k g c = fun i => encX (decX (seM k g c i)) := by funext i; rw [seM_at, decX_enc]
    repeat' (first | exact AllT.nil | refine AllT.cons ?_ ?_)
    all_goals first | (with_reducible rfl) | skip
    all_goals first
      | exact hc _ (by omega)
      | exact hc8 _ (by omega)
      | exact decide_eq_true (by omega)
      | exact yes_of ⟨by omega, rfl⟩
      | exact yes_of ⟨rfl, rfl⟩
      | exact yes_of ⟨by omega, by omega, rfl⟩
      | exact yes_of ⟨by omega, by omega, hM⟩
      | (rw [hrun]; simp; done)
      | (rw [u1]; simp; done)
      | (rw [u2, u3]; rfl)
      | (rw [u4, u5]; rfl)
      | (rw [eK]; exact decide_eq_true (by omega))
      | (unfold decInt; simp; omega)
      | (simp; done)
      | exact yes_of trivial
      | exact yes_of rfl
      | skip
    refine yes_of ⟨by omega, by omega, by omega, ?_, rfl, trivial, ?_⟩
    · funext i
      simp only [cat]
      repeat' split
      all_goals rfl
    · intro i hi
      have h := ats_M k g c top (i := i) hi
      simp only [cat, Nat.sub_zero, Nat.zero_add, Nat.not_lt_zero, if_false]
      by_cases h2 : i < seA k c
      · rw [if_pos h2] at h
        rw [if_pos h2, if_pos h2]
        show (if i < m40 k + 1 then ats (fun j => decX (seM k g c j)) top i else 0) = (if i < m40 k then ats (fun j => decX (seR k g j)) top i else 0)
        rw [if_pos (by omega), if_pos hi, h]
      · rw [if_neg h2] at h
        have h3 : seA k c + 1 + (i - seA k c) = i + 1 := by omega
        rw [if_neg h2, if_pos (show i < seA k c + (m40 k - seA k c) by omega), h3]
        show (if i + 1 < m40 k + 1 then ats (fun j => decX (seM k g c j)) top (i + 1) else 0) = (if i < m40 k then ats (fun j => decX (seR k g j)) top i else 0)
        rw [if_pos (by omega), if_pos hi, h]
def stakEmptyS : List Shp := [.rows 61 [.int .i64, .int .i64, .int .i64, .int .i64, .int .i64, .bool], .one (.int .i64), .one .bool, .one .bool]
theorem stakEmpty_core : ∀ is, InsOk stakEmptyS is → ∃ keep tm d ℓ, LoopsSem (GT KS keep 0 tm) (blksIn stakEmptyS is).length ℓ ∧ (lfun (GT KS keep 0 tm) ℓ d Try.f16 (avsIn 0 stakEmptyS is) (blksIn stakEmptyS is)).eval = some (Bo true, blksIn stakEmptyS is) := by
  intro is0 h0
  obtain ⟨k, g, is1, rfl, h1, _⟩ := ins_boxes h0
  obtain ⟨v1, is2, rfl, h2⟩ := ins_i64 h1
  obtain ⟨v2, is3, rfl, h3⟩ := ins_bool h2
  obtain ⟨v3, is4, rfl, h4⟩ := ins_bool h3
  obtain rfl := ins_nil h4
  exact stakEmpty_core0 k g v1 v2 v3
end Go.Proofs.Ytcpahifgdppkbaa.QAI
