/- StakMeets: the walk's loop. -/
import Derived.Test.YtcpahifgdppkbaaZ6
import Derived.Test.YtcpahifgdppkbaaA20
import Derived.Test.YtcpahifgdppkbaaSM
set_option linter.unusedVariables false
set_option linter.unusedSimpArgs false
namespace Go.Proofs.Ytcpahifgdppkbaa.QAI
open Go Go.RowKit
set_option maxRecDepth 100000
noncomputable def smG (L : Nat) : Ctx2 := GK KS (fun k => if k = 7 then [(0,none),(1,none),(2,none),(7,none),(8,none),(9,none),(10,none),(11,none),(12,none),(13,none)] else []) L
def smH (k : Nat) (g : Nat → Bx) (m : Nat) (f : Nat → Bx) (y : Nat → Int) (s : Sm) : AHeap := [rowX false k g, rowX true m f, some ⟨2, true, .row 1 m fun i => e1 (y i)⟩, some ⟨63, true, .one (smC s)⟩]
def smS (k : Nat) (g : Nat → Bx) (m : Nat) (f : Nat → Bx) (y : Nat → Int) (s : Sm) (top bottom : Bool) (pos neg end_ : Int) (seen : Bool) (i : Int) : St :=
  ⟨slots 178 [(0, .c (.sl 1 0 m)), (1, Bo top), (2, Bo bottom), (7, .c (.sl 2 0 m)), (8, .c (.ptr 3 0 0)), (9, I64 pos), (10, I64 neg), (11, I64 end_), (12, Bo seen), (13, I64 i)], smH k g m f y s⟩
theorem sm_rnd {L k : Nat} {g : Nat → Bx} {m : Nat} {f : Nat → Bx} {y : Nat → Int} {s : Sm} {top bottom : Bool} {pos neg end_ : Int} {seen : Bool} {i : Int} : rnd (arun (smG L) 1 51 (bodyOf Try.f15 0)) (canon (smG L).T 1 ((smG L).keep 7)) (smS k g m f y s top bottom pos neg end_ seen i) = 
  bif decide (i < ↑m) then 
  bif decide (0 ≤ i) then 
  bif decide (i < ↑m) then 
  bif decide (0 + i.toNat < m) then 
  bif decide (0 ≤ i) then 
  bif decide (i < ↑m) then 
  bif decide (0 + i.toNat < m) then 
  bif decide (0 ≤ i) then 
  bif decide (i < ↑m) then 
  bif decide (0 + i.toNat < m) then 
  bif (f (0 + i.toNat)).th then 
  bif decide (0 ≤ i) then 
  bif decide (i < ↑m) then 
  bif decide (0 + i.toNat < m) then 
  bif decide (0 ≤ i) then 
  bif decide (i < ↑m) then 
  bif decide (0 + i.toNat < m) then some { sl := slots 178 [(0, AV.c (.sl 1 0 m)), (1, Bo top), (2, Bo bottom), (7, AV.c (.sl 2 0 m)), (8, AV.c (AC.ptr 3 0 0)), (9, I64 (mxI (f (0 + i.toNat)).bp (mxI (f (0 + i.toNat)).tp pos))), (10, I64 (mnI (f (0 + i.toNat)).bn (mnI (f (0 + i.toNat)).tn neg))), (11, I64 end_), (12, Bo seen), (13, I64 (w64 (i + 1)))], h := smH k g m f y s }
  else none
  else none
  else none
  else none
  else none
  else none
  else 
  bif !seen then 
  bif top then 
  bif !(s.tp == mxI (f (0 + i.toNat)).tp pos && (s.tn == mnI (f (0 + i.toNat)).tn neg && true)) then none
  else 
  bif decide (0 ≤ i) then 
  bif decide (i < ↑m) then 
  bif decide (0 + i.toNat < m) then 
  bif y (0 + i.toNat) != 0 then none
  else 
  bif decide (0 ≤ i) then 
  bif decide (i < ↑m) then 
  bif decide (0 + i.toNat < m) then 
  bif decide (0 ≤ i) then 
  bif decide (i < ↑m) then 
  bif decide (0 + i.toNat < m) then 
  bif decide (0 ≤ i) then 
  bif decide (i < ↑m) then 
  bif decide (0 + i.toNat < m) then 
  bif decide (0 ≤ i) then 
  bif decide (i < ↑m) then 
  bif decide (0 + i.toNat < m) then some { sl := slots 178 [(0, AV.c (.sl 1 0 m)), (1, Bo top), (2, Bo bottom), (7, AV.c (.sl 2 0 m)), (8, AV.c (AC.ptr 3 0 0)), (9, I64 (f (0 + i.toNat)).bp), (10, I64 (f (0 + i.toNat)).bn), (11, I64 (w64 (y (0 + i.toNat) + (f (0 + i.toNat)).h))), (12, Bo true), (13, I64 (w64 (i + 1)))], h := smH k g m f y s }
  else none
  else none
  else none
  else none
  else none
  else none
  else none
  else none
  else none
  else none
  else none
  else none
  else none
  else none
  else none
  else 
  bif decide (0 ≤ i) then 
  bif decide (i < ↑m) then 
  bif decide (0 + i.toNat < m) then 
  bif y (0 + i.toNat) != w64 (w64 (end_ + mxI (f (0 + i.toNat)).tp pos) + mnI (f (0 + i.toNat)).tn neg) then none
  else 
  bif decide (0 ≤ i) then 
  bif decide (i < ↑m) then 
  bif decide (0 + i.toNat < m) then 
  bif decide (0 ≤ i) then 
  bif decide (i < ↑m) then 
  bif decide (0 + i.toNat < m) then 
  bif decide (0 ≤ i) then 
  bif decide (i < ↑m) then 
  bif decide (0 + i.toNat < m) then 
  bif decide (0 ≤ i) then 
  bif decide (i < ↑m) then 
  bif decide (0 + i.toNat < m) then some { sl := slots 178 [(0, AV.c (.sl 1 0 m)), (1, Bo top), (2, Bo bottom), (7, AV.c (.sl 2 0 m)), (8, AV.c (AC.ptr 3 0 0)), (9, I64 (f (0 + i.toNat)).bp), (10, I64 (f (0 + i.toNat)).bn), (11, I64 (w64 (y (0 + i.toNat) + (f (0 + i.toNat)).h))), (12, Bo true), (13, I64 (w64 (i + 1)))], h := smH k g m f y s }
  else none
  else none
  else none
  else none
  else none
  else none
  else none
  else none
  else none
  else none
  else none
  else none
  else none
  else none
  else none
  else 
  bif decide (0 ≤ i) then 
  bif decide (i < ↑m) then 
  bif decide (0 + i.toNat < m) then 
  bif y (0 + i.toNat) != w64 (w64 (end_ + mxI (f (0 + i.toNat)).tp pos) + mnI (f (0 + i.toNat)).tn neg) then none
  else 
  bif decide (0 ≤ i) then 
  bif decide (i < ↑m) then 
  bif decide (0 + i.toNat < m) then 
  bif decide (0 ≤ i) then 
  bif decide (i < ↑m) then 
  bif decide (0 + i.toNat < m) then 
  bif decide (0 ≤ i) then 
  bif decide (i < ↑m) then 
  bif decide (0 + i.toNat < m) then 
  bif decide (0 ≤ i) then 
  bif decide (i < ↑m) then 
  bif decide (0 + i.toNat < m) then some { sl := slots 178 [(0, AV.c (.sl 1 0 m)), (1, Bo top), (2, Bo bottom), (7, AV.c (.sl 2 0 m)), (8, AV.c (AC.ptr 3 0 0)), (9, I64 (f (0 + i.toNat)).bp), (10, I64 (f (0 + i.toNat)).bn), (11, I64 (w64 (y (0 + i.toNat) + (f (0 + i.toNat)).h))), (12, Bo true), (13, I64 (w64 (i + 1)))], h := smH k g m f y s }
  else none
  else none
  else none
  else none
  else none
  else none
  else none
  else none
  else none
  else none
  else none
  else none
  else none
  else none
  else none
  else none
  else none
  else none
  else none
  else none
  else none
  else none
  else none
  else none
  else none := by kernel_rfl
theorem sm_rndX {L k : Nat} {g : Nat → Bx} {m : Nat} {f : Nat → Bx} {y : Nat → Int} {s : Sm} {top bottom : Bool} {pos neg end_ : Int} {seen : Bool} {i : Int} : rndX (arun (smG L) 1 51 (bodyOf Try.f15 0)) (smS k g m f y s top bottom pos neg end_ seen i) = 
  bif decide (i < ↑m) then 
  bif decide (0 ≤ i) then 
  bif decide (i < ↑m) then 
  bif decide (0 + i.toNat < m) then 
  bif decide (0 ≤ i) then 
  bif decide (i < ↑m) then 
  bif decide (0 + i.toNat < m) then 
  bif decide (0 ≤ i) then 
  bif decide (i < ↑m) then 
  bif decide (0 + i.toNat < m) then 
  bif (f (0 + i.toNat)).th then 
  bif decide (0 ≤ i) then 
  bif decide (i < ↑m) then 
  bif decide (0 + i.toNat < m) then 
  bif decide (0 ≤ i) then 
  bif decide (i < ↑m) then 
  bif decide (0 + i.toNat < m) then none
  else none
  else none
  else none
  else none
  else none
  else none
  else 
  bif !seen then 
  bif top then 
  bif !(s.tp == mxI (f (0 + i.toNat)).tp pos && (s.tn == mnI (f (0 + i.toNat)).tn neg && true)) then none
  else 
  bif decide (0 ≤ i) then 
  bif decide (i < ↑m) then 
  bif decide (0 + i.toNat < m) then 
  bif y (0 + i.toNat) != 0 then none
  else 
  bif decide (0 ≤ i) then 
  bif decide (i < ↑m) then 
  bif decide (0 + i.toNat < m) then 
  bif decide (0 ≤ i) then 
  bif decide (i < ↑m) then 
  bif decide (0 + i.toNat < m) then 
  bif decide (0 ≤ i) then 
  bif decide (i < ↑m) then 
  bif decide (0 + i.toNat < m) then 
  bif decide (0 ≤ i) then 
  bif decide (i < ↑m) then 
  bif decide (0 + i.toNat < m) then none
  else none
  else none
  else none
  else none
  else none
  else none
  else none
  else none
  else none
  else none
  else none
  else none
  else none
  else none
  else none
  else 
  bif decide (0 ≤ i) then 
  bif decide (i < ↑m) then 
  bif decide (0 + i.toNat < m) then 
  bif y (0 + i.toNat) != w64 (w64 (end_ + mxI (f (0 + i.toNat)).tp pos) + mnI (f (0 + i.toNat)).tn neg) then none
  else 
  bif decide (0 ≤ i) then 
  bif decide (i < ↑m) then 
  bif decide (0 + i.toNat < m) then 
  bif decide (0 ≤ i) then 
  bif decide (i < ↑m) then 
  bif decide (0 + i.toNat < m) then 
  bif decide (0 ≤ i) then 
  bif decide (i < ↑m) then 
  bif decide (0 + i.toNat < m) then 
  bif decide (0 ≤ i) then 
  bif decide (i < ↑m) then 
  bif decide (0 + i.toNat < m) then none
  else none
  else none
  else none
  else none
  else none
  else none
  else none
  else none
  else none
  else none
  else none
  else none
  else none
  else none
  else none
  else 
  bif decide (0 ≤ i) then 
  bif decide (i < ↑m) then 
  bif decide (0 + i.toNat < m) then 
  bif y (0 + i.toNat) != w64 (w64 (end_ + mxI (f (0 + i.toNat)).tp pos) + mnI (f (0 + i.toNat)).tn neg) then none
  else 
  bif decide (0 ≤ i) then 
  bif decide (i < ↑m) then 
  bif decide (0 + i.toNat < m) then 
  bif decide (0 ≤ i) then 
  bif decide (i < ↑m) then 
  bif decide (0 + i.toNat < m) then 
  bif decide (0 ≤ i) then 
  bif decide (i < ↑m) then 
  bif decide (0 + i.toNat < m) then 
  bif decide (0 ≤ i) then 
  bif decide (i < ↑m) then 
  bif decide (0 + i.toNat < m) then none
  else none
  else none
  else none
  else none
  else none
  else none
  else none
  else none
  else none
  else none
  else none
  else none
  else none
  else none
  else none
  else none
  else none
  else none
  else none
  else none
  else none
  else none
  else none
  else none
  else some (Ex.exit 0, { sl := slots 178 [(0, AV.c (.sl 1 0 m)), (1, Bo top), (2, Bo bottom), (7, AV.c (.sl 2 0 m)), (8, AV.c (AC.ptr 3 0 0)), (9, I64 pos), (10, I64 neg), (11, I64 end_), (12, Bo seen), (13, I64 i), (30, I64 i), (31, AV.c (.sl 1 0 m)), (32, I64 ↑m), (33, Bo false)], h := smH k g m f y s }) := by kernel_rfl
theorem sm_loop {L k : Nat} {g : Nat → Bx} {m : Nat} {f : Nat → Bx} {y : Nat → Int} {s : Sm} {top bottom : Bool} (hm : m ≤ 40) (hL : m < L) (hg : ∀ i, i < m → (f i).ok) (hy : ∀ i, i < m → y i = ats0 f top i)
    (hs : ∀ i, i < m → (f i).th = false → (run0 f top i).top = true → s.tp = jmax (f i).tp (run0 f top i).fp ∧ s.tn = jmin (f i).tn (run0 f top i).fn) :
    (iter (arun (smG L) 1 51 (bodyOf Try.f15 0)) (canon (smG L).T 1 ((smG L).keep 7)) L (smS k g m f y s top bottom 0 0 0 false 0)).eval =
      some (.exit 0, ⟨slots 178 [(0, .c (.sl 1 0 m)), (1, Bo top), (2, Bo bottom), (7, .c (.sl 2 0 m)), (8, .c (.ptr 3 0 0)), (9, I64 (run0 f top m).fp), (10, I64 (run0 f top m).fn), (11, I64 (run0 f top m).y), (12, Bo (seenB f m)), (13, I64 m), (30, I64 m), (31, .c (.sl 1 0 m)), (32, I64 m), (33, Bo false)], smH k g m f y s⟩) := by
  refine iter_upto (fun i => smS k g m f y s top bottom (run0 f top i).fp (run0 f top i).fn (run0 f top i).y (seenB f i) i) (N := m) (by simp) ?_ L 0 (Nat.zero_le _) (by omega) ?_
  · refine rndX_ok ?_
    rw [sm_rndX]
    simp
  · intro j _ hj
    refine rnd_ok ?_
    rw [sm_rnd]
    have h1 : (j : Int) < m := by omega
    have h3 : w64 ((j : Int) + 1) = ((j + 1 : Nat) : Int) := by rw [w64_id (by omega) (by omega)]; omega
    have h5 : decide ((0 : Int) ≤ (j : Int)) = true := by simp
    have hok := hg j hj
    have hs0 := run0_ok (g := f) (top := top) (n := j) fun i hi => hg i (by omega)
    obtain ⟨e1, e2⟩ := mp_eq (b := f j) hs0
    have hb := Sk.at_b hs0 hok
    have hm0 := Sk.m_b hs0 hok
    have hht := run0_top f top j
    have hyj := hy j hj
    have hsj := hs j hj
    have hr : run0 f top (j + 1) = (run0 f top j).step0 (f j) := rfl
    have hse : seenB f (j + 1) = bif (f j).th then seenB f j else true := rfl
    have hth := @step_th (run0 f top j) (f j) j hs0 hok
    have y0 := hs0.y0
    have y1 := hs0.y1
    have ht0 := hs0.top
    have hh0 := hok.h0
    have hh1 := hok.h1
    rw [hr, hse]
    simp only [ats0] at hyj
    simp only [h1, h3, h5, hj, decide_true, cond_true, Int.toNat_natCast, Nat.zero_add]
    revert hb hm0 hht hyj hsj hth y0 y1 ht0 e1 e2 hh0 hh1
    generalize run0 f top j = R
    generalize seenB f j = sn
    generalize f j = b
    generalize y j = yj
    intro e1 e2 hb hm0 hht hyj hsj hth y0 y1 ht0 hh0 hh1
    cases hb0 : b.th
    · simp only [cond_false]
      simp only [Sk.at0, e1, e2] at hyj hb
      rw [e1, e2] at hm0
      cases sn
      · cases top
        · have ht : R.top = false := by simpa using hht
          simp only [ht, Bool.false_eq_true, if_false] at hyj hb
          have w1 : w64 (w64 (R.y + jmax b.tp R.fp) + jmin b.tn R.fn) = yj := by
            rw [w64_id (x := R.y + jmax b.tp R.fp) (by omega) (by omega), w64_id (by omega) (by omega)]; omega
          have w2 : w64 (yj + b.h) = yj + b.h := w64_id (by omega) (by omega)
          have w3 : (yj != w64 (w64 (R.y + mxI b.tp R.fp) + mnI b.tn R.fn)) = false := by
            show (yj != w64 (w64 (R.y + jmax b.tp R.fp) + jmin b.tn R.fn)) = false
            rw [w1]; simp
          simp only [Bool.not_false, cond_true, cond_false, w3, w2]
          simp only [Sk.step0, hb0, Bool.false_eq_true, if_false, Sk.at0, ht, e1, e2, ← hyj]
          rfl
        · have ht : R.top = true := by simpa using hht
          simp only [ht, if_true] at hyj hb
          obtain ⟨q1, q2⟩ := hsj hb0 ht
          have w2 : w64 (yj + b.h) = yj + b.h := w64_id (by omega) (by omega)
          have w3 : (!(s.tp == mxI b.tp R.fp && (s.tn == mnI b.tn R.fn && true))) = false := by
            have r1 : s.tp = mxI b.tp R.fp := q1
            have r2 : s.tn = mnI b.tn R.fn := q2
            rw [r1, r2]; simp
          have w4 : (yj != 0) = false := by rw [hyj]; rfl
          simp only [Bool.not_false, cond_true, cond_false, w3, w4, w2]
          simp only [Sk.step0, hb0, Bool.false_eq_true, if_false, Sk.at0, ht, if_true, e1, e2, hyj]
          rfl
      · have ht : R.top = false := by simpa using hht
        simp only [ht, Bool.false_eq_true, if_false] at hyj hb
        have w1 : w64 (w64 (R.y + jmax b.tp R.fp) + jmin b.tn R.fn) = yj := by
          rw [w64_id (x := R.y + jmax b.tp R.fp) (by omega) (by omega), w64_id (by omega) (by omega)]; omega
        have w2 : w64 (yj + b.h) = yj + b.h := w64_id (by omega) (by omega)
        have w3 : (yj != w64 (w64 (R.y + mxI b.tp R.fp) + mnI b.tn R.fn)) = false := by
          show (yj != w64 (w64 (R.y + jmax b.tp R.fp) + jmin b.tn R.fn)) = false
          rw [w1]; simp
        simp only [Bool.not_true, cond_true, cond_false, w3, w2]
        simp only [Sk.step0, hb0, Bool.false_eq_true, if_false, Sk.at0, ht, e1, e2, ← hyj]
        rfl
    · rw [hth hb0]
      simp only [cond_true]
      rfl
end Go.Proofs.Ytcpahifgdppkbaa.QAI
