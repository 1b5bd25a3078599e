/- Boxes: brought near; stacked: the loops. -/
import Derived.Test.YtcpahifgdppkbaaS0
import Derived.Test.YtcpahifgdppkbaaY1
set_option linter.unusedVariables false
set_option linter.unusedSimpArgs false
namespace Go.Proofs.Ytcpahifgdppkbaa.QAI
open Go Go.RowKit
set_option maxRecDepth 100000
abbrev bo (x : Bool) : AC := .v (.bool x)
noncomputable def bxG (L : Nat) : Ctx2 := GK [] (fun k => if k = 3 then [(0,none),(3,some 61),(4,none)] else []) L
def rowX (own : Bool) (n : Nat) (g : Nat → Bx) : Option ABlk := some ⟨61, own, .row 6 n fun i => encX (g i)⟩
def bxH (own : Bool) (n na : Nat) (g : Nat → Bx) (fa : Nat → List Value) : AHeap := [rowX own n g, some ⟨61, true, .row 6 na fa⟩]
def bxS (own : Bool) (o k n na : Nat) (g : Nat → Bx) (fa : Nat → List Value) (i : Int) : St := ⟨slots 64 [(0, .c (.sl 0 o k)), (3, .c (.sl 1 0 na)), (4, I64 i)], bxH own n na g fa⟩
def bxE1 (own : Bool) (o k n na : Nat) (g : Nat → Bx) (fa : Nat → List Value) (i : Int) : St := ⟨slots 64 [(0, .c (.sl 0 o k)), (3, .c (.sl 1 0 na)), (4, I64 i), (6, I64 i), (7, .c (.sl 0 o k)), (8, I64 k), (9, Bo (decide (i < k))), (10, Bo true), (11, I64 i), (12, Bo (decide (i < 40))), (13, Bo false)], bxH own n na g fa⟩
def bxE2 (own : Bool) (o k n na : Nat) (g : Nat → Bx) (fa : Nat → List Value) (i : Int) : St := ⟨slots 64 [(0, .c (.sl 0 o k)), (3, .c (.sl 1 0 na)), (4, I64 i), (6, I64 i), (7, .c (.sl 0 o k)), (8, I64 k), (9, Bo (decide (i < k))), (10, Bo false), (11, nA), (12, nA), (13, Bo false)], bxH own n na g fa⟩
def tmB (b : Bx) (z : Int) : Bx := ⟨z, w64 ((u64 b.tp).tmod 4294967296), w64 (0 - w64 ((u64 b.tn).tmod 4294967296)), w64 ((u64 b.bp).tmod 4294967296), w64 (0 - w64 ((u64 b.bn).tmod 4294967296)), b.th⟩
def tmX (b : Bx) : Bx := tmB b (bif b.th then 0 else w64 ((u64 b.h).tmod 68719476736))
theorem bx_round {L : Nat} {own : Bool} {o k n na : Nat} {g : Nat → Bx} {fa : Nat → List Value} {i : Int} :
    round (arun (bxG L) 1 54 (bodyOf Try.f66 0)) (canon (bxG L).T 1 ((bxG L).keep 3)) (bxS own o k n na g fa i) =
      bif decide (i < k) then bif decide (i < 40) then bif decide (0 ≤ i) then bif decide (i < k) then bif decide (o + i.toNat < n) then
        bif (g (o + i.toNat)).th then
          bif decide (na = na) then bif decide ((na + 1) * 48 ≤ maxCells) then some (.normal, bxS own o k n (na + 1) g (upd fa na (encX (tmB (g (o + i.toNat)) 0))) (w64 (i + 1))) else none else none
        else
          bif decide (na = na) then bif decide ((na + 1) * 48 ≤ maxCells) then some (.normal, bxS own o k n (na + 1) g (upd fa na (encX (tmB (g (o + i.toNat)) (w64 ((u64 (g (o + i.toNat)).h).tmod 68719476736))))) (w64 (i + 1))) else none else none
      else none else none else none else some (.exit 0, bxE1 own o k n na g fa i) else some (.exit 0, bxE2 own o k n na g fa i) := by
  kernel_rfl
def zX : Bx := ⟨0, 0, 0, 0, 0, false⟩
def rwX (f : Nat → Bx) (i : Nat) : Nat → List Value := fun j => encX (if j < i then f j else zX)
theorem rwX_step (f : Nat → Bx) (i : Nat) : upd (rwX f i) i (encX (f i)) = rwX f (i + 1) := by
  funext j
  unfold upd rwX
  by_cases h : j = i
  · subst h; simp
  · by_cases h2 : j < i
    · simp [h, h2, Nat.lt_succ_of_lt h2]
    · have : ¬ j < i + 1 := by omega
      simp [h, h2, this]
theorem decX_rwX (f : Nat → Bx) {i j : Nat} (h : j < i) : decX (rwX f i j) = f j := by simp [rwX, h, decX_enc]
def bxI (own : Bool) (o k n : Nat) (g : Nat → Bx) (i : Nat) : St := bxS own o k n i g (rwX (fun j => tmX (g (o + j))) i) i
theorem bx_step {L : Nat} {own : Bool} {o k n : Nat} {g : Nat → Bx} (hn : o + k ≤ n) {j : Nat} (hj : j < k) (hj2 : j < 40) :
    round (arun (bxG L) 1 54 (bodyOf Try.f66 0)) (canon (bxG L).T 1 ((bxG L).keep 3)) (bxI own o k n g j) = some (.normal, bxI own o k n g (j + 1)) := by
  simp only [bxI]
  rw [bx_round]
  have h1 : (j : Int) < k := by omega
  have h2 : (j : Int) < 40 := by omega
  have h3 : w64 ((j : Int) + 1) = ((j + 1 : Nat) : Int) := by rw [w64_id (by omega) (by omega)]; omega
  have h4 : (j + 1) * 48 ≤ maxCells := cells_ok (by omega) (by omega)
  have h5 : decide ((0 : Int) ≤ (j : Int)) = true := by simp
  have h6 : o + j < n := by omega
  simp only [h1, h2, h3, h4, h5, h6, decide_true, cond_true, Int.toNat_natCast]
  rw [← rwX_step (fun j => tmX (g (o + j))) j]
  simp only [tmX]
  cases (g (o + j)).th <;> rfl
theorem bx_loop1 {L : Nat} {own : Bool} {o k n : Nat} {g : Nat → Bx} (hn : o + k ≤ n) (hk : 40 < k) (hL : 40 < L) :
    (iter (arun (bxG L) 1 54 (bodyOf Try.f66 0)) (canon (bxG L).T 1 ((bxG L).keep 3)) L (bxI own o k n g 0)).eval = some (.exit 0, bxE1 own o k n 40 g (rwX (fun j => tmX (g (o + j))) 40) 40) := by
  refine iter_upto (fun i => bxI own o k n g i) (N := 40) (by simp) ?_ L 0 (Nat.zero_le _) (by omega) fun j _ hj => bx_step hn (by omega) hj
  simp only [bxI]
  rw [bx_round]
  have h1 : ((40 : Nat) : Int) < k := by omega
  have h2 : ¬ (((40 : Nat) : Int) < 40) := by omega
  simp only [h1, h2, decide_true, decide_false, cond_true, cond_false]
  rfl
theorem bx_loop2 {L : Nat} {own : Bool} {o k n : Nat} {g : Nat → Bx} (hn : o + k ≤ n) (hk : k ≤ 40) (hL : k < L) :
    (iter (arun (bxG L) 1 54 (bodyOf Try.f66 0)) (canon (bxG L).T 1 ((bxG L).keep 3)) L (bxI own o k n g 0)).eval = some (.exit 0, bxE2 own o k n k g (rwX (fun j => tmX (g (o + j))) k) k) := by
  refine iter_upto (fun i => bxI own o k n g i) (N := k) (by simp) ?_ L 0 (Nat.zero_le _) (by omega) fun j _ hj => bx_step hn hj (by omega)
  simp only [bxI]
  rw [bx_round]
  simp
theorem bx_whole1 {L : Nat} {own : Bool} {o k n : Nat} {g : Nat → Bx} :
    (lfun (bxG L) (told 54 (bodyOf Try.f66 0) (bxI own o k n g 0) (.exit 0, bxE1 own o k n 40 g (rwX (fun j => tmX (g (o + j))) 40) 40)) 60 Try.f66 [.c (.sl 0 o k)] [rowX own n g]).eval =
      bif yes (was 54 (bodyOf Try.f66 0) (bxI own o k n g 0)) then some (.c (.sl 1 0 40), bxH own n 40 g (rwX (fun j => tmX (g (o + j))) 40)) else none := by
  kernel_rfl
theorem bx_whole2 {L : Nat} {own : Bool} {o k n : Nat} {g : Nat → Bx} :
    (lfun (bxG L) (told 54 (bodyOf Try.f66 0) (bxI own o k n g 0) (.exit 0, bxE2 own o k n k g (rwX (fun j => tmX (g (o + j))) k) k)) 60 Try.f66 [.c (.sl 0 o k)] [rowX own n g]).eval =
      bif yes (was 54 (bodyOf Try.f66 0) (bxI own o k n g 0)) then some (.c (.sl 1 0 k), bxH own n k g (rwX (fun j => tmX (g (o + j))) k)) else none := by
  kernel_rfl
def m40 (k : Nat) : Nat := if k ≤ 40 then k else 40
noncomputable def bxF : Spec := fun args h => match args, h with
  | [.c (.sl 0 o k)], [some ⟨61, own, .row 6 n f⟩] =>
    .need (yes (o + k ≤ n ∧ f = fun i => encX (decX (f i)))) (.ret (.c (.sl 1 0 (m40 k)), [some ⟨61, own, .row 6 n f⟩, some ⟨61, true, .row 6 (m40 k) (rwX (fun j => tmX (decX (f (o + j)))) (m40 k))⟩]))
  | _, _ => .fail
theorem bxF_ok : SpecOk Try.prog 66 bxF := by
  refine known' K_nil' Try.func66 fun args h r he => ?_
  unfold bxF at he
  split at he
  · rename_i o k own n f
    obtain ⟨⟨h1, h3⟩, he⟩ := Tr.eval_ask.1 he
    cases he
    by_cases hk : k ≤ 40
    · have hl : LoopsOk (bxG (k + 1)) 1 _ := told_ok (bx_loop2 (own := own) (g := fun i => decX (f i)) h1 hk (Nat.lt_succ_self _))
      have hw := bx_whole2 (L := k + 1) (own := own) (o := o) (k := k) (n := n) (g := fun i => decX (f i))
      rw [yes_of ⟨rfl, rfl, rfl⟩] at hw
      have hf := lfun_ok (h := [rowX own n fun i => decX (f i)]) hl hw
      rw [bxH, rowX, ← h3] at hf
      have hm : m40 k = k := by simp [m40, hk]
      rw [hm]
      exact ⟨_, _, _, hf⟩
    · have hl : LoopsOk (bxG 41) 1 _ := told_ok (bx_loop1 (L := 41) (own := own) (g := fun i => decX (f i)) h1 (by omega) (by decide))
      have hw := bx_whole1 (L := 41) (own := own) (o := o) (k := k) (n := n) (g := fun i => decX (f i))
      rw [yes_of ⟨rfl, rfl, rfl⟩] at hw
      have hf := lfun_ok (h := [rowX own n fun i => decX (f i)]) hl hw
      rw [bxH, rowX, ← h3] at hf
      have hm : m40 k = 40 := by simp [m40, hk]
      rw [hm]
      exact ⟨_, _, _, hf⟩
  · cases he

/- Stacked. -/
noncomputable def KS0 : Known := [(43, sValue), (44, joinF)]
theorem KS0_ok : KnownOk KS0 := by
  intro f F h
  simp only [KS0, List.mem_cons, Prod.mk.injEq, List.not_mem_nil, or_false] at h
  rcases h with ⟨rfl, rfl⟩ | ⟨rfl, rfl⟩
  · exact KF_ok _ _ (by simp [KF])
  · exact KF_ok _ _ (by simp [KF])
noncomputable def stG (L : Nat) : Ctx2 := GK KS0 (fun k => if k = 6 then [(1,none),(2,none),(7,none),(8,some 2),(9,none),(10,none),(11,none),(15,none),(16,none),(17,none)] else []) L
def stH (own : Bool) (n na : Nat) (g : Nat → Bx) (fa : Nat → List Value) (tp tn fp fn : Int) : AHeap :=
  [rowX own n g, some ⟨63, true, .one [i64 0, i64 0, i64 0, i64 0, bo false, i64 0]⟩, some ⟨2, true, .row 1 na fa⟩, some ⟨63, true, .one [i64 tp, i64 tn, i64 0, i64 0, bo false, i64 0]⟩, some ⟨27, true, .one [i64 fp, i64 fn]⟩]
def stS (own : Bool) (o k n na : Nat) (g : Nat → Bx) (fa : Nat → List Value) (top bottom : Bool) (tp tn fp fn y i : Int) : St :=
  ⟨slots 73 [(1, Bo top), (2, Bo bottom), (7, .c (.ptr 1 0 0)), (8, .c (.sl 2 0 na)), (9, .c (.ptr 3 0 0)), (10, .c (.ptr 4 0 0)), (11, I64 y), (15, .c (.sl 0 o k)), (16, I64 k), (17, I64 i)], stH own n na g fa tp tn fp fn⟩
def stE (own : Bool) (o k n na : Nat) (g : Nat → Bx) (fa : Nat → List Value) (top bottom : Bool) (tp tn fp fn y i : Int) : St :=
  ⟨slots 73 [(1, Bo top), (2, Bo bottom), (7, .c (.ptr 1 0 0)), (8, .c (.sl 2 0 na)), (9, .c (.ptr 3 0 0)), (10, .c (.ptr 4 0 0)), (11, I64 y), (15, .c (.sl 0 o k)), (16, I64 k), (17, I64 i), (18, Bo false)], stH own n na g fa tp tn fp fn⟩
def mpB (b : Bx) (fp : Int) : Int := jmax b.tp (jmax fp 0)
def mnB (b : Bx) (fn : Int) : Int := jmin b.tn (jmin fn 0)
def stL (own : Bool) (o k n na : Nat) (g : Nat → Bx) (fa : Nat → List Value) (top bottom : Bool) (tp tn fp fn y i at_ : Int) (b : Bx) : Option (Ex × St) :=
  bif decide (na = na) then bif decide ((na + 1) * 8 ≤ maxCells) then
    bif b.th then some (.normal, stS own o k n (na + 1) g (upd fa na (e1 at_)) top bottom tp tn (jmax b.bp (jmax (mpB b fp) 0)) (jmin b.bn (jmin (mnB b fn) 0)) y (w64 (i + 1)))
    else bif top then some (.normal, stS own o k n (na + 1) g (upd fa na (e1 at_)) false bottom (mpB b fp) (mnB b fn) b.bp b.bn (w64 (at_ + b.h)) (w64 (i + 1)))
    else some (.normal, stS own o k n (na + 1) g (upd fa na (e1 at_)) top bottom tp tn b.bp b.bn (w64 (at_ + b.h)) (w64 (i + 1)))
  else none else none
theorem st_round {L : Nat} {own : Bool} {o k n na : Nat} {g : Nat → Bx} {fa : Nat → List Value} {top bottom : Bool} {tp tn fp fn y i : Int} :
    round (arun (stG L) 1 51 (bodyOf Try.f68 0)) (canon (stG L).T 1 ((stG L).keep 6)) (stS own o k n na g fa top bottom tp tn fp fn y i) =
      bif decide (i < k) then bif decide (0 ≤ i) then bif decide (i < k) then bif decide (o + i.toNat < n) then
        bif top then stL own o k n na g fa top bottom tp tn fp fn y i 0 (g (o + i.toNat))
        else stL own o k n na g fa top bottom tp tn fp fn y i (w64 (y + w64 (mpB (g (o + i.toNat)) fp + mnB (g (o + i.toNat)) fn))) (g (o + i.toNat))
      else none else none else none else some (.exit 0, stE own o k n na g fa top bottom tp tn fp fn y i) := by
  kernel_rfl
def stI (own : Bool) (o k n : Nat) (g : Nat → Bx) (top bottom : Bool) (i : Nat) : St :=
  stS own o k n i g (rw1 (ats (fun j => g (o + j)) top) i) (run (fun j => g (o + j)) top i).top bottom (run (fun j => g (o + j)) top i).op (run (fun j => g (o + j)) top i).on (run (fun j => g (o + j)) top i).fp (run (fun j => g (o + j)) top i).fn (run (fun j => g (o + j)) top i).y i
def stF (own : Bool) (o k n : Nat) (g : Nat → Bx) (top bottom : Bool) : St :=
  stE own o k n k g (rw1 (ats (fun j => g (o + j)) top) k) (run (fun j => g (o + j)) top k).top bottom (run (fun j => g (o + j)) top k).op (run (fun j => g (o + j)) top k).on (run (fun j => g (o + j)) top k).fp (run (fun j => g (o + j)) top k).fn (run (fun j => g (o + j)) top k).y k
theorem st_loop {L : Nat} {own : Bool} {o k n : Nat} {g : Nat → Bx} {top bottom : Bool} (hn : o + k ≤ n) (hk : k < 2 ^ 40) (hL : k < L) :
    (iter (arun (stG L) 1 51 (bodyOf Try.f68 0)) (canon (stG L).T 1 ((stG L).keep 6)) L (stI own o k n g top bottom 0)).eval = some (.exit 0, stF own o k n g top bottom) := by
  refine iter_upto (fun i => stI own o k n g top bottom i) (N := k) (by simp) ?_ L 0 (Nat.zero_le _) (by omega) ?_
  · simp only [stI]
    rw [st_round]
    simp [stF]
  · intro j _ hj
    simp only [stI]
    rw [st_round]
    have h1 : (j : Int) < k := by omega
    have h3 : w64 ((j : Int) + 1) = ((j + 1 : Nat) : Int) := by rw [w64_id (by omega) (by omega)]; omega
    have h4 : (j + 1) * 8 ≤ maxCells := cells_ok (by omega) (by omega)
    have h5 : decide ((0 : Int) ≤ (j : Int)) = true := by simp
    have h6 : o + j < n := by omega
    simp only [h1, h3, h4, h5, h6, decide_true, cond_true, Int.toNat_natCast, stL]
    rw [← rw1_step (ats (fun j => g (o + j)) top) j]
    have e1 : run (fun j => g (o + j)) top (j + 1) = (run (fun j => g (o + j)) top j).step (g (o + j)) := rfl
    have e2 : ats (fun j => g (o + j)) top j = (run (fun j => g (o + j)) top j).at (g (o + j)) := rfl
    rw [e1, e2]
    generalize run (fun j => g (o + j)) top j = s
    generalize g (o + j) = b
    obtain ⟨fp, fn, y, op, on, tp⟩ := s
    simp only [Sk.step, Sk.at, mpB, mnB, Sk.mp, Sk.mn]
    cases tp <;> cases b.th <;> rfl
end Go.Proofs.Ytcpahifgdppkbaa.QAI
