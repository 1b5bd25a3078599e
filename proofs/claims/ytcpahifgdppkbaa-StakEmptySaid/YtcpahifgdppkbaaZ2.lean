/- Boxes stacked: the whole, and the document's. -/
import Derived.Test.YtcpahifgdppkbaaZ1
set_option linter.unusedVariables false
set_option linter.unusedSimpArgs false
namespace Go.Proofs.Ytcpahifgdppkbaa.QAI
open Go Go.RowKit
set_option maxRecDepth 100000
def smC (s : Sm) : List AC := [i64 s.tp, i64 s.tn, i64 s.bp, i64 s.bn, bo s.th, i64 s.h]
def stO (own : Bool) (k n : Nat) (g : Nat → Bx) (f : Nat → Int) (l : List AC) : Option (AV × AHeap) := some (.tup [.c (.sl 1 0 k), .agg l], [rowX own n g, some ⟨2, true, .row 1 k (rw1 f k)⟩])
def stT (own : Bool) (k n : Nat) (g : Nat → Bx) (f : Nat → Int) (s : Sk) (bottom : Bool) : Option (AV × AHeap) :=
  bif s.top then stO own k n g f [i64 s.fp, i64 s.fn, i64 0, i64 0, bo bottom, i64 0]
  else bif bottom then stO own k n g f [i64 s.op, i64 s.on, i64 s.fp, i64 s.fn, bo false, i64 (jmax 0 s.y)]
  else stO own k n g f [i64 s.op, i64 s.on, i64 0, i64 0, bo false, i64 (jmax 0 (w64 (s.y + w64 (s.fp + s.fn))))]
theorem stT_eq (own : Bool) (k n : Nat) (g : Nat → Bx) (f : Nat → Int) (s : Sk) (bottom : Bool) : stT own k n g f s bottom = stO own k n g f (smC (s.fin bottom)) := by
  obtain ⟨fp, fn, y, op, on, tp⟩ := s
  simp only [stT, Sk.fin]
  cases tp <;> cases bottom <;> rfl
theorem st_whole {L : Nat} {own : Bool} {o k n : Nat} {g : Nat → Bx} {top bottom : Bool} :
    (lfun (stG L) (told 51 (bodyOf Try.f68 0) (stI own o k n g top bottom 0) (.exit 0, stF own o k n g top bottom)) 60 Try.f68 [.c (.sl 0 o k), Bo top, Bo bottom] [rowX own n g]).eval =
      bif yes (was 51 (bodyOf Try.f68 0) (stI own o k n g top bottom 0)) then stT own k n g (ats (fun j => g (o + j)) top) (run (fun j => g (o + j)) top k) bottom else none := by
  kernel_rfl
noncomputable def stackF (d : Spec) : Spec := fun args h => match args, h with
  | [.c (.sl 0 o k), .c (.v (.bool top)), .c (.v (.bool bottom))], [some ⟨61, own, .row 6 n f⟩] =>
    .need (yes (o + k ≤ n ∧ k < 2 ^ 40 ∧ f = fun i => encX (decX (f i)))) (.ret (.tup [.c (.sl 1 0 k), .agg (smC ((run (fun j => decX (f (o + j))) top k).fin bottom))], [some ⟨61, own, .row 6 n f⟩, some ⟨2, true, .row 1 k (rw1 (ats (fun j => decX (f (o + j))) top) k)⟩]))
  | args, h => d args h
theorem stack_ok : SpecOk Try.prog 68 (stackF (afun (stG 10) 60 Try.f68)) := by
  refine known' KS0_ok Try.func68 fun args h r he => ?_
  unfold stackF at he
  split at he
  · rename_i o k top bottom own n f
    obtain ⟨⟨h1, h2, h3⟩, he⟩ := Tr.eval_ask.1 he
    cases he
    have hl : LoopsOk (stG (k + 1)) 1 _ := told_ok (st_loop (own := own) (g := fun i => decX (f i)) (top := top) (bottom := bottom) h1 h2 (Nat.lt_succ_self _))
    have hw := st_whole (L := k + 1) (own := own) (o := o) (k := k) (n := n) (g := fun i => decX (f i)) (top := top) (bottom := bottom)
    rw [yes_of ⟨rfl, rfl, rfl⟩, cond_true, stT_eq] at hw
    have hf := lfun_ok (h := [rowX own n fun i => decX (f i)]) hl hw
    simp only [rowX] at hf; rw [← h3] at hf
    exact ⟨_, _, _, hf⟩
  · exact ⟨_, _, _, he⟩

/- The document's. -/
def keepFJ : Nat → List (Nat × Option TypeId) := fun k => if k = 3 then [(0,none),(2,none),(3,none),(4,none)] else []
noncomputable def KB : Known := [(154, afun (GK [] keepFJ 10) 60 Try.f154)]
theorem KB_ok : KnownOk KB := by
  intro f F h
  rcases List.mem_cons.1 h with h | h
  · cases h
    exact ⟨known' K_nil' Try.func154 fun _ _ _ h => ⟨_, _, _, h⟩, by kernel_rfl⟩
  · cases h
noncomputable def KR0 : Known := [(118, afun (GK KB (fun _ => []) 0) 60 Try.f118), (119, afun (GK [] (fun _ => []) 0) 60 Try.f119)]
theorem KR0_ok : KnownOk KR0 := by
  intro f F h
  rcases List.mem_cons.1 h with h | h
  · cases h
    exact ⟨known0 KB_ok 60 Try.func118, by kernel_rfl⟩
  · rcases List.mem_cons.1 h with h | h
    · cases h
      exact ⟨known0 K_nil' 60 Try.func119, by kernel_rfl⟩
    · cases h
noncomputable def rsG (L : Nat) : Ctx2 := GK KR0 (fun k => if k = 7 then [(0,none),(2,none),(7,none),(8,some 2),(9,none),(10,none),(11,none),(12,none),(13,none)] else []) L
def rsH (own : Bool) (n na : Nat) (g : Nat → Bx) (fa : Nat → List Value) (tp tn fp fn : Int) : AHeap :=
  [rowX own n g, some ⟨63, true, .one [i64 0, i64 0, i64 0, i64 0, bo false, i64 0]⟩, some ⟨2, true, .row 1 na fa⟩, some ⟨27, true, .one [i64 fp, i64 fn]⟩, some ⟨63, true, .one [i64 tp, i64 tn, i64 0, i64 0, bo false, i64 0]⟩]
def rsS (own : Bool) (o k n na : Nat) (g : Nat → Bx) (fa : Nat → List Value) (still bottom : Bool) (tp tn fp fn y i : Int) : St :=
  ⟨slots 94 [(0, .c (.sl 0 o k)), (2, Bo bottom), (7, .c (.ptr 1 0 0)), (8, .c (.sl 2 0 na)), (9, I64 y), (10, .c (.ptr 3 0 0)), (11, .c (.ptr 4 0 0)), (12, Bo still), (13, I64 i)], rsH own n na g fa tp tn fp fn⟩
def rsE (own : Bool) (o k n na : Nat) (g : Nat → Bx) (fa : Nat → List Value) (still bottom : Bool) (tp tn fp fn y i : Int) : St :=
  ⟨slots 94 [(0, .c (.sl 0 o k)), (2, Bo bottom), (7, .c (.ptr 1 0 0)), (8, .c (.sl 2 0 na)), (9, I64 y), (10, .c (.ptr 3 0 0)), (11, .c (.ptr 4 0 0)), (12, Bo still), (13, I64 i), (18, I64 i), (19, .c (.sl 0 o k)), (20, I64 k), (21, Bo false)], rsH own n na g fa tp tn fp fn⟩
def in3 (o k n : Nat) (i : Int) (x : Option (Ex × St)) : Option (Ex × St) := bif decide (0 ≤ i) then bif decide (i < k) then bif decide (o + i.toNat < n) then x else none else none else none
def rsL (own : Bool) (o k n na : Nat) (g : Nat → Bx) (fa : Nat → List Value) (still bottom : Bool) (tp tn fp fn y i at_ : Int) (b : Bx) : Option (Ex × St) :=
  bif b.th then bif decide (na = na) then bif decide ((na + 1) * 8 ≤ maxCells) then
    in3 o k n i (some (.normal, rsS own o k n (na + 1) g (upd fa na (e1 at_)) still bottom tp tn (jmax b.bp (jmax (mpB b fp) 0)) (jmin b.bn (jmin (mnB b fn) 0)) y (w64 (i + 1)))) else none else none
  else bif still then bif decide (na = na) then bif decide ((na + 1) * 8 ≤ maxCells) then
    in3 o k n i (in3 o k n i (some (.normal, rsS own o k n (na + 1) g (upd fa na (e1 0)) false bottom (mpB b fp) (mnB b fn) b.bp b.bn (w64 (0 + b.h)) (w64 (i + 1))))) else none else none
  else bif decide (na = na) then bif decide ((na + 1) * 8 ≤ maxCells) then
    in3 o k n i (in3 o k n i (some (.normal, rsS own o k n (na + 1) g (upd fa na (e1 at_)) false bottom tp tn b.bp b.bn (w64 (at_ + b.h)) (w64 (i + 1))))) else none else none
theorem rs_round {L : Nat} {own : Bool} {o k n na : Nat} {g : Nat → Bx} {fa : Nat → List Value} {still bottom : Bool} {tp tn fp fn y i : Int} :
    round (arun (rsG L) 1 50 (bodyOf Try.f69 0)) (canon (rsG L).T 1 ((rsG L).keep 7)) (rsS own o k n na g fa still bottom tp tn fp fn y i) =
      bif decide (i < k) then
        in3 o k n i (bif !still then in3 o k n i (rsL own o k n na g fa still bottom tp tn fp fn y i (w64 (y + w64 (mpB (g (o + i.toNat)) fp + mnB (g (o + i.toNat)) fn))) (g (o + i.toNat)))
          else in3 o k n i (rsL own o k n na g fa still bottom tp tn fp fn y i y (g (o + i.toNat))))
      else some (.exit 0, rsE own o k n na g fa still bottom tp tn fp fn y i) := by
  kernel_rfl
def rsI (own : Bool) (o k n : Nat) (g : Nat → Bx) (top bottom : Bool) (i : Nat) : St :=
  rsS own o k n i g (rw1 (ats (fun j => g (o + j)) top) i) (run (fun j => g (o + j)) top i).top bottom (run (fun j => g (o + j)) top i).op (run (fun j => g (o + j)) top i).on (run (fun j => g (o + j)) top i).fp (run (fun j => g (o + j)) top i).fn (run (fun j => g (o + j)) top i).y i
def rsF (own : Bool) (o k n : Nat) (g : Nat → Bx) (top bottom : Bool) : St :=
  rsE own o k n k g (rw1 (ats (fun j => g (o + j)) top) k) (run (fun j => g (o + j)) top k).top bottom (run (fun j => g (o + j)) top k).op (run (fun j => g (o + j)) top k).on (run (fun j => g (o + j)) top k).fp (run (fun j => g (o + j)) top k).fn (run (fun j => g (o + j)) top k).y k
theorem run_y {g : Nat → Bx} {top : Bool} : ∀ n, (run g top n).top = true → (run g top n).y = 0
  | 0, _ => rfl
  | n + 1, h => by
    have ih := run_y (g := g) (top := top) n
    simp only [run, Sk.step] at h ⊢
    split at h
    · rename_i h1
      simp only [h1, if_true]
      exact ih h
    · cases h
theorem rs_loop {L : Nat} {own : Bool} {o k n : Nat} {g : Nat → Bx} {top bottom : Bool} (hn : o + k ≤ n) (hk : k < 2 ^ 40) (hL : k < L) :
    (iter (arun (rsG L) 1 50 (bodyOf Try.f69 0)) (canon (rsG L).T 1 ((rsG L).keep 7)) L (rsI own o k n g top bottom 0)).eval = some (.exit 0, rsF own o k n g top bottom) := by
  refine iter_upto (fun i => rsI own o k n g top bottom i) (N := k) (by simp) ?_ L 0 (Nat.zero_le _) (by omega) ?_
  · simp only [rsI]
    rw [rs_round]
    simp [rsF]
  · intro j _ hj
    simp only [rsI]
    rw [rs_round]
    have h1 : (j : Int) < k := by omega
    have h3 : w64 ((j : Int) + 1) = ((j + 1 : Nat) : Int) := by rw [w64_id (by omega) (by omega)]; omega
    have h4 : (j + 1) * 8 ≤ maxCells := cells_ok (by omega) (by omega)
    have h5 : decide ((0 : Int) ≤ (j : Int)) = true := by simp
    have h6 : o + j < n := by omega
    simp only [in3, h1, h3, h4, h5, h6, decide_true, cond_true, Int.toNat_natCast, rsL]
    rw [← rw1_step (ats (fun j => g (o + j)) top) j]
    have e1 : run (fun j => g (o + j)) top (j + 1) = (run (fun j => g (o + j)) top j).step (g (o + j)) := rfl
    have e2 : ats (fun j => g (o + j)) top j = (run (fun j => g (o + j)) top j).at (g (o + j)) := rfl
    have hy := run_y (g := fun j => g (o + j)) (top := top) j
    rw [e1, e2]
    revert hy
    generalize run (fun j => g (o + j)) top j = s
    generalize g (o + j) = b
    obtain ⟨fp, fn, y, op, on, tp⟩ := s
    intro hy
    simp only [Sk.step, Sk.at, mpB, mnB, Sk.mp, Sk.mn]
    cases tp
    · cases b.th <;> rfl
    · have : y = 0 := hy rfl
      subst this
      cases b.th <;> rfl
theorem rs_whole {L : Nat} {own : Bool} {o k n : Nat} {g : Nat → Bx} {top bottom : Bool} :
    (lfun (rsG L) (told 50 (bodyOf Try.f69 0) (rsI own o k n g top bottom 0) (.exit 0, rsF own o k n g top bottom)) 60 Try.f69 [.c (.sl 0 o k), Bo top, Bo bottom] [rowX own n g]).eval =
      bif yes (was 50 (bodyOf Try.f69 0) (rsI own o k n g top bottom 0)) then stT own k n g (ats (fun j => g (o + j)) top) (run (fun j => g (o + j)) top k) bottom else none := by
  kernel_rfl
theorem rstack_ok : SpecOk Try.prog 69 (stackF fun _ _ => .fail) := by
  refine known' KR0_ok Try.func69 fun args h r he => ?_
  unfold stackF at he
  split at he
  · rename_i o k top bottom own n f
    obtain ⟨⟨h1, h2, h3⟩, he⟩ := Tr.eval_ask.1 he
    cases he
    have hl : LoopsOk (rsG (k + 1)) 1 _ := told_ok (rs_loop (own := own) (g := fun i => decX (f i)) (top := top) (bottom := bottom) h1 h2 (Nat.lt_succ_self _))
    have hw := rs_whole (L := k + 1) (own := own) (o := o) (k := k) (n := n) (g := fun i => decX (f i)) (top := top) (bottom := bottom)
    rw [yes_of ⟨rfl, rfl, rfl⟩, cond_true, stT_eq] at hw
    have hf := lfun_ok (h := [rowX own n fun i => decX (f i)]) hl hw
    simp only [rowX] at hf; rw [← h3] at hf
    exact ⟨_, _, _, hf⟩
  · cases he

/- awake. -/
noncomputable def KW : Known := [(43, sValue), (44, joinF), (117, afun (GK [] (fun _ => []) 0) 60 Try.f117), (68, stackF (afun (stG 10) 60 Try.f68))]
theorem K_cons' {K : Known} {f : Nat} {F : Spec} (h1 : SpecOk Try.prog f F) (h2 : nameOk Try.prog f = true) (h : KnownOk K) : KnownOk ((f, F) :: K) := by
  intro g G hg
  rcases List.mem_cons.1 hg with hg | hg
  · cases hg
    exact ⟨h1, h2⟩
  · exact h g G hg
theorem KW_ok : KnownOk KW := K_cons' (KF_ok 43 sValue (by simp [KF])).1 (by kernel_rfl) (K_cons' (KF_ok 44 joinF (by simp [KF])).1 (by kernel_rfl) (K_cons' (known0 K_nil' 60 Try.func117) (by kernel_rfl) (K_cons' stack_ok (by kernel_rfl) K_nil')))
noncomputable def sAwakeW : Spec := fun args h => match args, h with
  | [], [] => .ret (Bo true, [])
  | _, _ => .fail
theorem awakeW_eq : (afun (GK KW (fun _ => []) 0) 60 Try.f67 [] []).eval = some (Bo true, []) := by kernel_rfl
theorem awakeW_ok : SpecOk Try.prog 67 sAwakeW := by
  refine known' KW_ok Try.func67 fun args h r he => ?_
  unfold sAwakeW at he
  split at he
  · cases he
    exact ⟨_, _, _, awakeW_eq⟩
  · cases he
noncomputable def KS : Known := [(66, bxF), (67, sAwakeW), (68, stackF (afun (stG 10) 60 Try.f68)), (69, stackF fun _ _ => .fail), (70, sameF)]
theorem KS_ok : KnownOk KS := K_cons' bxF_ok (by kernel_rfl) (K_cons' awakeW_ok (by kernel_rfl) (K_cons' stack_ok (by kernel_rfl) (K_cons' rstack_ok (by kernel_rfl) (K_cons' same_ok (by kernel_rfl) K_nil'))))
end Go.Proofs.Ytcpahifgdppkbaa.QAI
