/- FoldBounds: the walk. -/
import Derived.Test.YtcpahifgdppkbaaF1
set_option linter.unusedVariables false
set_option linter.unusedSimpArgs false
namespace Go.Proofs.Ytcpahifgdppkbaa.QAI
open Go Go.RowKit
set_option maxRecDepth 100000

noncomputable def sTame : Spec := afun (GK [] (fun _ => []) 0) 60 Try.f41
noncomputable def sOf : Spec := afun (GK [] (fun _ => []) 0) 60 Try.f42
noncomputable def sValue : Spec := afun (GK [] (fun _ => []) 0) 60 Try.f43
noncomputable def KF : Known := [(41, sTame), (42, sOf), (43, sValue), (44, joinF)]
theorem KF_ok : KnownOk KF := by
  intro f F h
  simp only [KF, List.mem_cons, Prod.mk.injEq, List.not_mem_nil, or_false] at h
  have h0 : KnownOk [] := fun _ _ h => by cases h
  rcases h with ⟨rfl, rfl⟩ | ⟨rfl, rfl⟩ | ⟨rfl, rfl⟩ | ⟨rfl, rfl⟩
  · exact ⟨known0 h0 60 Try.func41, by kernel_rfl⟩
  · exact ⟨known0 h0 60 Try.func42, by kernel_rfl⟩
  · exact ⟨known0 h0 60 Try.func43, by kernel_rfl⟩
  · exact ⟨join_ok, by kernel_rfl⟩

noncomputable def sAwake : Spec := fun args h => match args, h with
  | [], [] => .ret (Bo true, [])
  | _, _ => .fail
theorem awake_eq : (afun (GK KF (fun _ => []) 0) 60 Try.f40 [] []).eval = some (Bo true, []) := by kernel_rfl
theorem awake_ok : SpecOk Try.prog 40 sAwake := by
  refine known' KF_ok Try.func40 fun args h r he => ?_
  unfold sAwake at he
  split at he
  · cases he
    exact ⟨_, _, _, awake_eq⟩
  · cases he
noncomputable def KA : Known := (40, sAwake) :: KF
theorem KA_ok : KnownOk KA := by
  intro f F h
  rcases List.mem_cons.1 h with h | h
  · cases h
    exact ⟨awake_ok, by kernel_rfl⟩
  · exact KF_ok f F h

def e1 (x : Int) : List Value := [.int .i64 x]
def d1 : List Value → Int
  | [.int _ a] => a
  | _ => 0
def ofI (x : Int) : Int × Int := (if 0 > x then 0 else x, if 0 < x then 0 else x)
def tm (x : Int) : Int := x.tmod 1099511627776
def bH (k : Nat) (g : Nat → Int) (na nb : Nat) (fa fb : Nat → List Value) : AHeap := [some ⟨2, false, .row 1 k fun i => e1 (g i)⟩, some ⟨27, true, .row 2 na fa⟩, some ⟨27, true, .row 2 nb fb⟩]
def bS (k : Nat) (g : Nat → Int) (minus : Bool) (na nb : Nat) (fa fb : Nat → List Value) (pos neg far i : Int) : St :=
  ⟨slots 81 [(0, .c (.sl 0 0 k)), (1, Bo minus), (4, Bo false), (5, .c (.sl 1 0 na)), (6, .c (.sl 2 0 nb)), (7, I64 pos), (8, I64 neg), (9, I64 far), (10, I64 i)], bH k g na nb fa fb⟩
def bE (k : Nat) (g : Nat → Int) (minus : Bool) (na nb : Nat) (fa fb : Nat → List Value) (pos neg far i : Int) : St :=
  ⟨slots 81 [(0, .c (.sl 0 0 k)), (1, Bo minus), (4, Bo false), (5, .c (.sl 1 0 na)), (6, .c (.sl 2 0 nb)), (7, I64 pos), (8, I64 neg), (9, I64 far), (10, I64 i), (18, I64 i), (19, .c (.sl 0 0 k)), (20, I64 k), (21, Bo false)], bH k g na nb fa fb⟩
noncomputable def bG (L : Nat) : Ctx2 := GK KA (fun k => if k = 6 then [(0,some 2),(1,none),(4,none),(5,some 27),(6,some 27),(7,none),(8,none),(9,none),(10,none)] else []) L
def bT (k : Nat) (g : Nat → Int) (minus : Bool) (na nb : Nat) (fa fb : Nat → List Value) (pos neg far i x y : Int) : Option (Ex × St) :=
  bif decide (nb = nb) then bif decide ((nb + 1) * 16 ≤ maxCells) then
    some (.normal, bS k g minus (na + 1) (nb + 1) (upd fa na (enc2 (ofI x))) (upd fb nb (enc2 (ofI y))) (jmax x pos) (jmin x neg) (jmax (IntKind.wrap .i64 (0 - y)) (jmax y far)) (IntKind.wrap .i64 (i + 1))) else none else none
theorem b_round {L k : Nat} {g : Nat → Int} {minus : Bool} {na nb : Nat} {fa fb : Nat → List Value} {pos neg far i : Int} :
    round (arun (bG L) 1 52 (bodyOf Try.f3 0)) (canon (bG L).T 1 ((bG L).keep 6)) (bS k g minus na nb fa fb pos neg far i) =
      bif decide (i < k) then bif decide (0 ≤ i) then bif decide (i < k) then bif decide (0 + i.toNat < k) then bif decide (na = na) then bif decide ((na + 1) * 16 ≤ maxCells) then
        bif !(decide (tm (g (0 + i.toNat)) < 0) == minus) then bT k g minus na nb fa fb pos neg far i (tm (g (0 + i.toNat))) (IntKind.wrap .i64 (0 - tm (g (0 + i.toNat))))
        else bT k g minus na nb fa fb pos neg far i (tm (g (0 + i.toNat))) (tm (g (0 + i.toNat)))
      else none else none else none else none else none else some (.exit 0, bE k g minus na nb fa fb pos neg far i) := by
  kernel_rfl

def fY (g : Nat → Int) (minus : Bool) (j : Nat) : Int := bif !(decide (tm (g j) < 0) == minus) then IntKind.wrap .i64 (0 - tm (g j)) else tm (g j)
def rowTo (f : Nat → Int) (i : Nat) : Nat → List Value := fun j => enc2 (if j < i then ofI (f j) else (0, 0))
def sPos (g : Nat → Int) : Nat → Int
  | 0 => 0
  | i + 1 => jmax (tm (g i)) (sPos g i)
def sNeg (g : Nat → Int) : Nat → Int
  | 0 => 0
  | i + 1 => jmin (tm (g i)) (sNeg g i)
def sFar (y : Nat → Int) : Nat → Int
  | 0 => 0
  | i + 1 => jmax (IntKind.wrap .i64 (0 - y i)) (jmax (y i) (sFar y i))
theorem rowTo_step (f : Nat → Int) (i : Nat) : upd (rowTo f i) i (enc2 (ofI (f i))) = rowTo f (i + 1) := by
  funext j
  unfold upd rowTo
  by_cases h : j = i
  · subst h; simp
  · by_cases h2 : j < i
    · simp [h, h2, Nat.lt_succ_of_lt h2]
    · have : ¬ j < i + 1 := by omega
      simp [h, h2, this]
def bI (k : Nat) (g : Nat → Int) (minus : Bool) (i : Nat) : St := bS k g minus i i (rowTo (fun j => tm (g j)) i) (rowTo (fY g minus) i) (sPos g i) (sNeg g i) (sFar (fY g minus) i) i
def bF (k : Nat) (g : Nat → Int) (minus : Bool) : St := bE k g minus k k (rowTo (fun j => tm (g j)) k) (rowTo (fY g minus) k) (sPos g k) (sNeg g k) (sFar (fY g minus) k) k

theorem b_loop {L k : Nat} {g : Nat → Int} {minus : Bool} (hk : k ≤ 60) (hL : k < L) :
    (iter (arun (bG L) 1 52 (bodyOf Try.f3 0)) (canon (bG L).T 1 ((bG L).keep 6)) L (bI k g minus 0)).eval = some (.exit 0, bF k g minus) := by
  refine iter_upto (fun i => bI k g minus i) (N := k) (by simp) ?_ L 0 (Nat.zero_le _) (by omega) ?_
  · simp only [bI]
    rw [b_round]
    simp [bF]
  · intro j _ hj
    simp only [bI]
    rw [b_round]
    have h1 : (j : Int) < k := by omega
    have h3 : IntKind.wrap .i64 ((j : Int) + 1) = ((j + 1 : Nat) : Int) := by rw [wrap_id (by omega) (by omega)]; omega
    have h4 : (j + 1) * 16 ≤ maxCells := by
      have : maxCells = 140737488355328 := rfl
      omega
    have h0 : (0 : Int) ≤ (j : Int) := by omega
    have h5 : decide ((0 : Int) ≤ (j : Int)) = true := by simp
    simp only [h1, hj, h3, h4, h5, decide_true, cond_true, Int.toNat_natCast, Nat.zero_add]
    rw [← rowTo_step (fun j => tm (g j)) j, ← rowTo_step (fY g minus) j]
    simp only [sPos, sNeg, sFar]
    cases hb : (!(decide (tm (g j) < 0) == minus)) <;> simp [bT, fY, hb, h4, h3]
end Go.Proofs.Ytcpahifgdppkbaa.QAI
