/- Margins that meet: fold.Join, Of, Value; Tame. -/
import Derived.Test.YtcpahifgdppkbaaA17
set_option linter.unusedVariables false
set_option linter.unusedSimpArgs false
namespace Go.Proofs.Ytcpahifgdppkbaa.QAI
open Go Go.RowKit
set_option maxRecDepth 100000

def enc2 (p : Int × Int) : List Value := [.int .i64 p.1, .int .i64 p.2]
def dec2 : List Value → Int × Int
  | [.int _ a, .int _ b] => (a, b)
  | _ => (0, 0)
def jS (own : Bool) (o k n : Nat) (g : Nat → Int × Int) (i p q : Int) : St :=
  ⟨slots 26 [(2, .c (.ptr 1 0 0)), (3, .c (.ptr 2 0 0)), (6, .c (.sl 0 o k)), (7, I64 k), (8, I64 i)], [some ⟨27, own, .row 2 n fun i => enc2 (g i)⟩, some ⟨27, true, .one [i64 0, i64 0]⟩, some ⟨27, true, .one [i64 p, i64 q]⟩]⟩
def jE (own : Bool) (o k n : Nat) (g : Nat → Int × Int) (i p q : Int) : St :=
  ⟨slots 26 [(2, .c (.ptr 1 0 0)), (3, .c (.ptr 2 0 0)), (6, .c (.sl 0 o k)), (7, I64 k), (8, I64 i), (9, Bo false)], [some ⟨27, own, .row 2 n fun i => enc2 (g i)⟩, some ⟨27, true, .one [i64 0, i64 0]⟩, some ⟨27, true, .one [i64 p, i64 q]⟩]⟩
noncomputable def jG (K : Known) (L : Nat) : Ctx2 := GK K (fun k => if k = 3 then [(2,none),(3,none),(6,none),(7,none),(8,none)] else []) L
def jmax (a p : Int) : Int := if a > p then a else p
def jmin (a p : Int) : Int := if a < p then a else p
def jp (g : Nat → Int × Int) (o : Nat) : Nat → Int × Int
  | 0 => (0, 0)
  | i + 1 => (jmax (g (o + i)).1 (jp g o i).1, jmin (g (o + i)).2 (jp g o i).2)

theorem j_round {K : Known} {L : Nat} {own : Bool} {o k n : Nat} {g : Nat → Int × Int} {i p q : Int} :
    round (arun (jG K L) 1 54 (bodyOf Try.f44 0)) (canon (jG K L).T 1 ((jG K L).keep 3)) (jS own o k n g i p q) =
      bif decide (i < k) then bif decide (0 ≤ i) then bif decide (i < k) then bif decide (o + i.toNat < n) then some (.normal, jS own o k n g (IntKind.wrap .i64 (i + 1)) (jmax (g (o + i.toNat)).1 p) (jmin (g (o + i.toNat)).2 q)) else none else none else none else some (.exit 0, jE own o k n g i p q) := by
  kernel_rfl

theorem wrap_id {x : Int} (h1 : -(2 ^ 62 : Int) ≤ x) (h2 : x < (2 ^ 62 : Int)) : IntKind.wrap .i64 x = x := by
  rw [IntKind.wrap_i64]
  omega

theorem j_loop {K : Known} {L : Nat} {own : Bool} {o k n : Nat} {g : Nat → Int × Int} (hn : o + k ≤ n) (hk : k < 2 ^ 60) (hL : k < L) :
    (iter (arun (jG K L) 1 54 (bodyOf Try.f44 0)) (canon (jG K L).T 1 ((jG K L).keep 3)) L (jS own o k n g 0 0 0)).eval = some (.exit 0, jE own o k n g k (jp g o k).1 (jp g o k).2) := by
  refine iter_upto (fun i => jS own o k n g i (jp g o i).1 (jp g o i).2) (N := k) (by simp) ?_ L 0 (Nat.zero_le _) (by omega) ?_
  · rw [j_round]
    simp
  · intro j _ hj
    rw [j_round]
    have h1 : (j : Int) < k := by omega
    have h2 : o + j < n := by omega
    have h3 : IntKind.wrap .i64 ((j : Int) + 1) = ((j + 1 : Nat) : Int) := by rw [wrap_id (by omega) (by omega)]; omega
    simp [h1, h2, h3, jp]

noncomputable def joinF : Spec := fun args h => match args, h with
  | [.c (.sl 0 o k)], [some ⟨27, own, .row 2 n f⟩] =>
    .need (yes (o + k ≤ n ∧ k < 2 ^ 60 ∧ f = fun i => enc2 (dec2 (f i)))) (.ret (.agg [i64 (jp (fun i => dec2 (f i)) o k).1, i64 (jp (fun i => dec2 (f i)) o k).2], [some ⟨27, own, .row 2 n f⟩]))
  | args, h => afun (jG [] 10) 60 Try.f44 args h

theorem j_whole {K : Known} {L : Nat} {own : Bool} {o k n : Nat} {g : Nat → Int × Int} :
    (lfun (jG K L) (told 54 (bodyOf Try.f44 0) (jS own o k n g 0 0 0) (.exit 0, jE own o k n g k (jp g o k).1 (jp g o k).2)) 60 Try.f44 [.c (.sl 0 o k)] [some ⟨27, own, .row 2 n fun i => enc2 (g i)⟩]).eval =
      bif yes (was 54 (bodyOf Try.f44 0) (jS own o k n g 0 0 0)) then some (.agg [i64 (jp g o k).1, i64 (jp g o k).2], [some ⟨27, own, .row 2 n fun i => enc2 (g i)⟩]) else none := by
  kernel_rfl
theorem join_ok : SpecOk Try.prog 44 joinF := by
  refine known' (K := []) (fun _ _ h => by cases h) Try.func44 fun args h r he => ?_
  unfold joinF at he
  split at he
  · rename_i o k own n f
    obtain ⟨⟨h1, h2, h3⟩, he⟩ := Tr.eval_ask.1 he
    have hl : LoopsOk (jG [] (k + 1)) 1 _ := told_ok (j_loop (own := own) (g := fun i => dec2 (f i)) h1 h2 (Nat.lt_succ_self _))
    have hw := j_whole (K := []) (L := k + 1) (own := own) (o := o) (k := k) (n := n) (g := fun i => dec2 (f i))
    rw [yes_of ⟨rfl, rfl, rfl⟩] at hw
    have hf := lfun_ok (h := [some ⟨27, own, .row 2 n fun i => enc2 (dec2 (f i))⟩]) hl hw
    rw [← h3] at hf
    cases he
    exact ⟨fun k => if k = 3 then [(2,none),(3,none),(6,none),(7,none),(8,none)] else [], k + 1, 60, hf⟩
  · exact ⟨fun k => if k = 3 then [(2,none),(3,none),(6,none),(7,none),(8,none)] else [], 10, 60, he⟩
end Go.Proofs.Ytcpahifgdppkbaa.QAI
