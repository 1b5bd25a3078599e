/- Rows of ints: brought near, lines behind each other, two rows compared. -/
import Derived.Test.YtcpahifgdppkbaaF2
import Derived.Test.YtcpahifgdppkbaaA19
set_option linter.unusedVariables false
set_option linter.unusedSimpArgs false
namespace Go.Proofs.Ytcpahifgdppkbaa.QAI
open Go Go.RowKit
set_option maxRecDepth 100000

theorem K_nil' : KnownOk [] := fun _ _ h => by cases h
abbrev nA : AV := .c (.v (.tuple #[]))
noncomputable def tG (L : Nat) : Ctx2 := GK [] (fun k => if k = 3 then [(0,none),(1,none),(5,some 2),(6,none)] else []) L
def tH (own : Bool) (n na : Nat) (g : Nat → Int) (fa : Nat → List Value) : AHeap := [some ⟨2, own, .row 1 n fun i => e1 (g i)⟩, some ⟨2, true, .row 1 na fa⟩]
def tS (own : Bool) (o k n na : Nat) (g : Nat → Int) (fa : Nat → List Value) (most i : Int) : St := ⟨slots 27 [(0, .c (.sl 0 o k)), (1, I64 most), (5, .c (.sl 1 0 na)), (6, I64 i)], tH own n na g fa⟩
def tE1 (own : Bool) (o k n na : Nat) (g : Nat → Int) (fa : Nat → List Value) (most i : Int) : St := ⟨slots 27 [(0, .c (.sl 0 o k)), (1, I64 most), (5, .c (.sl 1 0 na)), (6, I64 i), (7, I64 i),
                  (8, .c (.sl 0 o k)), (9, I64 k), (10, Bo (decide (i < k))), (11, Bo true), (12, I64 i), (13, Bo (decide (i < 60))), (14, Bo false)], tH own n na g fa⟩
def tE2 (own : Bool) (o k n na : Nat) (g : Nat → Int) (fa : Nat → List Value) (most i : Int) : St := ⟨slots 27 [(0, .c (.sl 0 o k)), (1, I64 most), (5, .c (.sl 1 0 na)), (6, I64 i), (7, I64 i),
                (8, .c (.sl 0 o k)), (9, I64 k), (10, Bo (decide (i < k))), (11, Bo false), (12, nA), (13, nA), (14, Bo false)], tH own n na g fa⟩
theorem t_round {L : Nat} {own : Bool} {o k n na : Nat} {g : Nat → Int} {fa : Nat → List Value} {most i : Int} :
    round (arun (tG L) 1 54 (bodyOf Try.f75 0)) (canon (tG L).T 1 ((tG L).keep 3)) (tS own o k n na g fa most i) =
      bif decide (i < k) then bif decide (i < 60) then bif decide (0 ≤ i) then bif decide (i < k) then bif decide (o + i.toNat < n) then bif decide (most ≠ 0) then bif decide (na = na) then bif decide ((na + 1) * 8 ≤ maxCells) then
        some (.normal, tS own o k n (na + 1) g (upd fa na (e1 ((g (o + i.toNat)).tmod most))) most (w64 (i + 1)))
      else none else none else none else none else none else none else some (.exit 0, tE1 own o k n na g fa most i) else some (.exit 0, tE2 own o k n na g fa most i) := by
  kernel_rfl
def rw1 (f : Nat → Int) (i : Nat) : Nat → List Value := fun j => e1 (if j < i then f j else 0)
theorem rw1_step (f : Nat → Int) (i : Nat) : upd (rw1 f i) i (e1 (f i)) = rw1 f (i + 1) := by
  funext j
  unfold upd rw1
  by_cases h : j = i
  · subst h; simp
  · by_cases h2 : j < i
    · simp [h, h2, Nat.lt_succ_of_lt h2]
    · have : ¬ j < i + 1 := by omega
      simp [h, h2, this]
theorem d1_rw1 (f : Nat → Int) {i j : Nat} (h : j < i) : d1 (rw1 f i j) = f j := by simp [rw1, h, e1, d1]
theorem cells_ok {n m : Nat} (h : n ≤ 2 ^ 40) (hm : m ≤ 100) : n * m ≤ maxCells := by
  have h1 : n * m ≤ 2 ^ 40 * 100 := Nat.mul_le_mul h hm
  have : maxCells = 140737488355328 := rfl
  omega
def tI (own : Bool) (o k n : Nat) (g : Nat → Int) (most : Int) (i : Nat) : St := tS own o k n i g (rw1 (fun j => (g (o + j)).tmod most) i) most i
theorem t_step {L : Nat} {own : Bool} {o k n : Nat} {g : Nat → Int} {most : Int} (hn : o + k ≤ n) (hm : most ≠ 0) {j : Nat} (hj : j < k) (hj2 : j < 60) :
    round (arun (tG L) 1 54 (bodyOf Try.f75 0)) (canon (tG L).T 1 ((tG L).keep 3)) (tI own o k n g most j) = some (.normal, tI own o k n g most (j + 1)) := by
  simp only [tI]
  rw [t_round]
  have h1 : (j : Int) < k := by omega
  have h2 : (j : Int) < 60 := by omega
  have h3 : w64 ((j : Int) + 1) = ((j + 1 : Nat) : Int) := by rw [w64_id (by omega) (by omega)]; omega
  have h4 : (j + 1) * 8 ≤ maxCells := cells_ok (by omega) (by omega)
  have h5 : decide ((0 : Int) ≤ (j : Int)) = true := by simp
  have h6 : o + j < n := by omega
  simp only [h1, h2, h3, h4, h5, h6, hm, decide_true, cond_true, Int.toNat_natCast, ne_eq, not_false_eq_true]
  rw [← rw1_step (fun j => (g (o + j)).tmod most) j]
theorem t_loop1 {L : Nat} {own : Bool} {o k n : Nat} {g : Nat → Int} {most : Int} (hn : o + k ≤ n) (hm : most ≠ 0) (hk : 60 < k) (hL : 60 < L) :
    (iter (arun (tG L) 1 54 (bodyOf Try.f75 0)) (canon (tG L).T 1 ((tG L).keep 3)) L (tI own o k n g most 0)).eval = some (.exit 0, tE1 own o k n 60 g (rw1 (fun j => (g (o + j)).tmod most) 60) most 60) := by
  refine iter_upto (fun i => tI own o k n g most i) (N := 60) (by simp) ?_ L 0 (Nat.zero_le _) (by omega) fun j _ hj => t_step hn hm (by omega) hj
  simp only [tI]
  rw [t_round]
  have h1 : ((60 : Nat) : Int) < k := by omega
  have h2 : ¬ (((60 : Nat) : Int) < 60) := by omega
  simp only [h1, h2, decide_true, decide_false, cond_true, cond_false]
  rfl
theorem t_loop2 {L : Nat} {own : Bool} {o k n : Nat} {g : Nat → Int} {most : Int} (hn : o + k ≤ n) (hm : most ≠ 0) (hk : k ≤ 60) (hL : k < L) :
    (iter (arun (tG L) 1 54 (bodyOf Try.f75 0)) (canon (tG L).T 1 ((tG L).keep 3)) L (tI own o k n g most 0)).eval = some (.exit 0, tE2 own o k n k g (rw1 (fun j => (g (o + j)).tmod most) k) most k) := by
  refine iter_upto (fun i => tI own o k n g most i) (N := k) (by simp) ?_ L 0 (Nat.zero_le _) (by omega) fun j _ hj => t_step hn hm hj (by omega)
  simp only [tI]
  rw [t_round]
  simp
theorem t_whole1 {L : Nat} {own : Bool} {o k n : Nat} {g : Nat → Int} {most : Int} :
    (lfun (tG L) (told 54 (bodyOf Try.f75 0) (tI own o k n g most 0) (.exit 0, tE1 own o k n 60 g (rw1 (fun j => (g (o + j)).tmod most) 60) most 60)) 60 Try.f75 [.c (.sl 0 o k), I64 most] [some ⟨2, own, .row 1 n fun i => e1 (g i)⟩]).eval =
      bif yes (was 54 (bodyOf Try.f75 0) (tI own o k n g most 0)) then some (.c (.sl 1 0 60), tH own n 60 g (rw1 (fun j => (g (o + j)).tmod most) 60)) else none := by
  kernel_rfl
theorem t_whole2 {L : Nat} {own : Bool} {o k n : Nat} {g : Nat → Int} {most : Int} :
    (lfun (tG L) (told 54 (bodyOf Try.f75 0) (tI own o k n g most 0) (.exit 0, tE2 own o k n k g (rw1 (fun j => (g (o + j)).tmod most) k) most k)) 60 Try.f75 [.c (.sl 0 o k), I64 most] [some ⟨2, own, .row 1 n fun i => e1 (g i)⟩]).eval =
      bif yes (was 54 (bodyOf Try.f75 0) (tI own o k n g most 0)) then some (.c (.sl 1 0 k), tH own n k g (rw1 (fun j => (g (o + j)).tmod most) k)) else none := by
  kernel_rfl
def m60 (k : Nat) : Nat := if k ≤ 60 then k else 60
noncomputable def tameF : Spec := fun args h => match args, h with
  | [.c (.sl 0 o k), .c (.v (.int .i64 most))], [some ⟨2, own, .row 1 n f⟩] =>
    .need (yes (o + k ≤ n ∧ most ≠ 0 ∧ f = fun i => e1 (d1 (f i)))) (.ret (.c (.sl 1 0 (m60 k)), [some ⟨2, own, .row 1 n f⟩, some ⟨2, true, .row 1 (m60 k) (rw1 (fun j => (d1 (f (o + j))).tmod most) (m60 k))⟩]))
  | _, _ => .fail
theorem tame_ok : SpecOk Try.prog 75 tameF := by
  refine known' K_nil' Try.func75 fun args h r he => ?_
  unfold tameF at he
  split at he
  · rename_i o k most own n f
    obtain ⟨⟨h1, h2, h3⟩, he⟩ := Tr.eval_ask.1 he
    cases he
    by_cases hk : k ≤ 60
    · have hl : LoopsOk (tG (k + 1)) 1 _ := told_ok (t_loop2 (own := own) (g := fun i => d1 (f i)) h1 h2 hk (Nat.lt_succ_self _))
      have hw := t_whole2 (L := k + 1) (own := own) (o := o) (k := k) (n := n) (g := fun i => d1 (f i)) (most := most)
      rw [yes_of ⟨rfl, rfl, rfl⟩] at hw
      have hf := lfun_ok (h := [some ⟨2, own, .row 1 n fun i => e1 (d1 (f i))⟩]) hl hw
      rw [tH, ← h3] at hf
      have hm : m60 k = k := by simp [m60, hk]
      rw [hm]
      exact ⟨_, _, _, hf⟩
    · have hl : LoopsOk (tG 61) 1 _ := told_ok (t_loop1 (L := 61) (own := own) (g := fun i => d1 (f i)) h1 h2 (by omega) (by decide))
      have hw := t_whole1 (L := 61) (own := own) (o := o) (k := k) (n := n) (g := fun i => d1 (f i)) (most := most)
      rw [yes_of ⟨rfl, rfl, rfl⟩] at hw
      have hf := lfun_ok (h := [some ⟨2, own, .row 1 n fun i => e1 (d1 (f i))⟩]) hl hw
      rw [tH, ← h3] at hf
      have hm : m60 k = 60 := by simp [m60, hk]
      rw [hm]
      exact ⟨_, _, _, hf⟩
  · cases he

/- Lines. -/
noncomputable def lG (L : Nat) : Ctx2 := GK [] (fun k => if k = 4 then [(1,none),(2,none),(7,some 2),(8,none),(11,none),(12,none),(13,none)] else []) L
def lS (own : Bool) (o k n na : Nat) (g : Nat → Int) (fa : Nat → List Value) (whole : Int) (rev : Bool) (at_ i : Int) : St := ⟨slots 35 [(1, I64 whole), (2, Bo rev), (7, .c (.sl 1 0 na)), (8, I64 at_), (11, .c (.sl 0 o k)), (12, I64 k), (13, I64 i)], tH own n na g fa⟩
def lE (own : Bool) (o k n na : Nat) (g : Nat → Int) (fa : Nat → List Value) (whole : Int) (rev : Bool) (at_ i : Int) : St := ⟨slots 35 [(1, I64 whole), (2, Bo rev), (7, .c (.sl 1 0 na)), (8, I64 at_), (11, .c (.sl 0 o k)), (12, I64 k), (13, I64 i), (14, Bo false)], tH own n na g fa⟩
theorem l_round {L : Nat} {own : Bool} {o k n na : Nat} {g : Nat → Int} {fa : Nat → List Value} {whole : Int} {rev : Bool} {at_ i : Int} :
    round (arun (lG L) 1 53 (bodyOf Try.f76 0)) (canon (lG L).T 1 ((lG L).keep 4)) (lS own o k n na g fa whole rev at_ i) =
      bif decide (i < k) then bif decide (0 ≤ i) then bif decide (i < k) then bif decide (o + i.toNat < n) then bif rev then
        bif decide (na = na) then bif decide ((na + 1) * 8 ≤ maxCells) then
        some (.normal, lS own o k n (na + 1) g (upd fa na (e1 (w64 (w64 (whole - at_) - g (o + i.toNat))))) whole rev (w64 (at_ + g (o + i.toNat))) (w64 (i + 1)))
        else none else none
      else bif decide (na = na) then bif decide ((na + 1) * 8 ≤ maxCells) then
        some (.normal, lS own o k n (na + 1) g (upd fa na (e1 at_)) whole rev (w64 (at_ + g (o + i.toNat))) (w64 (i + 1)))
        else none else none
      else none else none else none else some (.exit 0, lE own o k n na g fa whole rev at_ i) := by
  kernel_rfl
def atS (g : Nat → Int) (o : Nat) : Nat → Int
  | 0 => 0
  | i + 1 => w64 (atS g o i + g (o + i))
def ln (g : Nat → Int) (o : Nat) (whole : Int) (rev : Bool) (i : Nat) : Int := bif rev then w64 (w64 (whole - atS g o i) - g (o + i)) else atS g o i
def lI (own : Bool) (o k n : Nat) (g : Nat → Int) (whole : Int) (rev : Bool) (i : Nat) : St := lS own o k n i g (rw1 (ln g o whole rev) i) whole rev (atS g o i) i
theorem l_loop {L : Nat} {own : Bool} {o k n : Nat} {g : Nat → Int} {whole : Int} {rev : Bool} (hn : o + k ≤ n) (hk : k < 2 ^ 40) (hL : k < L) :
    (iter (arun (lG L) 1 53 (bodyOf Try.f76 0)) (canon (lG L).T 1 ((lG L).keep 4)) L (lI own o k n g whole rev 0)).eval = some (.exit 0, lE own o k n k g (rw1 (ln g o whole rev) k) whole rev (atS g o k) k) := by
  refine iter_upto (fun i => lI own o k n g whole rev i) (N := k) (by simp) ?_ L 0 (Nat.zero_le _) (by omega) ?_
  · simp only [lI]
    rw [l_round]
    simp
  · intro j _ hj
    simp only [lI]
    rw [l_round]
    have h1 : (j : Int) < k := by omega
    have h3 : w64 ((j : Int) + 1) = ((j + 1 : Nat) : Int) := by rw [w64_id (by omega) (by omega)]; omega
    have h4 : (j + 1) * 8 ≤ maxCells := cells_ok (by omega) (by omega)
    have h5 : decide ((0 : Int) ≤ (j : Int)) = true := by simp
    have h6 : o + j < n := by omega
    simp only [h1, h3, h4, h5, h6, decide_true, cond_true, Int.toNat_natCast]
    rw [← rw1_step (ln g o whole rev) j]
    simp only [atS]
    cases rev <;> rfl
theorem l_whole {L : Nat} {own : Bool} {o k n : Nat} {g : Nat → Int} {whole : Int} {rev : Bool} :
    (lfun (lG L) (told 53 (bodyOf Try.f76 0) (lI own o k n g whole rev 0) (.exit 0, lE own o k n k g (rw1 (ln g o whole rev) k) whole rev (atS g o k) k)) 60 Try.f76 [.c (.sl 0 o k), I64 whole, Bo rev] [some ⟨2, own, .row 1 n fun i => e1 (g i)⟩]).eval =
      bif yes (was 53 (bodyOf Try.f76 0) (lI own o k n g whole rev 0)) then some (.c (.sl 1 0 k), tH own n k g (rw1 (ln g o whole rev) k)) else none := by
  kernel_rfl
noncomputable def linesF : Spec := fun args h => match args, h with
  | [.c (.sl 0 o k), .c (.v (.int .i64 whole)), .c (.v (.bool rev))], [some ⟨2, own, .row 1 n f⟩] =>
    .need (yes (o + k ≤ n ∧ k < 2 ^ 40 ∧ f = fun i => e1 (d1 (f i)))) (.ret (.c (.sl 1 0 k), [some ⟨2, own, .row 1 n f⟩, some ⟨2, true, .row 1 k (rw1 (ln (fun i => d1 (f i)) o whole rev) k)⟩]))
  | args, h => afun (lG 10) 60 Try.f76 args h
theorem lines_ok : SpecOk Try.prog 76 linesF := by
  refine known' K_nil' Try.func76 fun args h r he => ?_
  unfold linesF at he
  split at he
  · rename_i o k whole rev own n f
    obtain ⟨⟨h1, h2, h3⟩, he⟩ := Tr.eval_ask.1 he
    cases he
    have hl : LoopsOk (lG (k + 1)) 1 _ := told_ok (l_loop (own := own) (g := fun i => d1 (f i)) (whole := whole) (rev := rev) h1 h2 (Nat.lt_succ_self _))
    have hw := l_whole (L := k + 1) (own := own) (o := o) (k := k) (n := n) (g := fun i => d1 (f i)) (whole := whole) (rev := rev)
    rw [yes_of ⟨rfl, rfl, rfl⟩] at hw
    have hf := lfun_ok (h := [some ⟨2, own, .row 1 n fun i => e1 (d1 (f i))⟩]) hl hw
    rw [tH, ← h3] at hf
    exact ⟨_, _, _, hf⟩
  · exact ⟨_, _, _, he⟩

/- The document's lines. -/
noncomputable def rG (L : Nat) : Ctx2 := GK [] (fun k => if k = 4 then [(0,none),(1,none),(2,none),(7,some 2),(8,none),(9,none)] else []) L
def rS (own : Bool) (o k n na : Nat) (g : Nat → Int) (fa : Nat → List Value) (whole : Int) (rev : Bool) (at_ i : Int) : St := ⟨slots 38 [(0, .c (.sl 0 o k)), (1, I64 whole), (2, Bo rev), (7, .c (.sl 1 0 na)), (8, I64 at_), (9, I64 i)], tH own n na g fa⟩
def rE (own : Bool) (o k n na : Nat) (g : Nat → Int) (fa : Nat → List Value) (whole : Int) (rev : Bool) (at_ i : Int) : St := ⟨slots 38 [(0, .c (.sl 0 o k)), (1, I64 whole), (2, Bo rev), (7, .c (.sl 1 0 na)), (8, I64 at_), (9, I64 i), (11, I64 i), (12, .c (.sl 0 o k)), (13, I64 k), (14, Bo false)], tH own n na g fa⟩
theorem r_round {L : Nat} {own : Bool} {o k n na : Nat} {g : Nat → Int} {fa : Nat → List Value} {whole : Int} {rev : Bool} {at_ i : Int} :
    round (arun (rG L) 1 53 (bodyOf Try.f80 0)) (canon (rG L).T 1 ((rG L).keep 4)) (rS own o k n na g fa whole rev at_ i) =
      bif decide (i < k) then bif rev then
        bif decide (0 ≤ i) then bif decide (i < k) then bif decide (o + i.toNat < n) then bif decide (na = na) then bif decide ((na + 1) * 8 ≤ maxCells) then bif decide (0 ≤ i) then bif decide (i < k) then bif decide (o + i.toNat < n) then
        some (.normal, rS own o k n (na + 1) g (upd fa na (e1 (w64 (w64 (whole - at_) - g (o + i.toNat))))) whole rev (w64 (at_ + g (o + i.toNat))) (w64 (i + 1)))
        else none else none else none else none else none else none else none else none
      else bif decide (na = na) then bif decide ((na + 1) * 8 ≤ maxCells) then bif decide (0 ≤ i) then bif decide (i < k) then bif decide (o + i.toNat < n) then
        some (.normal, rS own o k n (na + 1) g (upd fa na (e1 at_)) whole rev (w64 (at_ + g (o + i.toNat))) (w64 (i + 1)))
        else none else none else none else none else none
      else some (.exit 0, rE own o k n na g fa whole rev at_ i) := by
  kernel_rfl
def rI (own : Bool) (o k n : Nat) (g : Nat → Int) (whole : Int) (rev : Bool) (i : Nat) : St := rS own o k n i g (rw1 (ln g o whole rev) i) whole rev (atS g o i) i
theorem r_loop {L : Nat} {own : Bool} {o k n : Nat} {g : Nat → Int} {whole : Int} {rev : Bool} (hn : o + k ≤ n) (hk : k < 2 ^ 40) (hL : k < L) :
    (iter (arun (rG L) 1 53 (bodyOf Try.f80 0)) (canon (rG L).T 1 ((rG L).keep 4)) L (rI own o k n g whole rev 0)).eval = some (.exit 0, rE own o k n k g (rw1 (ln g o whole rev) k) whole rev (atS g o k) k) := by
  refine iter_upto (fun i => rI own o k n g whole rev i) (N := k) (by simp) ?_ L 0 (Nat.zero_le _) (by omega) ?_
  · simp only [rI]
    rw [r_round]
    simp
  · intro j _ hj
    simp only [rI]
    rw [r_round]
    have h1 : (j : Int) < k := by omega
    have h3 : w64 ((j : Int) + 1) = ((j + 1 : Nat) : Int) := by rw [w64_id (by omega) (by omega)]; omega
    have h4 : (j + 1) * 8 ≤ maxCells := cells_ok (by omega) (by omega)
    have h5 : decide ((0 : Int) ≤ (j : Int)) = true := by simp
    have h6 : o + j < n := by omega
    simp only [h1, h3, h4, h5, h6, decide_true, cond_true, Int.toNat_natCast]
    rw [← rw1_step (ln g o whole rev) j]
    simp only [atS]
    cases rev <;> rfl
theorem r_whole {L : Nat} {own : Bool} {o k n : Nat} {g : Nat → Int} {whole : Int} {rev : Bool} :
    (lfun (rG L) (told 53 (bodyOf Try.f80 0) (rI own o k n g whole rev 0) (.exit 0, rE own o k n k g (rw1 (ln g o whole rev) k) whole rev (atS g o k) k)) 60 Try.f80 [.c (.sl 0 o k), I64 whole, Bo rev] [some ⟨2, own, .row 1 n fun i => e1 (g i)⟩]).eval =
      bif yes (was 53 (bodyOf Try.f80 0) (rI own o k n g whole rev 0)) then some (.c (.sl 1 0 k), tH own n k g (rw1 (ln g o whole rev) k)) else none := by
  kernel_rfl
noncomputable def rlinesF : Spec := fun args h => match args, h with
  | [.c (.sl 0 o k), .c (.v (.int .i64 whole)), .c (.v (.bool rev))], [some ⟨2, own, .row 1 n f⟩] =>
    .need (yes (o + k ≤ n ∧ k < 2 ^ 40 ∧ f = fun i => e1 (d1 (f i)))) (.ret (.c (.sl 1 0 k), [some ⟨2, own, .row 1 n f⟩, some ⟨2, true, .row 1 k (rw1 (ln (fun i => d1 (f i)) o whole rev) k)⟩]))
  | _, _ => .fail
theorem rlines_ok : SpecOk Try.prog 80 rlinesF := by
  refine known' K_nil' Try.func80 fun args h r he => ?_
  unfold rlinesF at he
  split at he
  · rename_i o k whole rev own n f
    obtain ⟨⟨h1, h2, h3⟩, he⟩ := Tr.eval_ask.1 he
    cases he
    have hl : LoopsOk (rG (k + 1)) 1 _ := told_ok (r_loop (own := own) (g := fun i => d1 (f i)) (whole := whole) (rev := rev) h1 h2 (Nat.lt_succ_self _))
    have hw := r_whole (L := k + 1) (own := own) (o := o) (k := k) (n := n) (g := fun i => d1 (f i)) (whole := whole) (rev := rev)
    rw [yes_of ⟨rfl, rfl, rfl⟩] at hw
    have hf := lfun_ok (h := [some ⟨2, own, .row 1 n fun i => e1 (d1 (f i))⟩]) hl hw
    rw [tH, ← h3] at hf
    exact ⟨_, _, _, hf⟩
  · cases he

/- Two rows that are the same. -/
noncomputable def sG (L : Nat) : Ctx2 := GK [] (fun k => if k = 4 then [(0,none),(1,none),(5,none)] else []) L
def sH (own own' : Bool) (n n' : Nat) (g g' : Nat → Int) : AHeap := [some ⟨2, own, .row 1 n fun i => e1 (g i)⟩, some ⟨2, own', .row 1 n' fun i => e1 (g' i)⟩]
def sS (own own' : Bool) (o k n o' k' n' : Nat) (g g' : Nat → Int) (i : Int) : St := ⟨slots 26 [(0, .c (.sl 0 o k)), (1, .c (.sl 1 o' k')), (5, I64 i)], sH own own' n n' g g'⟩
def sE (own own' : Bool) (o k n o' k' n' : Nat) (g g' : Nat → Int) (i : Int) : St := ⟨slots 26 [(0, .c (.sl 0 o k)), (1, .c (.sl 1 o' k')), (5, I64 i), (11, I64 i), (12, .c (.sl 0 o k)), (13, I64 k), (14, Bo false)], sH own own' n n' g g'⟩
def sR (own own' : Bool) (o k n o' k' n' : Nat) (g g' : Nat → Int) (i : Int) : St := ⟨slots 26 [(0, .c (.sl 0 o k)), (1, .c (.sl 1 o' k')), (4, Bo false), (5, I64 i), (11, I64 i), (12, .c (.sl 0 o k)), (13, I64 k), (14, Bo true), (17, .c (.sl 0 o k)),
                              (18, I64 i), (19, .c (.ptr 0 (o + i.toNat) 0)), (20, I64 (g (o + i.toNat))), (21, .c (.sl 1 o' k')), (22, I64 i), (23, .c (.ptr 1 (o' + i.toNat) 0)), (24, I64 (g' (o' + i.toNat))), (25, Bo true)], sH own own' n n' g g'⟩
theorem s_round {L : Nat} {own own' : Bool} {o k n o' k' n' : Nat} {g g' : Nat → Int} {i : Int} :
    round (arun (sG L) 2 54 (bodyOf Try.f70 0)) (canon (sG L).T 2 ((sG L).keep 4)) (sS own own' o k n o' k' n' g g' i) =
      bif decide (i < k) then bif decide (0 ≤ i) then bif decide (i < k) then bif decide (o + i.toNat < n) then bif decide (0 ≤ i) then bif decide (i < k') then bif decide (o' + i.toNat < n') then
        bif g (o + i.toNat) != g' (o' + i.toNat) then some (.ret, sR own own' o k n o' k' n' g g' i)
        else some (.normal, sS own own' o k n o' k' n' g g' (w64 (i + 1)))
      else none else none else none else none else none else none else some (.exit 0, sE own own' o k n o' k' n' g g' i) := by
  kernel_rfl
theorem s_loop {L : Nat} {own own' : Bool} {o k n o' n' : Nat} {g g' : Nat → Int} (hn : o + k ≤ n) (hn' : o' + k ≤ n') (hk : k < 2 ^ 40) (hL : k < L) (he : ∀ i, i < k → g (o + i) = g' (o' + i)) :
    (iter (arun (sG L) 2 54 (bodyOf Try.f70 0)) (canon (sG L).T 2 ((sG L).keep 4)) L (sS own own' o k n o' k n' g g' 0)).eval = some (.exit 0, sE own own' o k n o' k n' g g' k) := by
  refine iter_upto (fun i => sS own own' o k n o' k n' g g' i) (N := k) (by simp) ?_ L 0 (Nat.zero_le _) (by omega) ?_
  · rw [s_round]
    simp
  · intro j _ hj
    rw [s_round]
    have h1 : (j : Int) < k := by omega
    have h3 : w64 ((j : Int) + 1) = ((j + 1 : Nat) : Int) := by rw [w64_id (by omega) (by omega)]; omega
    have h5 : decide ((0 : Int) ≤ (j : Int)) = true := by simp
    have h6 : o + j < n := by omega
    have h7 : o' + j < n' := by omega
    simp only [h1, h3, h5, h6, h7, decide_true, cond_true, Int.toNat_natCast, he j hj, bne_self_eq_false, cond_false]
theorem s_whole {L : Nat} {own own' : Bool} {o k n o' n' : Nat} {g g' : Nat → Int} :
    (lfun (sG L) (told 54 (bodyOf Try.f70 0) (sS own own' o k n o' k n' g g' 0) (.exit 0, sE own own' o k n o' k n' g g' k)) 60 Try.f70 [.c (.sl 0 o k), .c (.sl 1 o' k)] (sH own own' n n' g g')).eval =
      bif ((k : Int) != k) then some (Bo false, sH own own' n n' g g') else bif yes (was 54 (bodyOf Try.f70 0) (sS own own' o k n o' k n' g g' 0)) then some (Bo true, sH own own' n n' g g') else none := by
  kernel_rfl
noncomputable def sameF : Spec := fun args h => match args, h with
  | [.c (.sl 0 o k), .c (.sl 1 o' k')], [some ⟨2, own, .row 1 n f⟩, some ⟨2, own', .row 1 n' f'⟩] =>
    .need (yes (o + k ≤ n ∧ o' + k ≤ n' ∧ k < 2 ^ 40 ∧ (f = fun i => e1 (d1 (f i))) ∧ (f' = fun i => e1 (d1 (f' i))) ∧ k' = k ∧ ∀ i, i < k → d1 (f (o + i)) = d1 (f' (o' + i)))) (.ret (Bo true, [some ⟨2, own, .row 1 n f⟩, some ⟨2, own', .row 1 n' f'⟩]))
  | args, h => afun (sG 10) 60 Try.f70 args h
theorem same_ok : SpecOk Try.prog 70 sameF := by
  refine known' K_nil' Try.func70 fun args h r he => ?_
  unfold sameF at he
  split at he
  · rename_i o k o' k' own n f own' n' f'
    obtain ⟨⟨h1, h2, h3, h4, h5, h7, h6⟩, he⟩ := Tr.eval_ask.1 he
    cases he
    subst h7
    have hl : LoopsOk (sG (k' + 1)) 2 _ := told_ok (s_loop (own := own) (own' := own') (g := fun i => d1 (f i)) (g' := fun i => d1 (f' i)) h1 h2 h3 (Nat.lt_succ_self _) h6)
    have hw := s_whole (L := k' + 1) (own := own) (own' := own') (o := o) (k := k') (n := n) (o' := o') (n' := n') (g := fun i => d1 (f i)) (g' := fun i => d1 (f' i))
    rw [yes_of ⟨rfl, rfl, rfl⟩] at hw
    simp only [bne_self_eq_false, cond_false, cond_true] at hw
    have hf := lfun_ok (h := sH own own' n n' (fun i => d1 (f i)) (fun i => d1 (f' i))) hl hw
    rw [sH, ← h4, ← h5] at hf
    exact ⟨_, _, _, hf⟩
  · exact ⟨_, _, _, he⟩
end Go.Proofs.Ytcpahifgdppkbaa.QAI
