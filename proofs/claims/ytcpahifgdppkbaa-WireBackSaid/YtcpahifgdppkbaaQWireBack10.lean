/- Requests as bytes: small functions. -/
import Derived.Test.YtcpahifgdppkbaaQWireBack9
set_option linter.unusedVariables false
set_option linter.unusedSimpArgs false
set_option maxRecDepth 100000
namespace Go.Proofs.Ytcpahifgdppkbaa.QAI
section
open Go Go.RowKit
def ub (x : Int) : List Value := [.int .u8 x]
def rowU (own : Bool) (n : Nat) (B : Nat → Int) : Option ABlk := some ⟨5, own, .row 1 n fun j => ub (B j)⟩
def wrB (bad : Bool) (k : Nat) : Option ABlk := some ⟨168, true, .one [.sl 1 0 k, .v (.bool bad)]⟩
def wrN (bad : Bool) : Option ABlk := some ⟨168, true, .one [.v (.slice none 0 0), .v (.bool bad)]⟩
def rdB (bad : Bool) (i n : Nat) : Option ABlk := some ⟨175, true, .one [.sl 1 i n, .v (.bool bad)]⟩
noncomputable def nuG : Ctx2 := GK [] (fun k => if k = 2 then [(0,none),(1,none),(4,none)] else []) 6
theorem wb_nf {bad : Bool} {k : Nat} {B : Nat → Int} {n : Int} : (lfun niG nol 60 Try.f140 [.c (.ptr 0 0 0), I64 n] [wrB bad k, rowU true k B]).eval = bif bad then bif decide (k = k) then bif decide ((k + 1) * 1 ≤ maxCells) then some (.tup [], [some ⟨168, true, .one [.sl 2 0 (k + 1), .v (.bool true)]⟩, none, some ⟨5, true, .row 1 (k + 1) fun k_1 => [.int .u8 (bif decide (k_1 = k) then IntKind.u8.wrap n else B k_1)]⟩]) else none else none else bif decide (n < (0 : Int)) then bif decide (k = k) then bif decide ((k + 1) * 1 ≤ maxCells) then some (.tup [], [some ⟨168, true, .one [.sl 2 0 (k + 1), .v (.bool true)]⟩, none, some ⟨5, true, .row 1 (k + 1) fun k_1 => [.int .u8 (bif decide (k_1 = k) then IntKind.u8.wrap n else B k_1)]⟩]) else none else none else bif decide (k = k) then bif decide ((k + 1) * 1 ≤ maxCells) then some (.tup [], [some ⟨168, true, .one [.sl 2 0 (k + 1), .v (.bool (decide (n > (255 : Int))))]⟩, none, some ⟨5, true, .row 1 (k + 1) fun k_1 => [.int .u8 (bif decide (k_1 = k) then IntKind.u8.wrap n else B k_1)]⟩]) else none else none := by kernel_rfl
theorem wb0_nf {bad : Bool} {n : Int} : (lfun niG nol 60 Try.f140 [.c (.ptr 0 0 0), I64 n] [wrN bad]).eval = bif bad then some (.tup [], [some ⟨168, true, .one [.sl 1 0 1, .v (.bool true)]⟩, some ⟨5, true, .row 1 1 fun k => [.int .u8 (bif decide (k = 0) then IntKind.u8.wrap n else (0 : Int))]⟩]) else bif decide (n < (0 : Int)) then some (.tup [], [some ⟨168, true, .one [.sl 1 0 1, .v (.bool true)]⟩, some ⟨5, true, .row 1 1 fun k => [.int .u8 (bif decide (k = 0) then IntKind.u8.wrap n else (0 : Int))]⟩]) else some (.tup [], [some ⟨168, true, .one [.sl 1 0 1, .v (.bool (decide (n > (255 : Int))))]⟩, some ⟨5, true, .row 1 1 fun k => [.int .u8 (bif decide (k = 0) then IntKind.u8.wrap n else (0 : Int))]⟩]) := by kernel_rfl
theorem wn_nf {bad : Bool} {k : Nat} {B : Nat → Int} {n : Int} : (afun nuG 60 Try.f143 [.c (.ptr 0 0 0), I64 n] [wrB bad k, rowU true k B]).eval = bif bad then bif decide (k = k) then bif decide ((k + 1) * 1 ≤ maxCells) then bif decide (k + 1 = k + 1) then bif decide ((k + 1 + 1) * 1 ≤ maxCells) then bif decide (k + 1 + 1 = k + 1 + 1) then bif decide ((k + 1 + 1 + 1) * 1 ≤ maxCells) then bif decide (k + 1 + 1 + 1 = k + 1 + 1 + 1) then bif decide ((k + 1 + 1 + 1 + 1) * 1 ≤ maxCells) then some (.tup [], [some ⟨168, true, .one [.sl 2 0 (k + 1 + 1 + 1 + 1), .v (.bool true)]⟩, none, some ⟨5, true, .row 1 (k + 1 + 1 + 1 + 1) fun k_1 => [.int .u8 (bif decide (k_1 = k + 1 + 1 + 1) then IntKind.u8.wrap (n.fdiv (2 ^ min 0 IntKind.i64.bits)) else bif decide (k_1 = k + 1 + 1) then IntKind.u8.wrap (n.fdiv (2 ^ min 8 IntKind.i64.bits)) else bif decide (k_1 = k + 1) then IntKind.u8.wrap (n.fdiv (2 ^ min 16 IntKind.i64.bits)) else bif decide (k_1 = k) then IntKind.u8.wrap (n.fdiv (2 ^ min 24 IntKind.i64.bits)) else B k_1)]⟩]) else none else none else none else none else none else none else none else none else bif decide (n < (-2147483648 : Int)) then bif decide (k = k) then bif decide ((k + 1) * 1 ≤ maxCells) then bif decide (k + 1 = k + 1) then bif decide ((k + 1 + 1) * 1 ≤ maxCells) then bif decide (k + 1 + 1 = k + 1 + 1) then bif decide ((k + 1 + 1 + 1) * 1 ≤ maxCells) then bif decide (k + 1 + 1 + 1 = k + 1 + 1 + 1) then bif decide ((k + 1 + 1 + 1 + 1) * 1 ≤ maxCells) then some (.tup [], [some ⟨168, true, .one [.sl 2 0 (k + 1 + 1 + 1 + 1), .v (.bool true)]⟩, none, some ⟨5, true, .row 1 (k + 1 + 1 + 1 + 1) fun k_1 => [.int .u8 (bif decide (k_1 = k + 1 + 1 + 1) then IntKind.u8.wrap (n.fdiv (2 ^ min 0 IntKind.i64.bits)) else bif decide (k_1 = k + 1 + 1) then IntKind.u8.wrap (n.fdiv (2 ^ min 8 IntKind.i64.bits)) else bif decide (k_1 = k + 1) then IntKind.u8.wrap (n.fdiv (2 ^ min 16 IntKind.i64.bits)) else bif decide (k_1 = k) then IntKind.u8.wrap (n.fdiv (2 ^ min 24 IntKind.i64.bits)) else B k_1)]⟩]) else none else none else none else none else none else none else none else none else bif decide (k = k) then bif decide ((k + 1) * 1 ≤ maxCells) then bif decide (k + 1 = k + 1) then bif decide ((k + 1 + 1) * 1 ≤ maxCells) then bif decide (k + 1 + 1 = k + 1 + 1) then bif decide ((k + 1 + 1 + 1) * 1 ≤ maxCells) then bif decide (k + 1 + 1 + 1 = k + 1 + 1 + 1) then bif decide ((k + 1 + 1 + 1 + 1) * 1 ≤ maxCells) then some (.tup [], [some ⟨168, true, .one [.sl 2 0 (k + 1 + 1 + 1 + 1), .v (.bool (decide (n > (2147483647 : Int))))]⟩, none, some ⟨5, true, .row 1 (k + 1 + 1 + 1 + 1) fun k_1 => [.int .u8 (bif decide (k_1 = k + 1 + 1 + 1) then IntKind.u8.wrap (n.fdiv (2 ^ min 0 IntKind.i64.bits)) else bif decide (k_1 = k + 1 + 1) then IntKind.u8.wrap (n.fdiv (2 ^ min 8 IntKind.i64.bits)) else bif decide (k_1 = k + 1) then IntKind.u8.wrap (n.fdiv (2 ^ min 16 IntKind.i64.bits)) else bif decide (k_1 = k) then IntKind.u8.wrap (n.fdiv (2 ^ min 24 IntKind.i64.bits)) else B k_1)]⟩]) else none else none else none else none else none else none else none else none := by kernel_rfl
theorem wt_nf {bad : Bool} {k : Nat} {B : Nat → Int} {s : ByteArray} : (lfun niG nol 60 Try.f160 [.c (.ptr 0 0 0), .c (.v (.string s))] [wrB bad k, rowU true k B]).eval = bif bad then bif decide (k = k) then bif decide ((k + 2) * 1 ≤ maxCells) then bif decide (k + 2 = k + 2) then bif decide (0 + s.size ≤ s.size) then bif decide ((k + 2 + s.size) * 1 ≤ maxCells) then some (.tup [], [some ⟨168, true, .one [.sl 2 0 (k + 2 + s.size), .v (.bool true)]⟩, none, some ⟨5, true, .row 1 (k + 2 + s.size) fun k_1 => Decidable.rec (fun h => if k_1 < k + 2 + s.size then [.int .u8 (bt s ((0 + (k_1 - (k + 2)) : Nat) : Int))] else [.int .u8 (0 : Int)]) (fun h => updL (fun j => ub (B j)) k [[.int .u8 (IntKind.u8.wrap ((((s.size : Nat) : Int)).fdiv (2 ^ min 8 IntKind.i64.bits)))], [.int .u8 (IntKind.u8.wrap ((s.size : Nat) : Int))]] k_1) (k_1.decLt (k + 2))⟩]) else none else none else none else none else none else bif decide (k = k) then bif decide ((k + 2) * 1 ≤ maxCells) then bif decide (k + 2 = k + 2) then bif decide (0 + s.size ≤ s.size) then bif decide ((k + 2 + s.size) * 1 ≤ maxCells) then some (.tup [], [some ⟨168, true, .one [.sl 2 0 (k + 2 + s.size), .v (.bool (decide (((s.size : Nat) : Int) > (2000 : Int))))]⟩, none, some ⟨5, true, .row 1 (k + 2 + s.size) fun k_1 => Decidable.rec (fun h => if k_1 < k + 2 + s.size then [.int .u8 (bt s ((0 + (k_1 - (k + 2)) : Nat) : Int))] else [.int .u8 (0 : Int)]) (fun h => updL (fun j => ub (B j)) k [[.int .u8 (IntKind.u8.wrap ((((s.size : Nat) : Int)).fdiv (2 ^ min 8 IntKind.i64.bits)))], [.int .u8 (IntKind.u8.wrap ((s.size : Nat) : Int))]] k_1) (k_1.decLt (k + 2))⟩]) else none else none else none else none else none := by kernel_rfl
theorem rb_nf {bad own : Bool} {i n m : Nat} {B : Nat → Int} : (lfun niG nol 60 Try.f162 [.c (.ptr 0 0 0)] [rdB bad i n, rowU own m B]).eval = bif ((n : Nat) : Int) == (0 : Int) then some (I64 0, [some ⟨175, true, .one [.sl 1 i n, .v (.bool true)]⟩, some ⟨5, own, .row 1 m fun j => [.int .u8 (B j)]⟩]) else bif decide ((0 : Int) < ((n : Nat) : Int)) then bif decide (i < m) then bif decInt (1 : Int) (((n : Nat) : Int)) n then some (I64 (w64 (B i)), [some ⟨175, true, .one [.sl 1 (i + 1) (n - 1), .v (.bool bad)]⟩, some ⟨5, own, .row 1 m fun j => [.int .u8 (B j)]⟩]) else none else none else none := by kernel_rfl
theorem fi_nf {n : Int} : (lfun niG nol 60 Try.f146 [I64 n] []).eval = bif decide (n ≥ (-2147483648 : Int)) then some (Bo (decide (n < (2147483648 : Int))), []) else some (Bo false, []) := by kernel_rfl
theorem fo_nf {n : Int} : (lfun niG nol 60 Try.f147 [I64 n] []).eval = some (.c (.sl 0 0 4), [some ⟨5, true, .lst 1 [[.v (.int .u8 (IntKind.u8.wrap (n.fdiv (2 ^ min 24 IntKind.i64.bits))))], [.v (.int .u8 (IntKind.u8.wrap (n.fdiv (2 ^ min 16 IntKind.i64.bits))))], [.v (.int .u8 (IntKind.u8.wrap (n.fdiv (2 ^ min 8 IntKind.i64.bits))))], [.v (.int .u8 (IntKind.u8.wrap n))]] [.v (.int .u8 (0 : Int))]⟩]) := by kernel_rfl
theorem he_nf {n lo hi : Int} : (lfun niG nol 60 Try.f150 [I64 n, I64 lo, I64 hi] []).eval = some (I64 (mnI hi (mxI lo n)), []) := by kernel_rfl
theorem nm_nf {own : Bool} {m : Nat} {B : Nat → Int} {i : Int} : (lfun niG nol 60 Try.f151 [.c (.sl 0 0 m), I64 i] [rowU own m B]).eval = bif decide (w64 (i + (4 : Int)) > ((m : Nat) : Int)) then some (.tup [I64 0, Bo false], [some ⟨5, own, .row 1 m fun j => [.int .u8 (B j)]⟩]) else bif decide ((0 : Int) ≤ i) then bif decide (i < ((m : Nat) : Int)) then bif decide (0 + i.toNat < m) then bif decide ((0 : Int) ≤ w64 (i + (1 : Int))) then bif decide (w64 (i + (1 : Int)) < ((m : Nat) : Int)) then bif decide (0 + (w64 (i + (1 : Int))).toNat < m) then bif decide ((0 : Int) ≤ w64 (i + (2 : Int))) then bif decide (w64 (i + (2 : Int)) < ((m : Nat) : Int)) then bif decide (0 + (w64 (i + (2 : Int))).toNat < m) then bif decide ((0 : Int) ≤ w64 (i + (3 : Int))) then bif decide (w64 (i + (3 : Int)) < ((m : Nat) : Int)) then bif decide (0 + (w64 (i + (3 : Int))).toNat < m) then bif decide (w64 (((BitVec.ofInt IntKind.i64.bits (w64 (((BitVec.ofInt IntKind.i64.bits (w64 (((BitVec.ofInt IntKind.i64.bits (w64 (w64 (B (0 + i.toNat)) * (2 : Int) ^ min 24 IntKind.i64.bits)) ||| BitVec.ofInt IntKind.i64.bits (w64 (w64 (B (0 + (w64 (i + (1 : Int))).toNat)) * (2 : Int) ^ min 16 IntKind.i64.bits))).toNat : Nat) : Int)) ||| BitVec.ofInt IntKind.i64.bits (w64 (w64 (B (0 + (w64 (i + (2 : Int))).toNat)) * (2 : Int) ^ min 8 IntKind.i64.bits))).toNat : Nat) : Int)) ||| BitVec.ofInt IntKind.i64.bits (w64 (B (0 + (w64 (i + (3 : Int))).toNat)))).toNat : Nat) : Int) ≥ (2147483648 : Int)) then some (.tup [I64 (w64 (w64 (((BitVec.ofInt IntKind.i64.bits (w64 (((BitVec.ofInt IntKind.i64.bits (w64 (((BitVec.ofInt IntKind.i64.bits (w64 (w64 (B (0 + i.toNat)) * (2 : Int) ^ min 24 IntKind.i64.bits)) ||| BitVec.ofInt IntKind.i64.bits (w64 (w64 (B (0 + (w64 (i + (1 : Int))).toNat)) * (2 : Int) ^ min 16 IntKind.i64.bits))).toNat : Nat) : Int)) ||| BitVec.ofInt IntKind.i64.bits (w64 (w64 (B (0 + (w64 (i + (2 : Int))).toNat)) * (2 : Int) ^ min 8 IntKind.i64.bits))).toNat : Nat) : Int)) ||| BitVec.ofInt IntKind.i64.bits (w64 (B (0 + (w64 (i + (3 : Int))).toNat)))).toNat : Nat) : Int) - (4294967296 : Int))), Bo true], [some ⟨5, own, .row 1 m fun j => [.int .u8 (B j)]⟩]) else some (.tup [I64 (w64 (((BitVec.ofInt IntKind.i64.bits (w64 (((BitVec.ofInt IntKind.i64.bits (w64 (((BitVec.ofInt IntKind.i64.bits (w64 (w64 (B (0 + i.toNat)) * (2 : Int) ^ min 24 IntKind.i64.bits)) ||| BitVec.ofInt IntKind.i64.bits (w64 (w64 (B (0 + (w64 (i + (1 : Int))).toNat)) * (2 : Int) ^ min 16 IntKind.i64.bits))).toNat : Nat) : Int)) ||| BitVec.ofInt IntKind.i64.bits (w64 (w64 (B (0 + (w64 (i + (2 : Int))).toNat)) * (2 : Int) ^ min 8 IntKind.i64.bits))).toNat : Nat) : Int)) ||| BitVec.ofInt IntKind.i64.bits (w64 (B (0 + (w64 (i + (3 : Int))).toNat)))).toNat : Nat) : Int)), Bo true], [some ⟨5, own, .row 1 m fun j => [.int .u8 (B j)]⟩]) else none else none else none else none else none else none else none else none else none else none else none else none := by kernel_rfl
theorem sm_nf {own own2 : Bool} {m m2 : Nat} {B B2 : Nat → Int} : (lfun niG nol 60 Try.f153 [.c (.sl 0 0 m), .c (.sl 1 0 m2)] [rowU own m B, rowU own2 m2 B2]).eval = bif decide (0 + m ≤ m) then bif allB m fun k => isU8 (ub (B (0 + k))) then bif decide (0 + m2 ≤ m2) then bif allB m2 fun k => isU8 (ub (B2 (0 + k))) then some (Bo ((bytesOf (fun j => ub (B j)) 0 m).toList == (bytesOf (fun j => ub (B2 j)) 0 m2).toList), [some ⟨5, own, .row 1 m fun j => [.int .u8 (B j)]⟩, some ⟨5, own2, .row 1 m2 fun j => [.int .u8 (B2 j)]⟩]) else none else none else none else none := by kernel_rfl
end
section
open Go Go.RowKit
def ud : List Value → Int
  | [.int .u8 x] => x
  | _ => 0
def appB (B : Nat → Int) (k : Nat) (x : Int) : Nat → Int := fun j => bif decide (j = k) then x else B j
theorem wb_eval {bad : Bool} {k : Nat} {B : Nat → Int} {n : Int} (hk : k + 1 ≤ maxCells) : (lfun niG nol 60 Try.f140 [.c (.ptr 0 0 0), I64 n] [wrB bad k, rowU true k B]).eval =
    some (.tup [], [some ⟨168, true, .one [.sl 2 0 (k + 1), .v (.bool (bad || !byOk n))]⟩, none, rowU true (k + 1) (appB B k (IntKind.u8.wrap n))]) := by
  rw [wb_nf]
  have e1 : decide (k = k) = true := decide_eq_true rfl
  have e2 : decide ((k + 1) * 1 ≤ maxCells) = true := decide_eq_true (by omega)
  simp only [e1, e2, cond_true]
  cases bad
  · simp only [cond_false, Bool.false_or]
    by_cases h : n < 0
    · have hb : byOk n = false := by unfold byOk; rw [decide_eq_false (by omega)]; rfl
      simp only [decide_eq_true h, cond_true, hb]
      rfl
    · have hb : (!byOk n) = decide (n > 255) := by
        unfold byOk
        rw [decide_eq_true (by omega : (0 : Int) ≤ n), Bool.true_and]
        by_cases h2 : n ≤ 255
        · rw [decide_eq_true h2, decide_eq_false (by omega)]; rfl
        · rw [decide_eq_false h2, decide_eq_true (by omega)]; rfl
      simp only [decide_eq_false h, cond_false, hb]
      rfl
  · rfl
theorem wb0_eval {bad : Bool} {n : Int} : (lfun niG nol 60 Try.f140 [.c (.ptr 0 0 0), I64 n] [wrN bad]).eval =
    some (.tup [], [some ⟨168, true, .one [.sl 1 0 1, .v (.bool (bad || !byOk n))]⟩, rowU true 1 (appB (fun _ => 0) 0 (IntKind.u8.wrap n))]) := by
  rw [wb0_nf]
  cases bad
  · simp only [cond_false, Bool.false_or]
    by_cases h : n < 0
    · have hb : byOk n = false := by unfold byOk; rw [decide_eq_false (by omega)]; rfl
      simp only [decide_eq_true h, cond_true, hb]
      rfl
    · have hb : (!byOk n) = decide (n > 255) := by
        unfold byOk
        rw [decide_eq_true (by omega : (0 : Int) ≤ n), Bool.true_and]
        by_cases h2 : n ≤ 255
        · rw [decide_eq_true h2, decide_eq_false (by omega)]; rfl
        · rw [decide_eq_false h2, decide_eq_true (by omega)]; rfl
      simp only [decide_eq_false h, cond_false, hb]
      rfl
  · rfl
noncomputable def wbF : Spec := fun args h => match args, h with
  | [.c (.ptr 0 0 0), .c (.v (.int .i64 n))], [some ⟨168, true, .one [.sl 1 0 k, .v (.bool bad)]⟩, some ⟨5, true, .row 1 k' f⟩] =>
    .need (yes (k + 1 ≤ maxCells ∧ k' = k ∧ f = fun j => ub (ud (f j)))) (.ret (.tup [], [some ⟨168, true, .one [.sl 2 0 (k + 1), .v (.bool (bad || !byOk n))]⟩, none, rowU true (k + 1) (appB (fun j => ud (f j)) k (IntKind.u8.wrap n))]))
  | [.c (.ptr 0 0 0), .c (.v (.int .i64 n))], [some ⟨168, true, .one [.v (.slice none 0 0), .v (.bool bad)]⟩] =>
    .ret (.tup [], [some ⟨168, true, .one [.sl 1 0 1, .v (.bool (bad || !byOk n))]⟩, rowU true 1 (appB (fun _ => 0) 0 (IntKind.u8.wrap n))])
  | _, _ => .fail
theorem wbF_ok : SpecOk Try.prog 140 wbF := by
  refine knownS nilK Try.func140 fun args h r he => ?_
  unfold wbF at he
  split at he
  · rename_i n k bad k' f
    obtain ⟨⟨h1, h2, h3⟩, he'⟩ := Tr.eval_ask.1 he
    subst h2
    cases he'
    have e1 : some ⟨5, true, .row 1 k' f⟩ = rowU true k' fun j => ud (f j) := by rw [rowU, ← h3]
    exact ⟨_, [], 60, nol, noLoopsS, by rw [e1]; exact wb_eval h1⟩
  · rename_i n bad
    cases he
    exact ⟨_, [], 60, nol, noLoopsS, wb0_eval⟩
  · cases he
def fourB (B : Nat → Int) (k : Nat) (n : Int) : Nat → Int := appB (appB (appB (appB B k (IntKind.u8.wrap (n.fdiv ((2 : Int) ^ min 24 IntKind.i64.bits)))) (k + 1) (IntKind.u8.wrap (n.fdiv ((2 : Int) ^ min 16 IntKind.i64.bits)))) (k + 1 + 1) (IntKind.u8.wrap (n.fdiv ((2 : Int) ^ min 8 IntKind.i64.bits)))) (k + 1 + 1 + 1) (IntKind.u8.wrap (n.fdiv ((2 : Int) ^ min 0 IntKind.i64.bits)))
theorem wn_eval {bad : Bool} {k : Nat} {B : Nat → Int} {n : Int} (hk : k + 4 ≤ maxCells) : (afun nuG 60 Try.f143 [.c (.ptr 0 0 0), I64 n] [wrB bad k, rowU true k B]).eval =
    some (.tup [], [some ⟨168, true, .one [.sl 2 0 (k + 1 + 1 + 1 + 1), .v (.bool (bad || !fits n))]⟩, none, rowU true (k + 1 + 1 + 1 + 1) (fourB B k n)]) := by
  rw [wn_nf]
  have e1 : ∀ k : Nat, decide (k = k) = true := fun k => decide_eq_true rfl
  have e2 : decide ((k + 1) * 1 ≤ maxCells) = true := decide_eq_true (by omega)
  have e3 : decide ((k + 1 + 1) * 1 ≤ maxCells) = true := decide_eq_true (by omega)
  have e4 : decide ((k + 1 + 1 + 1) * 1 ≤ maxCells) = true := decide_eq_true (by omega)
  have e5 : decide ((k + 1 + 1 + 1 + 1) * 1 ≤ maxCells) = true := decide_eq_true (by omega)
  simp only [e1, e2, e3, e4, e5, cond_true]
  cases bad
  · simp only [cond_false, Bool.false_or]
    by_cases h : n < -2147483648
    · have hb : fits n = false := by unfold fits; rw [decide_eq_false (by omega)]; rfl
      simp only [decide_eq_true h, cond_true, hb]
      rfl
    · have hb : (!fits n) = decide (n > 2147483647) := by
        unfold fits
        rw [decide_eq_true (by omega : (-2147483648 : Int) ≤ n), Bool.true_and]
        by_cases h2 : n < 2147483648
        · rw [decide_eq_true h2, decide_eq_false (by omega)]; rfl
        · rw [decide_eq_false h2, decide_eq_true (by omega)]; rfl
      simp only [decide_eq_false h, cond_false, hb]
      rfl
  · rfl
noncomputable def wnF : Spec := fun args h => match args, h with
  | [.c (.ptr 0 0 0), .c (.v (.int .i64 n))], [some ⟨168, true, .one [.sl 1 0 k, .v (.bool bad)]⟩, some ⟨5, true, .row 1 k' f⟩] =>
    .need (yes (k + 4 ≤ maxCells ∧ k' = k ∧ f = fun j => ub (ud (f j)))) (.ret (.tup [], [some ⟨168, true, .one [.sl 2 0 (k + 1 + 1 + 1 + 1), .v (.bool (bad || !fits n))]⟩, none, rowU true (k + 1 + 1 + 1 + 1) (fourB (fun j => ud (f j)) k n)]))
  | _, _ => .fail
theorem wnF_ok : SpecOk Try.prog 143 wnF := by
  refine known' nilK Try.func143 fun args h r he => ?_
  unfold wnF at he
  split at he
  · rename_i n k bad k' f
    obtain ⟨⟨h1, h2, h3⟩, he'⟩ := Tr.eval_ask.1 he
    subst h2
    cases he'
    have e1 : some ⟨5, true, .row 1 k' f⟩ = rowU true k' fun j => ud (f j) := by rw [rowU, ← h3]
    exact ⟨_, _, _, by rw [e1]; exact wn_eval h1⟩
  · cases he
end
section
open Go Go.RowKit
def txB (B : Nat → Int) (k : Nat) (s : ByteArray) : Nat → Int := fun j => bif decide (j < k + 2) then appB (appB B k (IntKind.u8.wrap (((s.size : Nat) : Int).fdiv ((2 : Int) ^ min 8 IntKind.i64.bits)))) (k + 1) (IntKind.u8.wrap ((s.size : Nat) : Int)) j else bif decide (j < k + 2 + s.size) then bt s ((0 + (j - (k + 2)) : Nat) : Int) else 0
theorem dec_rec {p : Prop} (d : Decidable p) {α : Type} (a b : α) : (Decidable.rec (motive := fun _ => α) (fun _ => a) (fun _ => b) d : α) = @ite _ p d b a := by cases d <;> rfl
theorem wt_row (B : Nat → Int) (k : Nat) (s : ByteArray) : (fun k_1 => (Decidable.rec (motive := fun _ => List Value)
      (fun h => if k_1 < k + 2 + s.size then [Value.int IntKind.u8 (bt s ((0 + (k_1 - (k + 2)) : Nat) : Int))] else [Value.int IntKind.u8 (0 : Int)])
      (fun h => updL (fun j => ub (B j)) k [[Value.int IntKind.u8 (IntKind.u8.wrap ((((s.size : Nat) : Int)).fdiv ((2 : Int) ^ min 8 IntKind.i64.bits)))], [Value.int IntKind.u8 (IntKind.u8.wrap ((s.size : Nat) : Int))]] k_1)
      (k_1.decLt (k + 2)) : List Value)) = fun j => ub (txB B k s j) := by
  funext j
  rw [dec_rec]
  unfold txB
  by_cases h : j < k + 2
  · rw [if_pos h, decide_eq_true h, cond_true, updL_get]
    unfold appB
    by_cases h1 : j < k
    · rw [if_pos h1, decide_eq_false (by omega : ¬ j = k + 1), decide_eq_false (by omega : ¬ j = k)]; rfl
    · rw [if_neg h1, if_pos (by simp only [List.length_cons, List.length_nil]; omega)]
      by_cases h2 : j = k
      · subst h2
        rw [decide_eq_false (by omega : ¬ j = j + 1), decide_eq_true rfl, Nat.sub_self]; rfl
      · have h3 : j = k + 1 := by omega
        subst h3
        rw [decide_eq_true rfl, show k + 1 - k = 1 by omega]; rfl
  · rw [if_neg h, decide_eq_false h, cond_false]
    by_cases h1 : j < k + 2 + s.size
    · rw [if_pos h1, decide_eq_true h1]; rfl
    · rw [if_neg h1, decide_eq_false h1]; rfl
theorem wt_eval {bad : Bool} {k : Nat} {B : Nat → Int} {s : ByteArray} (hk : k + 2 + s.size ≤ maxCells) : (lfun niG nol 60 Try.f160 [.c (.ptr 0 0 0), .c (.v (.string s))] [wrB bad k, rowU true k B]).eval =
    some (.tup [], [some ⟨168, true, .one [.sl 2 0 (k + 2 + s.size), .v (.bool (bad || decide (((s.size : Nat) : Int) > 2000)))]⟩, none, rowU true (k + 2 + s.size) (txB B k s)]) := by
  rw [wt_nf]
  have e1 : ∀ k : Nat, decide (k = k) = true := fun k => decide_eq_true rfl
  have e2 : decide ((k + 2) * 1 ≤ maxCells) = true := decide_eq_true (by omega)
  have e3 : decide (0 + s.size ≤ s.size) = true := decide_eq_true (by omega)
  have e4 : decide ((k + 2 + s.size) * 1 ≤ maxCells) = true := decide_eq_true (by omega)
  have e5 := wt_row B k s
  simp only [e1, e2, e3, e4, cond_true]
  have e6 : rowU true (k + 2 + s.size) (txB B k s) = some ⟨5, true, .row 1 (k + 2 + s.size) fun j => ub (txB B k s j)⟩ := rfl
  rw [e6, ← e5]
  cases bad <;> rfl
noncomputable def wtF : Spec := fun args h => match args, h with
  | [.c (.ptr 0 0 0), .c (.v (.string s))], [some ⟨168, true, .one [.sl 1 0 k, .v (.bool bad)]⟩, some ⟨5, true, .row 1 k' f⟩] =>
    .need (yes (k + 2 + s.size ≤ maxCells ∧ k' = k ∧ f = fun j => ub (ud (f j)))) (.ret (.tup [], [some ⟨168, true, .one [.sl 2 0 (k + 2 + s.size), .v (.bool (bad || decide (((s.size : Nat) : Int) > 2000)))]⟩, none, rowU true (k + 2 + s.size) (txB (fun j => ud (f j)) k s)]))
  | _, _ => .fail
theorem wtF_ok : SpecOk Try.prog 160 wtF := by
  refine knownS nilK Try.func160 fun args h r he => ?_
  unfold wtF at he
  split at he
  · rename_i s k bad k' f
    obtain ⟨⟨h1, h2, h3⟩, he'⟩ := Tr.eval_ask.1 he
    subst h2
    cases he'
    have e1 : some ⟨5, true, .row 1 k' f⟩ = rowU true k' fun j => ud (f j) := by rw [rowU, ← h3]
    exact ⟨_, [], 60, nol, noLoopsS, by rw [e1]; exact wt_eval h1⟩
  · cases he
end
section
open Go Go.RowKit
noncomputable def KWO : Known := [(140, wbF), (143, wnF), (160, wtF)]
theorem KWO_ok : KnownOk KWO := consK wbF_ok (by kernel_rfl) (consK wnF_ok (by kernel_rfl) (consK wtF_ok (by kernel_rfl) nilK))
abbrev wqK : List (Nat × Option TypeId) := [(0,none),(22,none),(23,none),(24,none)]
noncomputable def wqG : Ctx2 := GT KWO (fun k => if k = 3 then wqK else []) 0 []
theorem wqG_ok : XOk wqG := GT_ok KWO_ok _ _ _
def wqS (own : Bool) (m : Nat) (P : Nat → Opp) (bad : Bool) (k : Nat) (B : Nat → Int) (i : Int) : St :=
  ⟨slots 49 [(0, .c (.ptr 0 0 0)), (22, .c (.sl 1 0 m)), (23, I64 m), (24, I64 i)], [some ⟨168, true, .one [.sl 3 0 k, .v (.bool bad)]⟩, rowP own m P, none, rowU true k B]⟩
theorem wq_go {own : Bool} {m : Nat} {P : Nat → Opp} {bad : Bool} {k : Nat} {B : Nat → Int} {i : Int} : (rT wqG nol 3 55 (bodyOf Try.f141 0) wqK wqK (wqS own m P bad k B i)).go [] = some ([decide (i < ((m : Nat) : Int)), decide ((0 : Int) ≤ i), decide (i < ((m : Nat) : Int)), decide (0 + i.toNat < m), yes (k + 1 ≤ maxCells ∧ k = k ∧ (fun j => ub (B j)) = fun j => ub (ud (ub (B j)))), yes (k + 1 + 4 ≤ maxCells ∧ k + 1 = k + 1 ∧ (fun j => ub (appB (fun j => ud (ub (B j))) k (IntKind.u8.wrap (P (0 + i.toNat)).k) j)) = fun j => ub (ud (ub (appB (fun j => ud (ub (B j))) k (IntKind.u8.wrap (P (0 + i.toNat)).k) j)))), yes (k + 1 + 1 + 1 + 1 + 1 + 4 ≤ maxCells ∧ k + 1 + 1 + 1 + 1 + 1 = k + 1 + 1 + 1 + 1 + 1 ∧ (fun j => ub (fourB (fun j => ud (ub (appB (fun j => ud (ub (B j))) k (IntKind.u8.wrap (P (0 + i.toNat)).k) j))) (k + 1) (P (0 + i.toNat)).i j)) = fun j => ub (ud (ub (fourB (fun j => ud (ub (appB (fun j => ud (ub (B j))) k (IntKind.u8.wrap (P (0 + i.toNat)).k) j))) (k + 1) (P (0 + i.toNat)).i j)))), yes (k + 1 + 1 + 1 + 1 + 1 + 1 + 1 + 1 + 1 + 4 ≤ maxCells ∧ k + 1 + 1 + 1 + 1 + 1 + 1 + 1 + 1 + 1 = k + 1 + 1 + 1 + 1 + 1 + 1 + 1 + 1 + 1 ∧ (fun j => ub (fourB (fun j => ud (ub (fourB (fun j => ud (ub (appB (fun j => ud (ub (B j))) k (IntKind.u8.wrap (P (0 + i.toNat)).k) j))) (k + 1) (P (0 + i.toNat)).i j))) (k + 1 + 1 + 1 + 1 + 1) (P (0 + i.toNat)).a j)) = fun j => ub (ud (ub (fourB (fun j => ud (ub (fourB (fun j => ud (ub (appB (fun j => ud (ub (B j))) k (IntKind.u8.wrap (P (0 + i.toNat)).k) j))) (k + 1) (P (0 + i.toNat)).i j))) (k + 1 + 1 + 1 + 1 + 1) (P (0 + i.toNat)).a j)))), yes (k + 1 + 1 + 1 + 1 + 1 + 1 + 1 + 1 + 1 + 1 + 1 + 1 + 1 + 2 + (P (0 + i.toNat)).s.size ≤ maxCells ∧ k + 1 + 1 + 1 + 1 + 1 + 1 + 1 + 1 + 1 + 1 + 1 + 1 + 1 = k + 1 + 1 + 1 + 1 + 1 + 1 + 1 + 1 + 1 + 1 + 1 + 1 + 1 ∧ (fun j => ub (fourB (fun j => ud (ub (fourB (fun j => ud (ub (fourB (fun j => ud (ub (appB (fun j => ud (ub (B j))) k (IntKind.u8.wrap (P (0 + i.toNat)).k) j))) (k + 1) (P (0 + i.toNat)).i j))) (k + 1 + 1 + 1 + 1 + 1) (P (0 + i.toNat)).a j))) (k + 1 + 1 + 1 + 1 + 1 + 1 + 1 + 1 + 1) (P (0 + i.toNat)).b j)) = fun j => ub (ud (ub (fourB (fun j => ud (ub (fourB (fun j => ud (ub (fourB (fun j => ud (ub (appB (fun j => ud (ub (B j))) k (IntKind.u8.wrap (P (0 + i.toNat)).k) j))) (k + 1) (P (0 + i.toNat)).i j))) (k + 1 + 1 + 1 + 1 + 1) (P (0 + i.toNat)).a j))) (k + 1 + 1 + 1 + 1 + 1 + 1 + 1 + 1 + 1) (P (0 + i.toNat)).b j))))], Ex.normal, { sl := slots 49 [(0, .c (.ptr 0 0 0)), (22, .c (.sl 1 0 m)), (23, I64 ((m : Nat) : Int)), (24, I64 (w64 (i + (1 : Int))))], h := [some ⟨168, true, .one [.sl 3 0 (k + 1 + 1 + 1 + 1 + 1 + 1 + 1 + 1 + 1 + 1 + 1 + 1 + 1 + 2 + (P (0 + i.toNat)).s.size), .v (.bool (bad || !byOk (P (0 + i.toNat)).k || !fits (P (0 + i.toNat)).i || !fits (P (0 + i.toNat)).a || !fits (P (0 + i.toNat)).b || decide ((((P (0 + i.toNat)).s.size : Nat) : Int) > (2000 : Int))))]⟩, some ⟨121, own, .row 5 m fun j => [.int .i64 (P j).k, .int .i64 (P j).i, .int .i64 (P j).a, .int .i64 (P j).b, .string (P j).s]⟩, none, some ⟨5, true, .row 1 (k + 1 + 1 + 1 + 1 + 1 + 1 + 1 + 1 + 1 + 1 + 1 + 1 + 1 + 2 + (P (0 + i.toNat)).s.size) fun j => [.int .u8 (txB (fun j => ud (ub (fourB (fun j => ud (ub (fourB (fun j => ud (ub (fourB (fun j => ud (ub (appB (fun j => ud (ub (B j))) k (IntKind.u8.wrap (P (0 + i.toNat)).k) j))) (k + 1) (P (0 + i.toNat)).i j))) (k + 1 + 1 + 1 + 1 + 1) (P (0 + i.toNat)).a j))) (k + 1 + 1 + 1 + 1 + 1 + 1 + 1 + 1 + 1) (P (0 + i.toNat)).b j))) (k + 1 + 1 + 1 + 1 + 1 + 1 + 1 + 1 + 1 + 1 + 1 + 1 + 1) (P (0 + i.toNat)).s j)]⟩] }) := by kernel_rfl
theorem wq_e {own : Bool} {m : Nat} {P : Nat → Opp} {bad : Bool} {k : Nat} {B : Nat → Int} {i : Int} : (rT wqG nol 3 55 (bodyOf Try.f141 0) wqK wqK (wqS own m P bad k B i)).go [false] = some ([!decide (i < ((m : Nat) : Int))], Ex.exit 0, { sl := slots 49 [(0, .c (.ptr 0 0 0)), (22, .c (.sl 1 0 m)), (23, I64 ((m : Nat) : Int)), (24, I64 i)], h := [some ⟨168, true, .one [.sl 3 0 k, .v (.bool bad)]⟩, some ⟨121, own, .row 5 m fun j => [.int .i64 (P j).k, .int .i64 (P j).i, .int .i64 (P j).a, .int .i64 (P j).b, .string (P j).s]⟩, none, some ⟨5, true, .row 1 k fun j => [.int .u8 (B j)]⟩] }) := by kernel_rfl
def oneB (B : Nat → Int) (k : Nat) (o : Opp) : Nat → Int := txB (fourB (fourB (fourB (appB B k (IntKind.u8.wrap o.k)) (k + 1) o.i) (k + 1 + 1 + 1 + 1 + 1) o.a) (k + 1 + 1 + 1 + 1 + 1 + 1 + 1 + 1 + 1) o.b) (k + 1 + 1 + 1 + 1 + 1 + 1 + 1 + 1 + 1 + 1 + 1 + 1 + 1) o.s
def oneBad (bad : Bool) (o : Opp) : Bool := ((((bad || !byOk o.k) || !fits o.i) || !fits o.a) || !fits o.b) || decide (((o.s.size : Nat) : Int) > 2000)
def wqLen (P : Nat → Opp) (k : Nat) : Nat → Nat
  | 0 => k
  | i + 1 => wqLen P k i + 1 + 1 + 1 + 1 + 1 + 1 + 1 + 1 + 1 + 1 + 1 + 1 + 1 + 2 + (P i).s.size
def wqBad (P : Nat → Opp) (bad : Bool) : Nat → Bool
  | 0 => bad
  | i + 1 => oneBad (wqBad P bad i) (P i)
def wqBs (P : Nat → Opp) (k : Nat) (B : Nat → Int) : Nat → Nat → Int
  | 0 => B
  | i + 1 => oneB (wqBs P k B i) (wqLen P k i) (P i)
theorem wqLen_le (P : Nat → Opp) (k : Nat) (i : Nat) : ∀ d, wqLen P k i + 15 * d ≤ wqLen P k (i + d)
  | 0 => Nat.le_refl _
  | d + 1 => by
    have h := wqLen_le P k i d
    show _ ≤ wqLen P k (i + d + 1)
    simp only [wqLen]
    omega
theorem wq_loop {own : Bool} {m : Nat} {P : Nat → Opp} {bad : Bool} {k : Nat} {B : Nat → Int} (hm : wqLen P k m ≤ maxCells) :
    CodeSem wqG 3 (.loop (bodyOf Try.f141 0)) (wqS own m P bad k B 0) (.exit 0, wqS own m P (wqBad P bad m) (wqLen P k m) (wqBs P k B m) (m : Nat)) := by
  have h0 := wqLen_le P k 0 m
  rw [Nat.zero_add] at h0
  have hM : maxCells < 2 ^ 60 := by unfold maxCells; omega
  refine loop_of (fun i => wqS own m P (wqBad P bad i) (wqLen P k i) (wqBs P k B i) (i : Nat)) m (by simp) ?_ fun j hj => ?_
  · exact rT_sem wqG_ok noLoopsS (rT_go wq_e ⟨by rw [decide_eq_false (by omega)]; rfl, trivial⟩)
  · have e1 := succ64 (j := j) (by omega)
    have h1 := wqLen_le P k (j + 1) (m - (j + 1))
    rw [show j + 1 + (m - (j + 1)) = m by omega] at h1
    have h2 : wqLen P k (j + 1) = wqLen P k j + 1 + 1 + 1 + 1 + 1 + 1 + 1 + 1 + 1 + 1 + 1 + 1 + 1 + 2 + (P j).s.size := rfl
    refine rT_sem wqG_ok noLoopsS ((rT_go (wq_go (own := own) (m := m) (P := P) (bad := wqBad P bad j) (k := wqLen P k j) (B := wqBs P k B j) (i := ((j : Nat) : Int))) ?_).trans ?_)
    · simp only [Int.toNat_natCast, Nat.zero_add]
      repeat' (first | exact AllT.nil | refine AllT.cons ?_ ?_)
      all_goals first | (with_reducible rfl) | exact decide_eq_true (by omega) | exact yes_of ⟨by omega, by first | rfl | trivial, by first | rfl | trivial⟩
    · simp only [Int.toNat_natCast, Nat.zero_add, e1]
      rfl
end
section
open Go Go.RowKit
def wqA (own : Bool) (m : Nat) (P : Nat → Opp) (bad : Bool) (k : Nat) (B : Nat → Int) : AHeap := [some ⟨168, true, .one [.sl 2 0 k, .v (.bool bad)]⟩, rowP own m P, rowU true k B]
def wq0 (own : Bool) (m : Nat) (P : Nat → Opp) (bad : Bool) (k : Nat) (B : Nat → Int) : St := wqS own m P (bad || !byOk (m : Nat)) (k + 1) (appB B k (IntKind.u8.wrap (m : Nat))) 0
def wqE (own : Bool) (m : Nat) (P : Nat → Opp) (bad : Bool) (k : Nat) (B : Nat → Int) (z : Int) : St := wqS own m P bad k B z
theorem wq_wt {own : Bool} {m : Nat} {P : Nat → Opp} {k : Nat} {B : Nat → Int} {b2 : Bool} {k2 : Nat} {B2 : Nat → Int} {z : Int} : (lfun wqG (tell (bodyOf Try.f141 0) (wq0 own m P true k B) (.exit 0, wqE own m P b2 k2 B2 z)) 60 Try.f141 [.c (.ptr 0 0 0), .c (.sl 1 0 m)] (wqA own m P true k B)).go [] =
  some
    ([true, true, true, true,
        yes (k + 1 ≤ maxCells ∧ k = k ∧ (fun j => ub (B j)) = fun j => ub (ud (ub (B j)))), yes (wasS (bodyOf Try.f141 0) (wq0 own m P true k B))],
      AV.tup [],
      [some { t := 168, own := true, c := Cont.one [AC.sl 3 0 k2, AC.v (Value.bool b2)] },
        some
          { t := 121, own := own,
            c :=
              Cont.row 5 m fun j =>
                [Value.int IntKind.i64 (P j).k, Value.int IntKind.i64 (P j).i, Value.int IntKind.i64 (P j).a,
                  Value.int IntKind.i64 (P j).b, Value.string (P j).s] },
        none, some { t := 5, own := true, c := Cont.row 1 k2 fun j => [Value.int IntKind.u8 (B2 j)] }]) := by kernel_rfl
theorem wq_wf {own : Bool} {m : Nat} {P : Nat → Opp} {k : Nat} {B : Nat → Int} {b2 : Bool} {k2 : Nat} {B2 : Nat → Int} {z : Int} : (lfun wqG (tell (bodyOf Try.f141 0) (wq0 own m P (decide (((m : Nat) : Int) > 100)) k B) (.exit 0, wqE own m P b2 k2 B2 z)) 60 Try.f141 [.c (.ptr 0 0 0), .c (.sl 1 0 m)] (wqA own m P false k B)).go [false, false, false, false] =
  some
    ([true, true, true, true,
        yes (k + 1 ≤ maxCells ∧ k = k ∧ (fun j => ub (B j)) = fun j => ub (ud (ub (B j)))), yes (wasS (bodyOf Try.f141 0) (wq0 own m P (decide (((m : Nat) : Int) > 100)) k B))],
      AV.tup [],
      [some { t := 168, own := true, c := Cont.one [AC.sl 3 0 k2, AC.v (Value.bool b2)] },
        some
          { t := 121, own := own,
            c :=
              Cont.row 5 m fun j =>
                [Value.int IntKind.i64 (P j).k, Value.int IntKind.i64 (P j).i, Value.int IntKind.i64 (P j).a,
                  Value.int IntKind.i64 (P j).b, Value.string (P j).s] },
        none, some { t := 5, own := true, c := Cont.row 1 k2 fun j => [Value.int IntKind.u8 (B2 j)] }]) := by kernel_rfl
def wqZ (m : Nat) (bad : Bool) : Bool := bad || decide (((m : Nat) : Int) > 100)
noncomputable def wqF : Spec := fun args h => match args, h with
  | [.c (.ptr 0 0 0), .c (.sl 1 0 m)], [some ⟨168, true, .one [.sl 2 0 k, .v (.bool bad)]⟩, some ⟨121, own, .row 5 m' g⟩, some ⟨5, true, .row 1 k' f⟩] =>
    .need (yes (m' = m ∧ k' = k ∧ (g = fun j => encO (decO (g j))) ∧ (f = fun j => ub (ud (f j))) ∧ wqLen (fun j => decO (g j)) (k + 1) m ≤ maxCells))
      (.ret (.tup [], [some ⟨168, true, .one [.sl 3 0 (wqLen (fun j => decO (g j)) (k + 1) m), .v (.bool (wqBad (fun j => decO (g j)) (wqZ m bad || !byOk (m : Nat)) m))]⟩, rowP own m (fun j => decO (g j)), none, rowU true (wqLen (fun j => decO (g j)) (k + 1) m) (wqBs (fun j => decO (g j)) (k + 1) (appB (fun j => ud (f j)) k (IntKind.u8.wrap (m : Nat))) m)]))
  | _, _ => .fail
theorem wqF_ok : SpecOk Try.prog 141 wqF := by
  refine knownS KWO_ok Try.func141 fun args h r he => ?_
  unfold wqF at he
  split at he
  · rename_i m k bad own m' g k' f
    obtain ⟨⟨h1, h2, h3, h4, h5⟩, he'⟩ := Tr.eval_ask.1 he
    subst h1
    subst h2
    cases he'
    have e1 : some ⟨5, true, .row 1 k' f⟩ = rowU true k' fun j => ud (f j) := by rw [rowU, ← h4]
    have e2 : some ⟨121, own, .row 5 m' g⟩ = rowP own m' fun j => decO (g j) := by rw [rowP, ← h3]
    rw [e1, e2]
    have h6 := wqLen_le (fun j => decO (g j)) (k' + 1) 0 m'
    rw [Nat.zero_add] at h6
    have h7 : wqLen (fun j => decO (g j)) (k' + 1) 0 = k' + 1 := rfl
    have hl := wq_loop (own := own) (m := m') (P := fun j => decO (g j)) (bad := wqZ m' bad || !byOk (m' : Nat)) (k := k' + 1) (B := appB (fun j => ud (f j)) k' (IntKind.u8.wrap (m' : Nat))) h5
    cases bad
    · exact ⟨_, [], 60, _, tell_ok hl, (Tr.go_eval wq_wf ⟨rfl, rfl, rfl, rfl, yes_of ⟨by omega, rfl, rfl⟩, yes_of ⟨rfl, rfl⟩, trivial⟩).trans rfl⟩
    · exact ⟨_, [], 60, _, tell_ok hl, (Tr.go_eval wq_wt ⟨rfl, rfl, rfl, rfl, yes_of ⟨by omega, rfl, rfl⟩, yes_of ⟨rfl, rfl⟩, trivial⟩).trans rfl⟩
  · cases he
end
section
open Go Go.RowKit
noncomputable def haG : Ctx2 := GT KWO (fun _ => []) 0 []
theorem haG_ok : XOk haG := GT_ok KWO_ok _ _ _
theorem ha_w {bad : Bool} {k : Nat} {B : Nat → Int} {a b : Int} : (lfun haG nol 60 Try.f142 [.c (.ptr 0 0 0), .agg [i64 a, i64 b]] [wrB bad k, rowU true k B]).go [] =
  some
    ([yes (k + 4 ≤ maxCells ∧ k = k ∧ (fun j => ub (B j)) = fun j => ub (ud (ub (B j)))),
        yes
          (k + 1 + 1 + 1 + 1 + 4 ≤ maxCells ∧
            k + 1 + 1 + 1 + 1 = k + 1 + 1 + 1 + 1 ∧
              (fun j => ub (fourB (fun j => ud (ub (B j))) k a j)) = fun j =>
                ub (ud (ub (fourB (fun j => ud (ub (B j))) k a j))))],
      AV.tup [],
      [some
          { t := 168, own := true,
            c :=
              Cont.one
                [AC.sl 2 0
                    (k + 1 + 1 + 1 + 1 + 1 + 1 + 1 + 1),
                  AC.v (Value.bool (bad || !fits a || !fits b))] },
        none,
        some
          { t := 5, own := true,
            c :=
              Cont.row 1
                (k + 1 + 1 + 1 + 1 + 1 + 1 + 1 + 1)
                fun j =>
                [Value.int IntKind.u8
                    (fourB (fun j => ud (ub (fourB (fun j => ud (ub (B j))) k a j)))
                      (k + 1 + 1 + 1 + 1) b j)] }]) := by kernel_rfl
def rdX (B : Nat → Int) (i n : Nat) : Int := bif ((n : Nat) : Int) == (0 : Int) then 0 else w64 (B i)
def rdI (i n : Nat) : Nat := bif ((n : Nat) : Int) == (0 : Int) then i else i + 1
theorem rb_eval {bad own : Bool} {i n m : Nat} {B : Nat → Int} (h : i + n ≤ m) : (lfun niG nol 60 Try.f162 [.c (.ptr 0 0 0)] [rdB bad i n, rowU own m B]).eval =
    some (I64 (rdX B i n), [some ⟨175, true, .one [.sl 1 (rdI i n) (n - 1), .v (.bool (bad || ((n : Nat) : Int) == (0 : Int)))]⟩, rowU own m B]) := by
  rw [rb_nf]
  unfold rdX rdI
  by_cases h0 : n = 0
  · subst h0
    cases bad <;> rfl
  · have e1 : (((n : Nat) : Int) == (0 : Int)) = false := by simp only [beq_eq_false_iff_ne]; omega
    have e2 : decide ((0 : Int) < ((n : Nat) : Int)) = true := decide_eq_true (by omega)
    have e3 : decide (i < m) = true := decide_eq_true (by omega)
    have e4 : decInt (1 : Int) ((n : Nat) : Int) n = true := by unfold decInt; simp only [Bool.and_eq_true, decide_eq_true_eq]; omega
    simp only [e1, e2, e3, e4, cond_true, cond_false, Bool.or_false]
    rfl
noncomputable def rbF : Spec := fun args h => match args, h with
  | [.c (.ptr 0 0 0)], [some ⟨175, true, .one [.sl 1 i n, .v (.bool bad)]⟩, some ⟨5, own, .row 1 m f⟩] =>
    .need (yes (i + n ≤ m ∧ f = fun j => ub (ud (f j)))) (.ret (I64 (rdX (fun j => ud (f j)) i n), [some ⟨175, true, .one [.sl 1 (rdI i n) (n - 1), .v (.bool (bad || ((n : Nat) : Int) == (0 : Int)))]⟩, rowU own m (fun j => ud (f j))]))
  | _, _ => .fail
theorem rbF_ok : SpecOk Try.prog 162 rbF := by
  refine knownS nilK Try.func162 fun args h r he => ?_
  unfold rbF at he
  split at he
  · rename_i i n bad own m f
    obtain ⟨⟨h1, h2⟩, he'⟩ := Tr.eval_ask.1 he
    cases he'
    have e1 : some ⟨5, own, .row 1 m f⟩ = rowU own m fun j => ud (f j) := by rw [rowU, ← h2]
    exact ⟨_, [], 60, nol, noLoopsS, by rw [e1]; exact rb_eval h1⟩
  · cases he
end
section
open Go Go.RowKit
noncomputable def haF : Spec := fun args h => match args, h with
  | [.c (.ptr 0 0 0), .agg [.v (.int .i64 a), .v (.int .i64 b)]], [some ⟨168, true, .one [.sl 1 0 k, .v (.bool bad)]⟩, some ⟨5, true, .row 1 k' f⟩] =>
    .need (yes (k + 8 ≤ maxCells ∧ k' = k ∧ f = fun j => ub (ud (f j)))) (.ret (.tup [], [some ⟨168, true, .one [.sl 2 0 (k + 1 + 1 + 1 + 1 + 1 + 1 + 1 + 1), .v (.bool (bad || !fits a || !fits b))]⟩, none, rowU true (k + 1 + 1 + 1 + 1 + 1 + 1 + 1 + 1) (fourB (fourB (fun j => ud (f j)) k a) (k + 1 + 1 + 1 + 1) b)]))
  | _, _ => .fail
theorem haF_ok : SpecOk Try.prog 142 haF := by
  refine knownS KWO_ok Try.func142 fun args h r he => ?_
  unfold haF at he
  split at he
  · rename_i a b k bad k' f
    obtain ⟨⟨h1, h2, h3⟩, he'⟩ := Tr.eval_ask.1 he
    subst h2
    cases he'
    have e1 : some ⟨5, true, .row 1 k' f⟩ = rowU true k' fun j => ud (f j) := by rw [rowU, ← h3]
    rw [e1]
    exact ⟨_, [], 60, nol, noLoopsS, (Tr.go_eval ha_w ⟨yes_of ⟨by omega, rfl, rfl⟩, yes_of ⟨by omega, rfl, rfl⟩, trivial⟩).trans rfl⟩
  · cases he
noncomputable def KRD : Known := [(162, rbF)]
theorem KRD_ok : KnownOk KRD := consK rbF_ok (by kernel_rfl) nilK
noncomputable def rnmG : Ctx2 := GK KRD (fun k => if k = 3 then [(0,none),(3,none),(4,none)] else []) 6
theorem rnm_nf {bad own : Bool} {i n m : Nat} {B : Nat → Int} : (afun rnmG 60 Try.f163 [.c (.ptr 0 0 0)] [rdB bad i n, rowU own m B]).eval = bif yes (i + n ≤ m ∧ (fun j => ub (B j)) = fun j => ub (ud (ub (B j)))) then bif yes (rdI i n + (n - 1) ≤ m ∧ (fun j => ub (ud (ub (B j)))) = fun j => ub (ud (ub (ud (ub (B j)))))) then bif yes (rdI (rdI i n) (n - 1) + (n - 1 - 1) ≤ m ∧ (fun j => ub (ud (ub (ud (ub (B j)))))) = fun j => ub (ud (ub (ud (ub (ud (ub (B j)))))))) then bif yes (rdI (rdI (rdI i n) (n - 1)) (n - 1 - 1) + (n - 1 - 1 - 1) ≤ m ∧ (fun j => ub (ud (ub (ud (ub (ud (ub (B j)))))))) = fun j => ub (ud (ub (ud (ub (ud (ub (ud (ub (B j)))))))))) then some (I64 (w64 (IntKind.i32.wrap (IntKind.u32.wrap (((BitVec.ofInt IntKind.u32.bits (IntKind.u32.wrap (IntKind.u32.wrap (((BitVec.ofInt IntKind.u32.bits (IntKind.u32.wrap (IntKind.u32.wrap (((BitVec.ofInt IntKind.u32.bits (IntKind.u32.wrap (IntKind.u32.wrap (((BitVec.ofInt IntKind.u32.bits (IntKind.u32.wrap ((0 : Int) * (2 : Int) ^ min 8 IntKind.u32.bits)) ||| BitVec.ofInt IntKind.u32.bits (IntKind.u32.wrap (rdX (fun j => ud (ub (B j))) i n))).toNat : Nat) : Int) * (2 : Int) ^ min 8 IntKind.u32.bits)) ||| BitVec.ofInt IntKind.u32.bits (IntKind.u32.wrap (rdX (fun j => ud (ub (ud (ub (B j))))) (rdI i n) (n - 1)))).toNat : Nat) : Int) * (2 : Int) ^ min 8 IntKind.u32.bits)) ||| BitVec.ofInt IntKind.u32.bits (IntKind.u32.wrap (rdX (fun j => ud (ub (ud (ub (ud (ub (B j))))))) (rdI (rdI i n) (n - 1)) (n - 1 - 1)))).toNat : Nat) : Int) * (2 : Int) ^ min 8 IntKind.u32.bits)) ||| BitVec.ofInt IntKind.u32.bits (IntKind.u32.wrap (rdX (fun j => ud (ub (ud (ub (ud (ub (ud (ub (B j))))))))) (rdI (rdI (rdI i n) (n - 1)) (n - 1 - 1)) (n - 1 - 1 - 1)))).toNat : Nat) : Int)))), [some ⟨175, true, .one [.sl 1 (rdI (rdI (rdI (rdI i n) (n - 1)) (n - 1 - 1)) (n - 1 - 1 - 1)) (n - 1 - 1 - 1 - 1), .v (.bool (bad || ((n : Nat) : Int) == (0 : Int) || ((n - 1 : Nat) : Int) == (0 : Int) || ((n - 1 - 1 : Nat) : Int) == (0 : Int) || ((n - 1 - 1 - 1 : Nat) : Int) == (0 : Int)))]⟩, some ⟨5, own, .row 1 m fun j => [.int .u8 (ud (ub (ud (ub (ud (ub (ud (ub (B j)))))))))]⟩]) else none else none else none else none := by kernel_rfl
end
section
open Go Go.RowKit
structure Rd where
  k : Int
  e : Int
  a : Int
  n : Int
  p : Int
  t : Int
  x : Int
  y : Int
  w : Int
  h : Int
def held4 (n : Int) : Int := min (max n (-2147483648)) 2147483647
theorem fits_held (n : Int) : fits (held4 n) = true := by
  unfold fits held4
  rw [Bool.and_eq_true, decide_eq_true_eq, decide_eq_true_eq]; omega
def rReply (s : List Int × Bool) : Rd × (List Int × Bool) :=
  bif (rByte s).1 == 1 then (⟨1, 0, 0, 0, 0, 0, 0, 0, 0, 0⟩, (rByte s).2)
  else bif (rByte s).1 == 2 then (⟨2, (rByte (rByte s).2).1, (rNum (rByte (rByte s).2).2).1, 0, 0, 0, 0, 0, 0, 0⟩, (rNum (rByte (rByte s).2).2).2)
  else bif (rByte s).1 == 3 then (⟨3, 0, 0, 0, (rNum (rByte s).2).1, (rNum (rNum (rByte s).2).2).1, 0, 0, 0, 0⟩, (rNum (rNum (rByte s).2).2).2)
  else bif (rByte s).1 == 4 then (⟨4, 0, 0, 0, 0, 0, (rNum (rByte s).2).1, (rNum (rNum (rByte s).2).2).1, (rNum (rNum (rNum (rByte s).2).2).2).1, (rNum (rNum (rNum (rNum (rByte s).2).2).2).2).1⟩, (rNum (rNum (rNum (rNum (rByte s).2).2).2).2).2)
  else bif (rByte s).1 == 5 || (rByte s).1 == 6 then (⟨(rByte s).1, 0, 0, (rNum (rByte s).2).1, 0, 0, 0, 0, 0, 0⟩, (rNum (rByte s).2).2)
  else (⟨(rByte s).1, 0, 0, 0, 0, 0, 0, 0, 0, 0⟩, (rByte s).2.1, true)
def ansB (a : Rd) : List Int := by8 a.k :: (bif a.k == 1 then []
  else bif a.k == 2 then by8 a.e :: four a.a
  else bif a.k == 3 then four a.p ++ four a.t
  else bif a.k == 4 then four (held4 a.x) ++ four (held4 a.y) ++ four (held4 a.w) ++ four (held4 a.h)
  else four a.n)
def anW (a : Rd) : Bool := bif a.k == 1 then true
  else bif a.k == 2 then byOk a.e && fits a.a
  else bif a.k == 3 then fits a.p && fits a.t
  else bif a.k == 4 then true
  else bif a.k == 5 || a.k == 6 then fits a.n else false
def bareR (a : Rd) : Rd := bif a.k == 1 then ⟨1, 0, 0, 0, 0, 0, 0, 0, 0, 0⟩
  else bif a.k == 2 then ⟨2, a.e, a.a, 0, 0, 0, 0, 0, 0, 0⟩
  else bif a.k == 3 then ⟨3, 0, 0, 0, a.p, a.t, 0, 0, 0, 0⟩
  else bif a.k == 4 then ⟨4, 0, 0, 0, 0, 0, held4 a.x, held4 a.y, held4 a.w, held4 a.h⟩
  else bif a.k == 5 || a.k == 6 then ⟨a.k, 0, 0, a.n, 0, 0, 0, 0, 0, 0⟩ else ⟨a.k, 0, 0, 0, 0, 0, 0, 0, 0, 0⟩
/-- What an answer is that can be told. -/
def tellR (a : Rd) : Rd := bif a.k == 4 then ⟨4, 0, 0, 0, 0, 0, a.x, a.y, a.w, a.h⟩ else bareR a
theorem rReply_ansB {a : Rd} (h : anW a = true) (l : List Int) : rReply (ansB a ++ l, false) = (bareR a, l, false) := by
  obtain ⟨k, e, a, n, p, t, x, y, w, hh⟩ := a
  unfold anW at h
  simp only at h
  by_cases h1 : k = 1
  · subst h1; rfl
  by_cases h2 : k = 2
  · subst h2
    have h' : (byOk e && fits a) = true := h
    rw [Bool.and_eq_true] at h'
    have hb : by8 e = e := by
      have := h'.1
      unfold byOk at this
      rw [Bool.and_eq_true, decide_eq_true_eq, decide_eq_true_eq] at this
      unfold by8; omega
    show rReply (2 :: by8 e :: (four a ++ l), false) = _
    have e2 : ∀ c L, rReply (2 :: c :: L, false) = (⟨2, c, (rNum (L, false)).1, 0, 0, 0, 0, 0, 0, 0⟩, (rNum (L, false)).2) := fun c L => rfl
    rw [e2, rNum_four h'.2, hb]
    rfl
  by_cases h3 : k = 3
  · subst h3
    have h' : (fits p && fits t) = true := h
    rw [Bool.and_eq_true] at h'
    show rReply (3 :: (four p ++ four t ++ l), false) = _
    rw [List.append_assoc]
    have e : ∀ L, rReply (3 :: L, false) = (⟨3, 0, 0, 0, (rNum (L, false)).1, (rNum (rNum (L, false)).2).1, 0, 0, 0, 0⟩, (rNum (rNum (L, false)).2).2) := fun L => rfl
    rw [e]
    simp only [rNum_four h'.1, rNum_four h'.2]
    rfl
  by_cases h4 : k = 4
  · subst h4
    show rReply (4 :: (four (held4 x) ++ four (held4 y) ++ four (held4 w) ++ four (held4 hh) ++ l), false) = _
    rw [List.append_assoc, List.append_assoc, List.append_assoc]
    have e : ∀ L, rReply (4 :: L, false) = (⟨4, 0, 0, 0, 0, 0, (rNum (L, false)).1, (rNum (rNum (L, false)).2).1, (rNum (rNum (rNum (L, false)).2).2).1, (rNum (rNum (rNum (rNum (L, false)).2).2).2).1⟩, (rNum (rNum (rNum (rNum (L, false)).2).2).2).2) := fun L => rfl
    rw [e]
    simp only [rNum_four (fits_held _)]
    rfl
  by_cases h5 : k = 5
  · subst h5
    have h' : fits n = true := h
    show rReply (5 :: (four n ++ l), false) = _
    have e : ∀ L, rReply (5 :: L, false) = (⟨5, 0, 0, (rNum (L, false)).1, 0, 0, 0, 0, 0, 0⟩, (rNum (L, false)).2) := fun L => rfl
    rw [e]
    simp only [rNum_four h']
    rfl
  by_cases h6 : k = 6
  · subst h6
    have h' : fits n = true := h
    show rReply (6 :: (four n ++ l), false) = _
    have e : ∀ L, rReply (6 :: L, false) = (⟨6, 0, 0, (rNum (L, false)).1, 0, 0, 0, 0, 0, 0⟩, (rNum (L, false)).2) := fun L => rfl
    rw [e]
    simp only [rNum_four h']
    rfl
  · have b : ∀ c : Int, k ≠ c → (k == c) = false := fun c hc => by rw [beq_eq_false_iff_ne]; exact hc
    simp [b 1 h1, b 2 h2, b 6 h6, b 3 h3, b 4 h4, b 5 h5] at h
end
section
open Go Go.RowKit
theorem wh_w {bad : Bool} {k : Nat} {B : Nat → Int} {n : Int} : (lfun haG nol 60 Try.f148 [.c (.ptr 0 0 0), I64 n] [wrB bad k, rowU true k B]).go [] =
  some
    ([yes (k + 4 ≤ maxCells ∧ k = k ∧ (fun j => ub (B j)) = fun j => ub (ud (ub (B j))))], AV.tup [],
      [some
          { t := 168, own := true,
            c :=
              Cont.one
                [AC.sl 2 0 (k + 1 + 1 + 1 + 1),
                  AC.v (Value.bool (bad || !fits (mnI (2147483647 : Int) (mxI (-2147483648 : Int) n))))] },
        none,
        some
          { t := 5, own := true,
            c :=
              Cont.row 1 (k + 1 + 1 + 1 + 1) fun j =>
                [Value.int IntKind.u8
                    (fourB (fun j => ud (ub (B j))) k (mnI (2147483647 : Int) (mxI (-2147483648 : Int) n)) j)] }]) := by kernel_rfl
end
section
open Go Go.RowKit
theorem held_eq (n : Int) : mnI 2147483647 (mxI (-2147483648) n) = held4 n := by
  rw [mxI_eq, mnI_eq]; unfold held4; omega
noncomputable def wheF : Spec := fun args h => match args, h with
  | [.c (.ptr 0 0 0), .c (.v (.int .i64 n))], [some ⟨168, true, .one [.sl 1 0 k, .v (.bool bad)]⟩, some ⟨5, true, .row 1 k' f⟩] =>
    .need (yes (k + 4 ≤ maxCells ∧ k' = k ∧ f = fun j => ub (ud (f j)))) (.ret (.tup [], [some ⟨168, true, .one [.sl 2 0 (k + 1 + 1 + 1 + 1), .v (.bool bad)]⟩, none, rowU true (k + 1 + 1 + 1 + 1) (fourB (fun j => ud (f j)) k (held4 n))]))
  | _, _ => .fail
theorem wheF_ok : SpecOk Try.prog 148 wheF := by
  refine knownS KWO_ok Try.func148 fun args h r he => ?_
  unfold wheF at he
  split at he
  · rename_i n k bad k' f
    obtain ⟨⟨h1, h2, h3⟩, he'⟩ := Tr.eval_ask.1 he
    subst h2
    cases he'
    have e1 : some ⟨5, true, .row 1 k' f⟩ = rowU true k' fun j => ud (f j) := by rw [rowU, ← h3]
    rw [e1]
    refine ⟨(fun _ => []), [], 60, nol, noLoopsS, (Tr.go_eval (wh_w (bad := bad) (k := k') (B := fun j => ud (f j)) (n := n)) ⟨yes_of ⟨h1, rfl, rfl⟩, trivial⟩).trans ?_⟩
    rw [held_eq, fits_held]
    cases bad <;> rfl
  · cases he
end
section
open Go Go.RowKit
theorem bif_yes {p : Prop} {α : Type} {a b : α} (h : p) : (bif yes p then a else b) = a := by rw [yes_of h]; rfl
theorem rdI_le {i n m : Nat} (h : i + n ≤ m) : rdI i n + (n - 1) ≤ m := by
  unfold rdI
  by_cases h0 : n = 0
  · subst h0
    simpa using h
  · have e1 : (((n : Nat) : Int) == (0 : Int)) = false := by simp only [beq_eq_false_iff_ne]; omega
    rw [e1, cond_false]; omega
def nbS (a x : Int) : Int := (((BitVec.ofInt IntKind.u32.bits (IntKind.u32.wrap (a * (2 : Int) ^ min 8 IntKind.u32.bits)) ||| BitVec.ofInt IntKind.u32.bits (IntKind.u32.wrap x)).toNat : Nat) : Int)
def nbX (x0 x1 x2 x3 : Int) : Int := w64 (IntKind.i32.wrap (IntKind.u32.wrap (nbS (IntKind.u32.wrap (nbS (IntKind.u32.wrap (nbS (IntKind.u32.wrap (nbS 0 x0)) x1)) x2)) x3)))
def rnV4 (B : Nat → Int) (i n : Nat) : Int := nbX (rdX B i n) (rdX B (rdI i n) (n - 1)) (rdX B (rdI (rdI i n) (n - 1)) (n - 1 - 1)) (rdX B (rdI (rdI (rdI i n) (n - 1)) (n - 1 - 1)) (n - 1 - 1 - 1))
def rdI4 (i n : Nat) : Nat := rdI (rdI (rdI (rdI i n) (n - 1)) (n - 1 - 1)) (n - 1 - 1 - 1)
def rdB4 (bad : Bool) (n : Nat) : Bool := (((bad || ((n : Nat) : Int) == (0 : Int)) || ((n - 1 : Nat) : Int) == (0 : Int)) || ((n - 1 - 1 : Nat) : Int) == (0 : Int)) || ((n - 1 - 1 - 1 : Nat) : Int) == (0 : Int)
theorem rnm_eval {bad own : Bool} {i n m : Nat} {B : Nat → Int} (h : i + n ≤ m) : (afun rnmG 60 Try.f163 [.c (.ptr 0 0 0)] [rdB bad i n, rowU own m B]).eval =
    some (I64 (rnV4 B i n), [some ⟨175, true, .one [.sl 1 (rdI4 i n) (n - 1 - 1 - 1 - 1), .v (.bool (rdB4 bad n))]⟩, rowU own m B]) := by
  rw [rnm_nf]
  have h2 := rdI_le h
  have h3 := rdI_le h2
  have h4 := rdI_le h3
  refine Eq.trans (bif_yes ?_) ?_
  · exact ⟨h, rfl⟩
  refine Eq.trans (bif_yes ?_) ?_
  · exact ⟨h2, rfl⟩
  refine Eq.trans (bif_yes ?_) ?_
  · exact ⟨h3, rfl⟩
  refine Eq.trans (bif_yes ?_) ?_
  · exact ⟨h4, rfl⟩
  rfl
noncomputable def rnmF : Spec := fun args h => match args, h with
  | [.c (.ptr 0 0 0)], [some ⟨175, true, .one [.sl 1 i n, .v (.bool bad)]⟩, some ⟨5, own, .row 1 m f⟩] =>
    .need (yes (i + n ≤ m ∧ f = fun j => ub (ud (f j)))) (.ret (I64 (rnV4 (fun j => ud (f j)) i n), [some ⟨175, true, .one [.sl 1 (rdI4 i n) (n - 1 - 1 - 1 - 1), .v (.bool (rdB4 bad n))]⟩, rowU own m (fun j => ud (f j))]))
  | _, _ => .fail
theorem rnmF_ok : SpecOk Try.prog 163 rnmF := by
  refine known' KRD_ok Try.func163 fun args h r he => ?_
  unfold rnmF at he
  split at he
  · rename_i i n bad own m f
    obtain ⟨⟨h1, h2⟩, he'⟩ := Tr.eval_ask.1 he
    cases he'
    have e1 : some ⟨5, own, .row 1 m f⟩ = rowU own m fun j => ud (f j) := by rw [rowU, ← h2]
    exact ⟨_, _, _, by rw [e1]; exact rnm_eval h1⟩
  · cases he
end
section
open Go Go.RowKit
noncomputable def KRN : Known := [(162, rbF), (163, rnmF)]
theorem KRN_ok : KnownOk KRN := consK rbF_ok (by kernel_rfl) (consK rnmF_ok (by kernel_rfl) nilK)
noncomputable def rhG : Ctx2 := GT KRN (fun _ => []) 0 []
theorem rhG_ok : XOk rhG := GT_ok KRN_ok _ _ _
theorem rh_nf {bad own : Bool} {i n m : Nat} {B : Nat → Int} : (lfun rhG nol 60 Try.f165 [.c (.ptr 0 0 0)] [rdB bad i n, rowU own m B]).eval = bif yes (i + n ≤ m ∧ (fun j => ub (B j)) = fun j => ub (ud (ub (B j)))) then bif yes (rdI4 i n + (n - 1 - 1 - 1 - 1) ≤ m ∧ (fun j => ub (ud (ub (B j)))) = fun j => ub (ud (ub (ud (ub (B j)))))) then some (.agg [i64 (rnV4 (fun j => ud (ub (B j))) i n), i64 (rnV4 (fun j => ud (ub (ud (ub (B j))))) (rdI4 i n) (n - 1 - 1 - 1 - 1))], [some ⟨175, true, .one [.sl 1 (rdI4 (rdI4 i n) (n - 1 - 1 - 1 - 1)) (n - 1 - 1 - 1 - 1 - 1 - 1 - 1 - 1), .v (.bool (rdB4 (rdB4 bad n) (n - 1 - 1 - 1 - 1)))]⟩, some ⟨5, own, .row 1 m fun j => [.int .u8 (ud (ub (ud (ub (B j)))))]⟩]) else none else none := by kernel_rfl
theorem rt_nf {bad own : Bool} {i n m : Nat} {B : Nat → Int} : (lfun rhG nol 60 Try.f164 [.c (.ptr 0 0 0)] [rdB bad i n, rowU own m B]).eval = bif yes (i + n ≤ m ∧ (fun j => ub (B j)) = fun j => ub (ud (ub (B j)))) then bif yes (rdI i n + (n - 1) ≤ m ∧ (fun j => ub (ud (ub (B j)))) = fun j => ub (ud (ub (ud (ub (B j)))))) then bif bad || ((n : Nat) : Int) == (0 : Int) || ((n - 1 : Nat) : Int) == (0 : Int) then some (.c (.v (.string (⟨#[]⟩ : ByteArray))), [some ⟨175, true, .one [.sl 1 (rdI (rdI i n) (n - 1)) (n - 1 - 1), .v (.bool true)]⟩, some ⟨5, own, .row 1 m fun j => [.int .u8 (ud (ub (ud (ub (B j)))))]⟩]) else bif decide (w64 (((BitVec.ofInt IntKind.i64.bits (w64 (rdX (fun j => ud (ub (B j))) i n * (2 : Int) ^ min 8 IntKind.i64.bits)) ||| BitVec.ofInt IntKind.i64.bits (rdX (fun j => ud (ub (ud (ub (B j))))) (rdI i n) (n - 1))).toNat : Nat) : Int) > ((n - 1 - 1 : Nat) : Int)) then some (.c (.v (.string (⟨#[]⟩ : ByteArray))), [some ⟨175, true, .one [.sl 1 (rdI (rdI i n) (n - 1)) (n - 1 - 1), .v (.bool true)]⟩, some ⟨5, own, .row 1 m fun j => [.int .u8 (ud (ub (ud (ub (B j)))))]⟩]) else bif decInt (0 : Int) (w64 (((BitVec.ofInt IntKind.i64.bits (w64 (rdX (fun j => ud (ub (B j))) i n * (2 : Int) ^ min 8 IntKind.i64.bits)) ||| BitVec.ofInt IntKind.i64.bits (rdX (fun j => ud (ub (ud (ub (B j))))) (rdI i n) (n - 1))).toNat : Nat) : Int)) (n - 1 - 1) then bif decide (rdI (rdI i n) (n - 1) + (w64 (((BitVec.ofInt IntKind.i64.bits (w64 (rdX (fun j => ud (ub (B j))) i n * (2 : Int) ^ min 8 IntKind.i64.bits)) ||| BitVec.ofInt IntKind.i64.bits (rdX (fun j => ud (ub (ud (ub (B j))))) (rdI i n) (n - 1))).toNat : Nat) : Int)).toNat ≤ m) then bif allB (w64 (((BitVec.ofInt IntKind.i64.bits (w64 (rdX (fun j => ud (ub (B j))) i n * (2 : Int) ^ min 8 IntKind.i64.bits)) ||| BitVec.ofInt IntKind.i64.bits (rdX (fun j => ud (ub (ud (ub (B j))))) (rdI i n) (n - 1))).toNat : Nat) : Int)).toNat fun k => isU8 (ub (ud (ub (ud (ub (B (rdI (rdI i n) (n - 1) + k))))))) then bif decInt (w64 (((BitVec.ofInt IntKind.i64.bits (w64 (rdX (fun j => ud (ub (B j))) i n * (2 : Int) ^ min 8 IntKind.i64.bits)) ||| BitVec.ofInt IntKind.i64.bits (rdX (fun j => ud (ub (ud (ub (B j))))) (rdI i n) (n - 1))).toNat : Nat) : Int)) (((n - 1 - 1 : Nat) : Int)) (n - 1 - 1) then some (.c (.v (.string (bytesOf (fun j => ub (ud (ub (ud (ub (B j)))))) (rdI (rdI i n) (n - 1)) (w64 (((BitVec.ofInt IntKind.i64.bits (w64 (rdX (fun j => ud (ub (B j))) i n * (2 : Int) ^ min 8 IntKind.i64.bits)) ||| BitVec.ofInt IntKind.i64.bits (rdX (fun j => ud (ub (ud (ub (B j))))) (rdI i n) (n - 1))).toNat : Nat) : Int)).toNat))), [some ⟨175, true, .one [.sl 1 (rdI (rdI i n) (n - 1) + (w64 (((BitVec.ofInt IntKind.i64.bits (w64 (rdX (fun j => ud (ub (B j))) i n * (2 : Int) ^ min 8 IntKind.i64.bits)) ||| BitVec.ofInt IntKind.i64.bits (rdX (fun j => ud (ub (ud (ub (B j))))) (rdI i n) (n - 1))).toNat : Nat) : Int)).toNat) (n - 1 - 1 - (w64 (((BitVec.ofInt IntKind.i64.bits (w64 (rdX (fun j => ud (ub (B j))) i n * (2 : Int) ^ min 8 IntKind.i64.bits)) ||| BitVec.ofInt IntKind.i64.bits (rdX (fun j => ud (ub (ud (ub (B j))))) (rdI i n) (n - 1))).toNat : Nat) : Int)).toNat), .v (.bool (bad || ((n : Nat) : Int) == (0 : Int) || ((n - 1 : Nat) : Int) == (0 : Int)))]⟩, some ⟨5, own, .row 1 m fun j => [.int .u8 (ud (ub (ud (ub (B j)))))]⟩]) else none else none else none else none else none else none := by kernel_rfl
end
section
open Go Go.RowKit
theorem rdI4_le {i n m : Nat} (h : i + n ≤ m) : rdI4 i n + (n - 1 - 1 - 1 - 1) ≤ m := rdI_le (rdI_le (rdI_le (rdI_le h)))
theorem rh_eval {bad own : Bool} {i n m : Nat} {B : Nat → Int} (h : i + n ≤ m) : (lfun rhG nol 60 Try.f165 [.c (.ptr 0 0 0)] [rdB bad i n, rowU own m B]).eval =
    some (.agg [i64 (rnV4 B i n), i64 (rnV4 B (rdI4 i n) (n - 1 - 1 - 1 - 1))], [some ⟨175, true, .one [.sl 1 (rdI4 (rdI4 i n) (n - 1 - 1 - 1 - 1)) (n - 1 - 1 - 1 - 1 - 1 - 1 - 1 - 1), .v (.bool (rdB4 (rdB4 bad n) (n - 1 - 1 - 1 - 1)))]⟩, rowU own m B]) := by
  rw [rh_nf]
  refine Eq.trans (bif_yes ?_) ?_
  · exact ⟨h, rfl⟩
  refine Eq.trans (bif_yes ?_) ?_
  · exact ⟨rdI4_le h, rfl⟩
  rfl
noncomputable def rhF : Spec := fun args h => match args, h with
  | [.c (.ptr 0 0 0)], [some ⟨175, true, .one [.sl 1 i n, .v (.bool bad)]⟩, some ⟨5, own, .row 1 m f⟩] =>
    .need (yes (i + n ≤ m ∧ f = fun j => ub (ud (f j)))) (.ret (.agg [i64 (rnV4 (fun j => ud (f j)) i n), i64 (rnV4 (fun j => ud (f j)) (rdI4 i n) (n - 1 - 1 - 1 - 1))], [some ⟨175, true, .one [.sl 1 (rdI4 (rdI4 i n) (n - 1 - 1 - 1 - 1)) (n - 1 - 1 - 1 - 1 - 1 - 1 - 1 - 1), .v (.bool (rdB4 (rdB4 bad n) (n - 1 - 1 - 1 - 1)))]⟩, rowU own m (fun j => ud (f j))]))
  | _, _ => .fail
theorem rhF_ok : SpecOk Try.prog 165 rhF := by
  refine knownS KRN_ok Try.func165 fun args h r he => ?_
  unfold rhF at he
  split at he
  · rename_i i n bad own m f
    obtain ⟨⟨h1, h2⟩, he'⟩ := Tr.eval_ask.1 he
    cases he'
    have e1 : some ⟨5, own, .row 1 m f⟩ = rowU own m fun j => ud (f j) := by rw [rowU, ← h2]
    exact ⟨_, [], 60, nol, noLoopsS, by rw [e1]; exact rh_eval h1⟩
  · cases he
end
section
open Go Go.RowKit
def rtL (B : Nat → Int) (i n : Nat) : Int := w64 (((BitVec.ofInt IntKind.i64.bits (w64 (rdX B i n * (2 : Int) ^ min 8 IntKind.i64.bits)) ||| BitVec.ofInt IntKind.i64.bits (rdX B (rdI i n) (n - 1))).toNat : Nat) : Int)
def rtI (i n : Nat) : Nat := rdI (rdI i n) (n - 1)
def rtB (bad : Bool) (n : Nat) : Bool := (bad || ((n : Nat) : Int) == (0 : Int)) || ((n - 1 : Nat) : Int) == (0 : Int)
/- does the text end too soon? -/
def rtE (bad : Bool) (B : Nat → Int) (i n : Nat) : Bool := rtB bad n || decide (rtL B i n > ((n - 1 - 1 : Nat) : Int))
def rtS (bad : Bool) (B : Nat → Int) (i n : Nat) : ByteArray := bif rtE bad B i n then ⟨#[]⟩ else bytesOf (fun j => ub (B j)) (rtI i n) (rtL B i n).toNat
def rtJ (bad : Bool) (B : Nat → Int) (i n : Nat) : Nat := bif rtE bad B i n then rtI i n else rtI i n + (rtL B i n).toNat
def rtN (bad : Bool) (B : Nat → Int) (i n : Nat) : Nat := bif rtE bad B i n then n - 1 - 1 else n - 1 - 1 - (rtL B i n).toNat
theorem bif_t {c : Bool} {α : Type} {a b : α} (h : c = true) : (bif c then a else b) = a := by rw [h]; rfl
theorem bif_f {c : Bool} {α : Type} {a b : α} (h : c = false) : (bif c then a else b) = b := by rw [h]; rfl
theorem allB_u8 (f : Nat → List Value) (h : ∀ k, isU8 (f k) = true) (n : Nat) : allB n (fun k => isU8 (f k)) = true := by
  unfold allB
  rw [List.all_eq_true]
  exact fun k _ => h k
theorem rt_eval {bad own : Bool} {i n m : Nat} {B : Nat → Int} (h : i + n ≤ m) (hL : 0 ≤ rtL B i n) : (lfun rhG nol 60 Try.f164 [.c (.ptr 0 0 0)] [rdB bad i n, rowU own m B]).eval =
    some (StrA (rtS bad B i n), [some ⟨175, true, .one [.sl 1 (rtJ bad B i n) (rtN bad B i n), .v (.bool (rtE bad B i n))]⟩, rowU own m B]) := by
  rw [rt_nf]
  refine Eq.trans (bif_yes ?_) ?_
  · exact ⟨h, rfl⟩
  refine Eq.trans (bif_yes ?_) ?_
  · exact ⟨rdI_le h, rfl⟩
  have h3 : rtI i n + (n - 1 - 1) ≤ m := rdI_le (rdI_le h)
  cases hb : rtB bad n with
  | true =>
    have he : rtE bad B i n = true := by unfold rtE; rw [hb]; rfl
    refine Eq.trans (bif_t hb) ?_
    unfold rtS rtJ rtN
    rw [he]
    rfl
  | false =>
    refine Eq.trans (bif_f hb) ?_
    by_cases ho : rtL B i n > ((n - 1 - 1 : Nat) : Int)
    · have he : rtE bad B i n = true := by unfold rtE; rw [decide_eq_true ho, Bool.or_true]
      refine Eq.trans (bif_t (decide_eq_true ho)) ?_
      unfold rtS rtJ rtN
      rw [he]
      rfl
    · have he : rtE bad B i n = false := by unfold rtE; rw [decide_eq_false ho, hb]; rfl
      refine Eq.trans (bif_f (decide_eq_false ho)) ?_
      refine Eq.trans (bif_t ?_) ?_
      · show decInt 0 (rtL B i n) (n - 1 - 1) = true
        unfold decInt; simp only [Bool.and_eq_true, decide_eq_true_eq]; omega
      refine Eq.trans (bif_t ?_) ?_
      · show decide (rtI i n + (rtL B i n).toNat ≤ m) = true
        exact decide_eq_true (by omega)
      refine Eq.trans (bif_t ?_) ?_
      · exact allB_u8 _ (fun _ => rfl) _
      refine Eq.trans (bif_t ?_) ?_
      · show decInt (rtL B i n) ((n - 1 - 1 : Nat) : Int) (n - 1 - 1) = true
        unfold decInt; simp only [Bool.and_eq_true, decide_eq_true_eq]; omega
      unfold rtS rtJ rtN
      rw [he]
      have hb' : ((bad || ((n : Nat) : Int) == (0 : Int)) || ((n - 1 : Nat) : Int) == (0 : Int)) = false := hb
      simp only [hb', cond_false]
      rfl
noncomputable def rtF : Spec := fun args h => match args, h with
  | [.c (.ptr 0 0 0)], [some ⟨175, true, .one [.sl 1 i n, .v (.bool bad)]⟩, some ⟨5, own, .row 1 m f⟩] =>
    .need (yes (i + n ≤ m ∧ (f = fun j => ub (ud (f j))) ∧ 0 ≤ rtL (fun j => ud (f j)) i n)) (.ret (StrA (rtS bad (fun j => ud (f j)) i n), [some ⟨175, true, .one [.sl 1 (rtJ bad (fun j => ud (f j)) i n) (rtN bad (fun j => ud (f j)) i n), .v (.bool (rtE bad (fun j => ud (f j)) i n))]⟩, rowU own m (fun j => ud (f j))]))
  | _, _ => .fail
theorem rtF_ok : SpecOk Try.prog 164 rtF := by
  refine knownS KRN_ok Try.func164 fun args h r he => ?_
  unfold rtF at he
  split at he
  · rename_i i n bad own m f
    obtain ⟨⟨h1, h2, h3⟩, he'⟩ := Tr.eval_ask.1 he
    cases he'
    have e1 : some ⟨5, own, .row 1 m f⟩ = rowU own m fun j => ud (f j) := by rw [rowU, ← h2]
    exact ⟨_, [], 60, nol, noLoopsS, by rw [e1]; exact rt_eval h1 h3⟩
  · cases he
end
section
open Go Go.RowKit
noncomputable def KRQ : Known := [(162, rbF), (163, rnmF), (164, rtF), (165, rhF)]
theorem KRQ_ok : KnownOk KRQ := consK rbF_ok (by kernel_rfl) (consK rnmF_ok (by kernel_rfl) (consK rtF_ok (by kernel_rfl) (consK rhF_ok (by kernel_rfl) nilK)))
abbrev rqK : List (Nat × Option TypeId) := [(0,none),(2,none),(3,none),(4,none),(5,none),(11,none)]
noncomputable def rqG : Ctx2 := GT KRQ (fun k => if k = 8 then rqK else []) 0 []
theorem rqG_ok : XOk rqG := GT_ok KRQ_ok _ _ _
def rqZ : Option ABlk := some ⟨128, true, .one [i64 0, i64 0, i64 0, i64 0, i64 0, i64 0, .v (.slice none 0 0)]⟩
def rqS (own : Bool) (m : Nat) (B : Nat → Int) (bad : Bool) (i n : Nat) (q c j : Int) (na : Nat) (P : Nat → Opp) : St :=
  ⟨slots 104 [(0, .c (.ptr 0 0 0)), (2, .c (.ptr 2 0 0)), (3, .c (.ptr 3 0 0)), (4, I64 c), (5, I64 j), (11, I64 q)], [rdB bad i n, rowU own m B, rqZ, some ⟨128, true, .one [i64 q, i64 0, i64 0, i64 0, i64 0, i64 0, .sl 4 0 na]⟩, rowP true na P]⟩
theorem rq_t {own : Bool} {m : Nat} {B : Nat → Int} {bad : Bool} {i n : Nat} {q c j : Int} {na : Nat} {P : Nat → Opp} : (rT rqG nol 2 48 (bodyOf Try.f145 0) rqK rqK (rqS own m B bad i n q c j na P)).go [] = some ([decide (j < c), true, true, true, true, true, !bad, yes (i + n ≤ m ∧ (fun j => ub (B j)) = fun j => ub (ud (ub (B j)))), yes (rdI i n + (n - 1) ≤ m ∧ (fun j => ub (ud (ub (B j)))) = fun j => ub (ud (ub (ud (ub (B j)))))), yes (rdI4 (rdI i n) (n - 1) + (n - 1 - 1 - 1 - 1 - 1) ≤ m ∧ (fun j => ub (ud (ub (ud (ub (B j)))))) = fun j => ub (ud (ub (ud (ub (ud (ub (B j)))))))), yes (rdI4 (rdI4 (rdI i n) (n - 1)) (n - 1 - 1 - 1 - 1 - 1) + (n - 1 - 1 - 1 - 1 - 1 - 1 - 1 - 1 - 1) ≤ m ∧ (fun j => ub (ud (ub (ud (ub (ud (ub (B j)))))))) = fun j => ub (ud (ub (ud (ub (ud (ub (ud (ub (B j)))))))))), yes (rdI4 (rdI4 (rdI4 (rdI i n) (n - 1)) (n - 1 - 1 - 1 - 1 - 1)) (n - 1 - 1 - 1 - 1 - 1 - 1 - 1 - 1 - 1) + (n - 1 - 1 - 1 - 1 - 1 - 1 - 1 - 1 - 1 - 1 - 1 - 1 - 1) ≤ m ∧ ((fun j => ub (ud (ub (ud (ub (ud (ub (ud (ub (B j)))))))))) = fun j => ub (ud (ub (ud (ub (ud (ub (ud (ub (ud (ub (B j)))))))))))) ∧ (0 : Int) ≤ rtL (fun j => ud (ub (ud (ub (ud (ub (ud (ub (ud (ub (B j))))))))))) (rdI4 (rdI4 (rdI4 (rdI i n) (n - 1)) (n - 1 - 1 - 1 - 1 - 1)) (n - 1 - 1 - 1 - 1 - 1 - 1 - 1 - 1 - 1)) (n - 1 - 1 - 1 - 1 - 1 - 1 - 1 - 1 - 1 - 1 - 1 - 1 - 1)), rtE (rdB4 (rdB4 (rdB4 (bad || ((n : Nat) : Int) == (0 : Int)) (n - 1)) (n - 1 - 1 - 1 - 1 - 1)) (n - 1 - 1 - 1 - 1 - 1 - 1 - 1 - 1 - 1)) (fun j => ud (ub (ud (ub (ud (ub (ud (ub (ud (ub (B j))))))))))) (rdI4 (rdI4 (rdI4 (rdI i n) (n - 1)) (n - 1 - 1 - 1 - 1 - 1)) (n - 1 - 1 - 1 - 1 - 1 - 1 - 1 - 1 - 1)) (n - 1 - 1 - 1 - 1 - 1 - 1 - 1 - 1 - 1 - 1 - 1 - 1 - 1), true, true, true, true, decide (na = na), true, decide ((na + 1) * 48 ≤ maxCells)], Ex.normal, { sl := slots 104 [(0, .c (.ptr 0 0 0)), (2, .c (.ptr 2 0 0)), (3, .c (.ptr 3 0 0)), (4, I64 c), (5, I64 (w64 (j + (1 : Int)))), (11, I64 q)], h := [some ⟨175, true, .one [.sl 1 (rtJ (rdB4 (rdB4 (rdB4 (bad || ((n : Nat) : Int) == (0 : Int)) (n - 1)) (n - 1 - 1 - 1 - 1 - 1)) (n - 1 - 1 - 1 - 1 - 1 - 1 - 1 - 1 - 1)) (fun j => ud (ub (ud (ub (ud (ub (ud (ub (ud (ub (B j))))))))))) (rdI4 (rdI4 (rdI4 (rdI i n) (n - 1)) (n - 1 - 1 - 1 - 1 - 1)) (n - 1 - 1 - 1 - 1 - 1 - 1 - 1 - 1 - 1)) (n - 1 - 1 - 1 - 1 - 1 - 1 - 1 - 1 - 1 - 1 - 1 - 1 - 1)) (rtN (rdB4 (rdB4 (rdB4 (bad || ((n : Nat) : Int) == (0 : Int)) (n - 1)) (n - 1 - 1 - 1 - 1 - 1)) (n - 1 - 1 - 1 - 1 - 1 - 1 - 1 - 1 - 1)) (fun j => ud (ub (ud (ub (ud (ub (ud (ub (ud (ub (B j))))))))))) (rdI4 (rdI4 (rdI4 (rdI i n) (n - 1)) (n - 1 - 1 - 1 - 1 - 1)) (n - 1 - 1 - 1 - 1 - 1 - 1 - 1 - 1 - 1)) (n - 1 - 1 - 1 - 1 - 1 - 1 - 1 - 1 - 1 - 1 - 1 - 1 - 1)), .v (.bool true)]⟩, some ⟨5, own, .row 1 m fun j => [.int .u8 (ud (ub (ud (ub (ud (ub (ud (ub (ud (ub (B j)))))))))))]⟩, some ⟨128, true, .one [i64 0, i64 0, i64 0, i64 0, i64 0, i64 0, .v (.slice none 0 0)]⟩, some ⟨128, true, .one [i64 q, i64 0, i64 0, i64 0, i64 0, i64 0, .sl 4 0 (na + 1)]⟩, some ⟨121, true, .row 5 (na + 1) fun k => [.int .i64 (bif decide (k = na) then rdX (fun j => ud (ub (B j))) i n else (P k).k), .int .i64 (bif decide (k = na) then rnV4 (fun j => ud (ub (ud (ub (B j))))) (rdI i n) (n - 1) else (P k).i), .int .i64 (bif decide (k = na) then rnV4 (fun j => ud (ub (ud (ub (ud (ub (B j))))))) (rdI4 (rdI i n) (n - 1)) (n - 1 - 1 - 1 - 1 - 1) else (P k).a), .int .i64 (bif decide (k = na) then rnV4 (fun j => ud (ub (ud (ub (ud (ub (ud (ub (B j))))))))) (rdI4 (rdI4 (rdI i n) (n - 1)) (n - 1 - 1 - 1 - 1 - 1)) (n - 1 - 1 - 1 - 1 - 1 - 1 - 1 - 1 - 1) else (P k).b), .string (bif decide (k = na) then rtS (rdB4 (rdB4 (rdB4 (bad || ((n : Nat) : Int) == (0 : Int)) (n - 1)) (n - 1 - 1 - 1 - 1 - 1)) (n - 1 - 1 - 1 - 1 - 1 - 1 - 1 - 1 - 1)) (fun j => ud (ub (ud (ub (ud (ub (ud (ub (ud (ub (B j))))))))))) (rdI4 (rdI4 (rdI4 (rdI i n) (n - 1)) (n - 1 - 1 - 1 - 1 - 1)) (n - 1 - 1 - 1 - 1 - 1 - 1 - 1 - 1 - 1)) (n - 1 - 1 - 1 - 1 - 1 - 1 - 1 - 1 - 1 - 1 - 1 - 1 - 1) else (P k).s)]⟩] }) := by kernel_rfl
theorem rq_f {own : Bool} {m : Nat} {B : Nat → Int} {bad : Bool} {i n : Nat} {q c j : Int} {na : Nat} {P : Nat → Opp} : (rT rqG nol 2 48 (bodyOf Try.f145 0) rqK rqK (rqS own m B bad i n q c j na P)).go [true, true, true, true, true, true, true, true, true, true, true, true, false, false, false, false, false] = some ([decide (j < c), true, true, true, true, true, !bad, yes (i + n ≤ m ∧ (fun j => ub (B j)) = fun j => ub (ud (ub (B j)))), yes (rdI i n + (n - 1) ≤ m ∧ (fun j => ub (ud (ub (B j)))) = fun j => ub (ud (ub (ud (ub (B j)))))), yes (rdI4 (rdI i n) (n - 1) + (n - 1 - 1 - 1 - 1 - 1) ≤ m ∧ (fun j => ub (ud (ub (ud (ub (B j)))))) = fun j => ub (ud (ub (ud (ub (ud (ub (B j)))))))), yes (rdI4 (rdI4 (rdI i n) (n - 1)) (n - 1 - 1 - 1 - 1 - 1) + (n - 1 - 1 - 1 - 1 - 1 - 1 - 1 - 1 - 1) ≤ m ∧ (fun j => ub (ud (ub (ud (ub (ud (ub (B j)))))))) = fun j => ub (ud (ub (ud (ub (ud (ub (ud (ub (B j)))))))))), yes (rdI4 (rdI4 (rdI4 (rdI i n) (n - 1)) (n - 1 - 1 - 1 - 1 - 1)) (n - 1 - 1 - 1 - 1 - 1 - 1 - 1 - 1 - 1) + (n - 1 - 1 - 1 - 1 - 1 - 1 - 1 - 1 - 1 - 1 - 1 - 1 - 1) ≤ m ∧ ((fun j => ub (ud (ub (ud (ub (ud (ub (ud (ub (B j)))))))))) = fun j => ub (ud (ub (ud (ub (ud (ub (ud (ub (ud (ub (B j)))))))))))) ∧ (0 : Int) ≤ rtL (fun j => ud (ub (ud (ub (ud (ub (ud (ub (ud (ub (B j))))))))))) (rdI4 (rdI4 (rdI4 (rdI i n) (n - 1)) (n - 1 - 1 - 1 - 1 - 1)) (n - 1 - 1 - 1 - 1 - 1 - 1 - 1 - 1 - 1)) (n - 1 - 1 - 1 - 1 - 1 - 1 - 1 - 1 - 1 - 1 - 1 - 1 - 1)), !rtE (rdB4 (rdB4 (rdB4 (bad || ((n : Nat) : Int) == (0 : Int)) (n - 1)) (n - 1 - 1 - 1 - 1 - 1)) (n - 1 - 1 - 1 - 1 - 1 - 1 - 1 - 1 - 1)) (fun j => ud (ub (ud (ub (ud (ub (ud (ub (ud (ub (B j))))))))))) (rdI4 (rdI4 (rdI4 (rdI i n) (n - 1)) (n - 1 - 1 - 1 - 1 - 1)) (n - 1 - 1 - 1 - 1 - 1 - 1 - 1 - 1 - 1)) (n - 1 - 1 - 1 - 1 - 1 - 1 - 1 - 1 - 1 - 1 - 1 - 1 - 1), true, true, true, true, decide (na = na), true, decide ((na + 1) * 48 ≤ maxCells)], Ex.normal, { sl := slots 104 [(0, .c (.ptr 0 0 0)), (2, .c (.ptr 2 0 0)), (3, .c (.ptr 3 0 0)), (4, I64 c), (5, I64 (w64 (j + (1 : Int)))), (11, I64 q)], h := [some ⟨175, true, .one [.sl 1 (rtJ (rdB4 (rdB4 (rdB4 (bad || ((n : Nat) : Int) == (0 : Int)) (n - 1)) (n - 1 - 1 - 1 - 1 - 1)) (n - 1 - 1 - 1 - 1 - 1 - 1 - 1 - 1 - 1)) (fun j => ud (ub (ud (ub (ud (ub (ud (ub (ud (ub (B j))))))))))) (rdI4 (rdI4 (rdI4 (rdI i n) (n - 1)) (n - 1 - 1 - 1 - 1 - 1)) (n - 1 - 1 - 1 - 1 - 1 - 1 - 1 - 1 - 1)) (n - 1 - 1 - 1 - 1 - 1 - 1 - 1 - 1 - 1 - 1 - 1 - 1 - 1)) (rtN (rdB4 (rdB4 (rdB4 (bad || ((n : Nat) : Int) == (0 : Int)) (n - 1)) (n - 1 - 1 - 1 - 1 - 1)) (n - 1 - 1 - 1 - 1 - 1 - 1 - 1 - 1 - 1)) (fun j => ud (ub (ud (ub (ud (ub (ud (ub (ud (ub (B j))))))))))) (rdI4 (rdI4 (rdI4 (rdI i n) (n - 1)) (n - 1 - 1 - 1 - 1 - 1)) (n - 1 - 1 - 1 - 1 - 1 - 1 - 1 - 1 - 1)) (n - 1 - 1 - 1 - 1 - 1 - 1 - 1 - 1 - 1 - 1 - 1 - 1 - 1)), .v (.bool (decide ((((rtS (rdB4 (rdB4 (rdB4 (bad || ((n : Nat) : Int) == (0 : Int)) (n - 1)) (n - 1 - 1 - 1 - 1 - 1)) (n - 1 - 1 - 1 - 1 - 1 - 1 - 1 - 1 - 1)) (fun j => ud (ub (ud (ub (ud (ub (ud (ub (ud (ub (B j))))))))))) (rdI4 (rdI4 (rdI4 (rdI i n) (n - 1)) (n - 1 - 1 - 1 - 1 - 1)) (n - 1 - 1 - 1 - 1 - 1 - 1 - 1 - 1 - 1)) (n - 1 - 1 - 1 - 1 - 1 - 1 - 1 - 1 - 1 - 1 - 1 - 1 - 1)).size : Nat) : Int) > (2000 : Int))))]⟩, some ⟨5, own, .row 1 m fun j => [.int .u8 (ud (ub (ud (ub (ud (ub (ud (ub (ud (ub (B j)))))))))))]⟩, some ⟨128, true, .one [i64 0, i64 0, i64 0, i64 0, i64 0, i64 0, .v (.slice none 0 0)]⟩, some ⟨128, true, .one [i64 q, i64 0, i64 0, i64 0, i64 0, i64 0, .sl 4 0 (na + 1)]⟩, some ⟨121, true, .row 5 (na + 1) fun k => [.int .i64 (bif decide (k = na) then rdX (fun j => ud (ub (B j))) i n else (P k).k), .int .i64 (bif decide (k = na) then rnV4 (fun j => ud (ub (ud (ub (B j))))) (rdI i n) (n - 1) else (P k).i), .int .i64 (bif decide (k = na) then rnV4 (fun j => ud (ub (ud (ub (ud (ub (B j))))))) (rdI4 (rdI i n) (n - 1)) (n - 1 - 1 - 1 - 1 - 1) else (P k).a), .int .i64 (bif decide (k = na) then rnV4 (fun j => ud (ub (ud (ub (ud (ub (ud (ub (B j))))))))) (rdI4 (rdI4 (rdI i n) (n - 1)) (n - 1 - 1 - 1 - 1 - 1)) (n - 1 - 1 - 1 - 1 - 1 - 1 - 1 - 1 - 1) else (P k).b), .string (bif decide (k = na) then rtS (rdB4 (rdB4 (rdB4 (bad || ((n : Nat) : Int) == (0 : Int)) (n - 1)) (n - 1 - 1 - 1 - 1 - 1)) (n - 1 - 1 - 1 - 1 - 1 - 1 - 1 - 1 - 1)) (fun j => ud (ub (ud (ub (ud (ub (ud (ub (ud (ub (B j))))))))))) (rdI4 (rdI4 (rdI4 (rdI i n) (n - 1)) (n - 1 - 1 - 1 - 1 - 1)) (n - 1 - 1 - 1 - 1 - 1 - 1 - 1 - 1 - 1)) (n - 1 - 1 - 1 - 1 - 1 - 1 - 1 - 1 - 1 - 1 - 1 - 1 - 1) else (P k).s)]⟩] }) := by kernel_rfl
theorem rq_e1 {own : Bool} {m : Nat} {B : Nat → Int} {bad : Bool} {i n : Nat} {q c j : Int} {na : Nat} {P : Nat → Opp} : (rT rqG nol 2 48 (bodyOf Try.f145 0) rqK rqK (rqS own m B bad i n q c j na P)).go [false, false, false, false, false, false, false] = some ([!decide (j < c), true, true, true, true, true, true], Ex.exit 1, { sl := slots 104 [(0, .c (.ptr 0 0 0)), (2, .c (.ptr 2 0 0)), (3, .c (.ptr 3 0 0)), (4, I64 c), (5, I64 j), (11, I64 q)], h := [some ⟨175, true, .one [.sl 1 i n, .v (.bool bad)]⟩, some ⟨5, own, .row 1 m fun j => [.int .u8 (B j)]⟩, some ⟨128, true, .one [i64 0, i64 0, i64 0, i64 0, i64 0, i64 0, .v (.slice none 0 0)]⟩, some ⟨128, true, .one [i64 q, i64 0, i64 0, i64 0, i64 0, i64 0, .sl 4 0 na]⟩, some ⟨121, true, .row 5 na fun j => [.int .i64 (P j).k, .int .i64 (P j).i, .int .i64 (P j).a, .int .i64 (P j).b, .string (P j).s]⟩] }) := by kernel_rfl
theorem rq_e2 {own : Bool} {m : Nat} {B : Nat → Int} {bad : Bool} {i n : Nat} {q c j : Int} {na : Nat} {P : Nat → Opp} : (rT rqG nol 2 48 (bodyOf Try.f145 0) rqK rqK (rqS own m B bad i n q c j na P)).go [true, true, true, true, true, true, false] = some ([decide (j < c), true, true, true, true, true, !!bad], Ex.exit 1, { sl := slots 104 [(0, .c (.ptr 0 0 0)), (2, .c (.ptr 2 0 0)), (3, .c (.ptr 3 0 0)), (4, I64 c), (5, I64 j), (11, I64 q)], h := [some ⟨175, true, .one [.sl 1 i n, .v (.bool bad)]⟩, some ⟨5, own, .row 1 m fun j => [.int .u8 (B j)]⟩, some ⟨128, true, .one [i64 0, i64 0, i64 0, i64 0, i64 0, i64 0, .v (.slice none 0 0)]⟩, some ⟨128, true, .one [i64 q, i64 0, i64 0, i64 0, i64 0, i64 0, .sl 4 0 na]⟩, some ⟨121, true, .row 5 na fun j => [.int .i64 (P j).k, .int .i64 (P j).i, .int .i64 (P j).a, .int .i64 (P j).b, .string (P j).s]⟩] }) := by kernel_rfl
end
section
open Go Go.RowKit
theorem rr_1 {own : Bool} {m : Nat} {B : Nat → Int} {i n : Nat} : (lfun rqG nol 60 Try.f149 [.c (.ptr 0 0 0)] [rdB false i n, rowU own m B]).go [] = some ([yes (i + n ≤ m ∧ (fun j => ub (B j)) = fun j => ub (ud (ub (B j)))), rdX (fun j => ud (ub (B j))) i n == (1 : Int)], .agg [i64 (rdX (fun j => ud (ub (B j))) i n), i64 0, i64 0, i64 0, i64 0, i64 0, i64 0, i64 0, i64 0, i64 0], [some ⟨175, true, .one [.sl 1 (rdI i n) (n - 1), .v (.bool (false || ((n : Nat) : Int) == (0 : Int)))]⟩, some ⟨5, own, .row 1 m fun j => [.int .u8 (ud (ub (B j)))]⟩]) := by kernel_rfl
theorem rr_2 {own : Bool} {m : Nat} {B : Nat → Int} {i n : Nat} : (lfun rqG nol 60 Try.f149 [.c (.ptr 0 0 0)] [rdB false i n, rowU own m B]).go [true, false] = some ([yes (i + n ≤ m ∧ (fun j => ub (B j)) = fun j => ub (ud (ub (B j)))), !rdX (fun j => ud (ub (B j))) i n == (1 : Int), rdX (fun j => ud (ub (B j))) i n == (2 : Int), yes (rdI i n + (n - 1) ≤ m ∧ (fun j => ub (ud (ub (B j)))) = fun j => ub (ud (ub (ud (ub (B j)))))), yes (rdI (rdI i n) (n - 1) + (n - 1 - 1) ≤ m ∧ (fun j => ub (ud (ub (ud (ub (B j)))))) = fun j => ub (ud (ub (ud (ub (ud (ub (B j))))))))], .agg [i64 (rdX (fun j => ud (ub (B j))) i n), i64 (rdX (fun j => ud (ub (ud (ub (B j))))) (rdI i n) (n - 1)), i64 (rnV4 (fun j => ud (ub (ud (ub (ud (ub (B j))))))) (rdI (rdI i n) (n - 1)) (n - 1 - 1)), i64 0, i64 0, i64 0, i64 0, i64 0, i64 0, i64 0], [some ⟨175, true, .one [.sl 1 (rdI4 (rdI (rdI i n) (n - 1)) (n - 1 - 1)) (n - 1 - 1 - 1 - 1 - 1 - 1), .v (.bool (rdB4 (false || ((n : Nat) : Int) == (0 : Int) || ((n - 1 : Nat) : Int) == (0 : Int)) (n - 1 - 1)))]⟩, some ⟨5, own, .row 1 m fun j => [.int .u8 (ud (ub (ud (ub (ud (ub (B j)))))))]⟩]) := by kernel_rfl
theorem rr_3 {own : Bool} {m : Nat} {B : Nat → Int} {i n : Nat} : (lfun rqG nol 60 Try.f149 [.c (.ptr 0 0 0)] [rdB false i n, rowU own m B]).go [true, false, false] = some ([yes (i + n ≤ m ∧ (fun j => ub (B j)) = fun j => ub (ud (ub (B j)))), !rdX (fun j => ud (ub (B j))) i n == (1 : Int), !rdX (fun j => ud (ub (B j))) i n == (2 : Int), rdX (fun j => ud (ub (B j))) i n == (3 : Int), yes (rdI i n + (n - 1) ≤ m ∧ (fun j => ub (ud (ub (B j)))) = fun j => ub (ud (ub (ud (ub (B j))))))], .agg [i64 (rdX (fun j => ud (ub (B j))) i n), i64 0, i64 0, i64 0, i64 (rnV4 (fun j => ud (ub (ud (ub (B j))))) (rdI i n) (n - 1)), i64 (rnV4 (fun j => ud (ub (ud (ub (B j))))) (rdI4 (rdI i n) (n - 1)) (n - 1 - 1 - 1 - 1 - 1)), i64 0, i64 0, i64 0, i64 0], [some ⟨175, true, .one [.sl 1 (rdI4 (rdI4 (rdI i n) (n - 1)) (n - 1 - 1 - 1 - 1 - 1)) (n - 1 - 1 - 1 - 1 - 1 - 1 - 1 - 1 - 1), .v (.bool (rdB4 (rdB4 (false || ((n : Nat) : Int) == (0 : Int)) (n - 1)) (n - 1 - 1 - 1 - 1 - 1)))]⟩, some ⟨5, own, .row 1 m fun j => [.int .u8 (ud (ub (ud (ub (B j)))))]⟩]) := by kernel_rfl
theorem rr_4 {own : Bool} {m : Nat} {B : Nat → Int} {i n : Nat} : (lfun rqG nol 60 Try.f149 [.c (.ptr 0 0 0)] [rdB false i n, rowU own m B]).go [true, false, false, false] = some ([yes (i + n ≤ m ∧ (fun j => ub (B j)) = fun j => ub (ud (ub (B j)))), !rdX (fun j => ud (ub (B j))) i n == (1 : Int), !rdX (fun j => ud (ub (B j))) i n == (2 : Int), !rdX (fun j => ud (ub (B j))) i n == (3 : Int), rdX (fun j => ud (ub (B j))) i n == (4 : Int), yes (rdI i n + (n - 1) ≤ m ∧ (fun j => ub (ud (ub (B j)))) = fun j => ub (ud (ub (ud (ub (B j)))))), yes (rdI4 (rdI i n) (n - 1) + (n - 1 - 1 - 1 - 1 - 1) ≤ m ∧ (fun j => ub (ud (ub (ud (ub (B j)))))) = fun j => ub (ud (ub (ud (ub (ud (ub (B j)))))))), yes (rdI4 (rdI4 (rdI i n) (n - 1)) (n - 1 - 1 - 1 - 1 - 1) + (n - 1 - 1 - 1 - 1 - 1 - 1 - 1 - 1 - 1) ≤ m ∧ (fun j => ub (ud (ub (ud (ub (ud (ub (B j)))))))) = fun j => ub (ud (ub (ud (ub (ud (ub (ud (ub (B j)))))))))), yes (rdI4 (rdI4 (rdI4 (rdI i n) (n - 1)) (n - 1 - 1 - 1 - 1 - 1)) (n - 1 - 1 - 1 - 1 - 1 - 1 - 1 - 1 - 1) + (n - 1 - 1 - 1 - 1 - 1 - 1 - 1 - 1 - 1 - 1 - 1 - 1 - 1) ≤ m ∧ (fun j => ub (ud (ub (ud (ub (ud (ub (ud (ub (B j)))))))))) = fun j => ub (ud (ub (ud (ub (ud (ub (ud (ub (ud (ub (B j))))))))))))], .agg [i64 (rdX (fun j => ud (ub (B j))) i n), i64 0, i64 0, i64 0, i64 0, i64 0, i64 (rnV4 (fun j => ud (ub (ud (ub (B j))))) (rdI i n) (n - 1)), i64 (rnV4 (fun j => ud (ub (ud (ub (ud (ub (B j))))))) (rdI4 (rdI i n) (n - 1)) (n - 1 - 1 - 1 - 1 - 1)), i64 (rnV4 (fun j => ud (ub (ud (ub (ud (ub (ud (ub (B j))))))))) (rdI4 (rdI4 (rdI i n) (n - 1)) (n - 1 - 1 - 1 - 1 - 1)) (n - 1 - 1 - 1 - 1 - 1 - 1 - 1 - 1 - 1)), i64 (rnV4 (fun j => ud (ub (ud (ub (ud (ub (ud (ub (ud (ub (B j))))))))))) (rdI4 (rdI4 (rdI4 (rdI i n) (n - 1)) (n - 1 - 1 - 1 - 1 - 1)) (n - 1 - 1 - 1 - 1 - 1 - 1 - 1 - 1 - 1)) (n - 1 - 1 - 1 - 1 - 1 - 1 - 1 - 1 - 1 - 1 - 1 - 1 - 1))], [some ⟨175, true, .one [.sl 1 (rdI4 (rdI4 (rdI4 (rdI4 (rdI i n) (n - 1)) (n - 1 - 1 - 1 - 1 - 1)) (n - 1 - 1 - 1 - 1 - 1 - 1 - 1 - 1 - 1)) (n - 1 - 1 - 1 - 1 - 1 - 1 - 1 - 1 - 1 - 1 - 1 - 1 - 1)) (n - 1 - 1 - 1 - 1 - 1 - 1 - 1 - 1 - 1 - 1 - 1 - 1 - 1 - 1 - 1 - 1 - 1), .v (.bool (rdB4 (rdB4 (rdB4 (rdB4 (false || ((n : Nat) : Int) == (0 : Int)) (n - 1)) (n - 1 - 1 - 1 - 1 - 1)) (n - 1 - 1 - 1 - 1 - 1 - 1 - 1 - 1 - 1)) (n - 1 - 1 - 1 - 1 - 1 - 1 - 1 - 1 - 1 - 1 - 1 - 1 - 1)))]⟩, some ⟨5, own, .row 1 m fun j => [.int .u8 (ud (ub (ud (ub (ud (ub (ud (ub (ud (ub (B j)))))))))))]⟩]) := by kernel_rfl
theorem rr_5 {own : Bool} {m : Nat} {B : Nat → Int} {i n : Nat} : (lfun rqG nol 60 Try.f149 [.c (.ptr 0 0 0)] [rdB false i n, rowU own m B]).go [true, false, false, false, false] = some ([yes (i + n ≤ m ∧ (fun j => ub (B j)) = fun j => ub (ud (ub (B j)))), !rdX (fun j => ud (ub (B j))) i n == (1 : Int), !rdX (fun j => ud (ub (B j))) i n == (2 : Int), !rdX (fun j => ud (ub (B j))) i n == (3 : Int), !rdX (fun j => ud (ub (B j))) i n == (4 : Int), rdX (fun j => ud (ub (B j))) i n == (5 : Int), true, yes (rdI i n + (n - 1) ≤ m ∧ (fun j => ub (ud (ub (B j)))) = fun j => ub (ud (ub (ud (ub (B j))))))], .agg [i64 (rdX (fun j => ud (ub (B j))) i n), i64 0, i64 0, i64 (rnV4 (fun j => ud (ub (ud (ub (B j))))) (rdI i n) (n - 1)), i64 0, i64 0, i64 0, i64 0, i64 0, i64 0], [some ⟨175, true, .one [.sl 1 (rdI4 (rdI i n) (n - 1)) (n - 1 - 1 - 1 - 1 - 1), .v (.bool (rdB4 (false || ((n : Nat) : Int) == (0 : Int)) (n - 1)))]⟩, some ⟨5, own, .row 1 m fun j => [.int .u8 (ud (ub (ud (ub (B j)))))]⟩]) := by kernel_rfl
theorem rr_6 {own : Bool} {m : Nat} {B : Nat → Int} {i n : Nat} : (lfun rqG nol 60 Try.f149 [.c (.ptr 0 0 0)] [rdB false i n, rowU own m B]).go [true, false, false, false, false, false] = some ([yes (i + n ≤ m ∧ (fun j => ub (B j)) = fun j => ub (ud (ub (B j)))), !rdX (fun j => ud (ub (B j))) i n == (1 : Int), !rdX (fun j => ud (ub (B j))) i n == (2 : Int), !rdX (fun j => ud (ub (B j))) i n == (3 : Int), !rdX (fun j => ud (ub (B j))) i n == (4 : Int), !rdX (fun j => ud (ub (B j))) i n == (5 : Int), rdX (fun j => ud (ub (B j))) i n == (6 : Int), yes (rdI i n + (n - 1) ≤ m ∧ (fun j => ub (ud (ub (B j)))) = fun j => ub (ud (ub (ud (ub (B j))))))], .agg [i64 (rdX (fun j => ud (ub (B j))) i n), i64 0, i64 0, i64 (rnV4 (fun j => ud (ub (ud (ub (B j))))) (rdI i n) (n - 1)), i64 0, i64 0, i64 0, i64 0, i64 0, i64 0], [some ⟨175, true, .one [.sl 1 (rdI4 (rdI i n) (n - 1)) (n - 1 - 1 - 1 - 1 - 1), .v (.bool (rdB4 (false || ((n : Nat) : Int) == (0 : Int)) (n - 1)))]⟩, some ⟨5, own, .row 1 m fun j => [.int .u8 (ud (ub (ud (ub (B j)))))]⟩]) := by kernel_rfl
theorem rr_x {own : Bool} {m : Nat} {B : Nat → Int} {i n : Nat} : (lfun rqG nol 60 Try.f149 [.c (.ptr 0 0 0)] [rdB false i n, rowU own m B]).go [true, false, false, false, false, false, false] = some ([yes (i + n ≤ m ∧ (fun j => ub (B j)) = fun j => ub (ud (ub (B j)))), !rdX (fun j => ud (ub (B j))) i n == (1 : Int), !rdX (fun j => ud (ub (B j))) i n == (2 : Int), !rdX (fun j => ud (ub (B j))) i n == (3 : Int), !rdX (fun j => ud (ub (B j))) i n == (4 : Int), !rdX (fun j => ud (ub (B j))) i n == (5 : Int), !rdX (fun j => ud (ub (B j))) i n == (6 : Int)], .agg [i64 (rdX (fun j => ud (ub (B j))) i n), i64 0, i64 0, i64 0, i64 0, i64 0, i64 0, i64 0, i64 0, i64 0], [some ⟨175, true, .one [.sl 1 (rdI i n) (n - 1), .v (.bool true)]⟩, some ⟨5, own, .row 1 m fun j => [.int .u8 (ud (ub (B j)))]⟩]) := by kernel_rfl
end
section
open Go Go.RowKit
def rq0S (own : Bool) (m : Nat) (B : Nat → Int) (bad : Bool) (i n : Nat) (q c j : Int) : St :=
  ⟨slots 104 [(0, .c (.ptr 0 0 0)), (2, .c (.ptr 2 0 0)), (3, .c (.ptr 3 0 0)), (4, I64 c), (5, I64 j), (11, I64 q)], [rdB bad i n, rowU own m B, rqZ, some ⟨128, true, .one [i64 q, i64 0, i64 0, i64 0, i64 0, i64 0, .v (.slice none 0 0)]⟩]⟩
theorem rq0_t {own : Bool} {m : Nat} {B : Nat → Int} {bad : Bool} {i n : Nat} {q c j : Int} : (rT rqG nol 2 48 (bodyOf Try.f145 0) rqK rqK (rq0S own m B bad i n q c j)).go [] = some ([decide (j < c), true, true, true, true, true, !bad, yes (i + n ≤ m ∧ (fun j => ub (B j)) = fun j => ub (ud (ub (B j)))), yes (rdI i n + (n - 1) ≤ m ∧ (fun j => ub (ud (ub (B j)))) = fun j => ub (ud (ub (ud (ub (B j)))))), yes (rdI4 (rdI i n) (n - 1) + (n - 1 - 1 - 1 - 1 - 1) ≤ m ∧ (fun j => ub (ud (ub (ud (ub (B j)))))) = fun j => ub (ud (ub (ud (ub (ud (ub (B j)))))))), yes (rdI4 (rdI4 (rdI i n) (n - 1)) (n - 1 - 1 - 1 - 1 - 1) + (n - 1 - 1 - 1 - 1 - 1 - 1 - 1 - 1 - 1) ≤ m ∧ (fun j => ub (ud (ub (ud (ub (ud (ub (B j)))))))) = fun j => ub (ud (ub (ud (ub (ud (ub (ud (ub (B j)))))))))), yes (rdI4 (rdI4 (rdI4 (rdI i n) (n - 1)) (n - 1 - 1 - 1 - 1 - 1)) (n - 1 - 1 - 1 - 1 - 1 - 1 - 1 - 1 - 1) + (n - 1 - 1 - 1 - 1 - 1 - 1 - 1 - 1 - 1 - 1 - 1 - 1 - 1) ≤ m ∧ ((fun j => ub (ud (ub (ud (ub (ud (ub (ud (ub (B j)))))))))) = fun j => ub (ud (ub (ud (ub (ud (ub (ud (ub (ud (ub (B j)))))))))))) ∧ (0 : Int) ≤ rtL (fun j => ud (ub (ud (ub (ud (ub (ud (ub (ud (ub (B j))))))))))) (rdI4 (rdI4 (rdI4 (rdI i n) (n - 1)) (n - 1 - 1 - 1 - 1 - 1)) (n - 1 - 1 - 1 - 1 - 1 - 1 - 1 - 1 - 1)) (n - 1 - 1 - 1 - 1 - 1 - 1 - 1 - 1 - 1 - 1 - 1 - 1 - 1)), rtE (rdB4 (rdB4 (rdB4 (bad || ((n : Nat) : Int) == (0 : Int)) (n - 1)) (n - 1 - 1 - 1 - 1 - 1)) (n - 1 - 1 - 1 - 1 - 1 - 1 - 1 - 1 - 1)) (fun j => ud (ub (ud (ub (ud (ub (ud (ub (ud (ub (B j))))))))))) (rdI4 (rdI4 (rdI4 (rdI i n) (n - 1)) (n - 1 - 1 - 1 - 1 - 1)) (n - 1 - 1 - 1 - 1 - 1 - 1 - 1 - 1 - 1)) (n - 1 - 1 - 1 - 1 - 1 - 1 - 1 - 1 - 1 - 1 - 1 - 1 - 1), true, true, true, true, true, true, true], Ex.normal, { sl := slots 104 [(0, .c (.ptr 0 0 0)), (2, .c (.ptr 2 0 0)), (3, .c (.ptr 3 0 0)), (4, I64 c), (5, I64 (w64 (j + (1 : Int)))), (11, I64 q)], h := [some ⟨175, true, .one [.sl 1 (rtJ (rdB4 (rdB4 (rdB4 (bad || ((n : Nat) : Int) == (0 : Int)) (n - 1)) (n - 1 - 1 - 1 - 1 - 1)) (n - 1 - 1 - 1 - 1 - 1 - 1 - 1 - 1 - 1)) (fun j => ud (ub (ud (ub (ud (ub (ud (ub (ud (ub (B j))))))))))) (rdI4 (rdI4 (rdI4 (rdI i n) (n - 1)) (n - 1 - 1 - 1 - 1 - 1)) (n - 1 - 1 - 1 - 1 - 1 - 1 - 1 - 1 - 1)) (n - 1 - 1 - 1 - 1 - 1 - 1 - 1 - 1 - 1 - 1 - 1 - 1 - 1)) (rtN (rdB4 (rdB4 (rdB4 (bad || ((n : Nat) : Int) == (0 : Int)) (n - 1)) (n - 1 - 1 - 1 - 1 - 1)) (n - 1 - 1 - 1 - 1 - 1 - 1 - 1 - 1 - 1)) (fun j => ud (ub (ud (ub (ud (ub (ud (ub (ud (ub (B j))))))))))) (rdI4 (rdI4 (rdI4 (rdI i n) (n - 1)) (n - 1 - 1 - 1 - 1 - 1)) (n - 1 - 1 - 1 - 1 - 1 - 1 - 1 - 1 - 1)) (n - 1 - 1 - 1 - 1 - 1 - 1 - 1 - 1 - 1 - 1 - 1 - 1 - 1)), .v (.bool true)]⟩, some ⟨5, own, .row 1 m fun j => [.int .u8 (ud (ub (ud (ub (ud (ub (ud (ub (ud (ub (B j)))))))))))]⟩, some ⟨128, true, .one [i64 0, i64 0, i64 0, i64 0, i64 0, i64 0, .v (.slice none 0 0)]⟩, some ⟨128, true, .one [i64 q, i64 0, i64 0, i64 0, i64 0, i64 0, .sl 4 0 1]⟩, some ⟨121, true, .row 5 1 fun k => [.int .i64 (bif decide (k = 0) then rdX (fun j => ud (ub (B j))) i n else (0 : Int)), .int .i64 (bif decide (k = 0) then rnV4 (fun j => ud (ub (ud (ub (B j))))) (rdI i n) (n - 1) else (0 : Int)), .int .i64 (bif decide (k = 0) then rnV4 (fun j => ud (ub (ud (ub (ud (ub (B j))))))) (rdI4 (rdI i n) (n - 1)) (n - 1 - 1 - 1 - 1 - 1) else (0 : Int)), .int .i64 (bif decide (k = 0) then rnV4 (fun j => ud (ub (ud (ub (ud (ub (ud (ub (B j))))))))) (rdI4 (rdI4 (rdI i n) (n - 1)) (n - 1 - 1 - 1 - 1 - 1)) (n - 1 - 1 - 1 - 1 - 1 - 1 - 1 - 1 - 1) else (0 : Int)), .string (bif decide (k = 0) then rtS (rdB4 (rdB4 (rdB4 (bad || ((n : Nat) : Int) == (0 : Int)) (n - 1)) (n - 1 - 1 - 1 - 1 - 1)) (n - 1 - 1 - 1 - 1 - 1 - 1 - 1 - 1 - 1)) (fun j => ud (ub (ud (ub (ud (ub (ud (ub (ud (ub (B j))))))))))) (rdI4 (rdI4 (rdI4 (rdI i n) (n - 1)) (n - 1 - 1 - 1 - 1 - 1)) (n - 1 - 1 - 1 - 1 - 1 - 1 - 1 - 1 - 1)) (n - 1 - 1 - 1 - 1 - 1 - 1 - 1 - 1 - 1 - 1 - 1 - 1 - 1) else (⟨#[]⟩ : ByteArray))]⟩] }) := by kernel_rfl
theorem rq0_f {own : Bool} {m : Nat} {B : Nat → Int} {bad : Bool} {i n : Nat} {q c j : Int} : (rT rqG nol 2 48 (bodyOf Try.f145 0) rqK rqK (rq0S own m B bad i n q c j)).go [true, true, true, true, true, true, true, true, true, true, true, true, false, false, false, false, false] = some ([decide (j < c), true, true, true, true, true, !bad, yes (i + n ≤ m ∧ (fun j => ub (B j)) = fun j => ub (ud (ub (B j)))), yes (rdI i n + (n - 1) ≤ m ∧ (fun j => ub (ud (ub (B j)))) = fun j => ub (ud (ub (ud (ub (B j)))))), yes (rdI4 (rdI i n) (n - 1) + (n - 1 - 1 - 1 - 1 - 1) ≤ m ∧ (fun j => ub (ud (ub (ud (ub (B j)))))) = fun j => ub (ud (ub (ud (ub (ud (ub (B j)))))))), yes (rdI4 (rdI4 (rdI i n) (n - 1)) (n - 1 - 1 - 1 - 1 - 1) + (n - 1 - 1 - 1 - 1 - 1 - 1 - 1 - 1 - 1) ≤ m ∧ (fun j => ub (ud (ub (ud (ub (ud (ub (B j)))))))) = fun j => ub (ud (ub (ud (ub (ud (ub (ud (ub (B j)))))))))), yes (rdI4 (rdI4 (rdI4 (rdI i n) (n - 1)) (n - 1 - 1 - 1 - 1 - 1)) (n - 1 - 1 - 1 - 1 - 1 - 1 - 1 - 1 - 1) + (n - 1 - 1 - 1 - 1 - 1 - 1 - 1 - 1 - 1 - 1 - 1 - 1 - 1) ≤ m ∧ ((fun j => ub (ud (ub (ud (ub (ud (ub (ud (ub (B j)))))))))) = fun j => ub (ud (ub (ud (ub (ud (ub (ud (ub (ud (ub (B j)))))))))))) ∧ (0 : Int) ≤ rtL (fun j => ud (ub (ud (ub (ud (ub (ud (ub (ud (ub (B j))))))))))) (rdI4 (rdI4 (rdI4 (rdI i n) (n - 1)) (n - 1 - 1 - 1 - 1 - 1)) (n - 1 - 1 - 1 - 1 - 1 - 1 - 1 - 1 - 1)) (n - 1 - 1 - 1 - 1 - 1 - 1 - 1 - 1 - 1 - 1 - 1 - 1 - 1)), !rtE (rdB4 (rdB4 (rdB4 (bad || ((n : Nat) : Int) == (0 : Int)) (n - 1)) (n - 1 - 1 - 1 - 1 - 1)) (n - 1 - 1 - 1 - 1 - 1 - 1 - 1 - 1 - 1)) (fun j => ud (ub (ud (ub (ud (ub (ud (ub (ud (ub (B j))))))))))) (rdI4 (rdI4 (rdI4 (rdI i n) (n - 1)) (n - 1 - 1 - 1 - 1 - 1)) (n - 1 - 1 - 1 - 1 - 1 - 1 - 1 - 1 - 1)) (n - 1 - 1 - 1 - 1 - 1 - 1 - 1 - 1 - 1 - 1 - 1 - 1 - 1), true, true, true, true, true, true, true], Ex.normal, { sl := slots 104 [(0, .c (.ptr 0 0 0)), (2, .c (.ptr 2 0 0)), (3, .c (.ptr 3 0 0)), (4, I64 c), (5, I64 (w64 (j + (1 : Int)))), (11, I64 q)], h := [some ⟨175, true, .one [.sl 1 (rtJ (rdB4 (rdB4 (rdB4 (bad || ((n : Nat) : Int) == (0 : Int)) (n - 1)) (n - 1 - 1 - 1 - 1 - 1)) (n - 1 - 1 - 1 - 1 - 1 - 1 - 1 - 1 - 1)) (fun j => ud (ub (ud (ub (ud (ub (ud (ub (ud (ub (B j))))))))))) (rdI4 (rdI4 (rdI4 (rdI i n) (n - 1)) (n - 1 - 1 - 1 - 1 - 1)) (n - 1 - 1 - 1 - 1 - 1 - 1 - 1 - 1 - 1)) (n - 1 - 1 - 1 - 1 - 1 - 1 - 1 - 1 - 1 - 1 - 1 - 1 - 1)) (rtN (rdB4 (rdB4 (rdB4 (bad || ((n : Nat) : Int) == (0 : Int)) (n - 1)) (n - 1 - 1 - 1 - 1 - 1)) (n - 1 - 1 - 1 - 1 - 1 - 1 - 1 - 1 - 1)) (fun j => ud (ub (ud (ub (ud (ub (ud (ub (ud (ub (B j))))))))))) (rdI4 (rdI4 (rdI4 (rdI i n) (n - 1)) (n - 1 - 1 - 1 - 1 - 1)) (n - 1 - 1 - 1 - 1 - 1 - 1 - 1 - 1 - 1)) (n - 1 - 1 - 1 - 1 - 1 - 1 - 1 - 1 - 1 - 1 - 1 - 1 - 1)), .v (.bool (decide ((((rtS (rdB4 (rdB4 (rdB4 (bad || ((n : Nat) : Int) == (0 : Int)) (n - 1)) (n - 1 - 1 - 1 - 1 - 1)) (n - 1 - 1 - 1 - 1 - 1 - 1 - 1 - 1 - 1)) (fun j => ud (ub (ud (ub (ud (ub (ud (ub (ud (ub (B j))))))))))) (rdI4 (rdI4 (rdI4 (rdI i n) (n - 1)) (n - 1 - 1 - 1 - 1 - 1)) (n - 1 - 1 - 1 - 1 - 1 - 1 - 1 - 1 - 1)) (n - 1 - 1 - 1 - 1 - 1 - 1 - 1 - 1 - 1 - 1 - 1 - 1 - 1)).size : Nat) : Int) > (2000 : Int))))]⟩, some ⟨5, own, .row 1 m fun j => [.int .u8 (ud (ub (ud (ub (ud (ub (ud (ub (ud (ub (B j)))))))))))]⟩, some ⟨128, true, .one [i64 0, i64 0, i64 0, i64 0, i64 0, i64 0, .v (.slice none 0 0)]⟩, some ⟨128, true, .one [i64 q, i64 0, i64 0, i64 0, i64 0, i64 0, .sl 4 0 1]⟩, some ⟨121, true, .row 5 1 fun k => [.int .i64 (bif decide (k = 0) then rdX (fun j => ud (ub (B j))) i n else (0 : Int)), .int .i64 (bif decide (k = 0) then rnV4 (fun j => ud (ub (ud (ub (B j))))) (rdI i n) (n - 1) else (0 : Int)), .int .i64 (bif decide (k = 0) then rnV4 (fun j => ud (ub (ud (ub (ud (ub (B j))))))) (rdI4 (rdI i n) (n - 1)) (n - 1 - 1 - 1 - 1 - 1) else (0 : Int)), .int .i64 (bif decide (k = 0) then rnV4 (fun j => ud (ub (ud (ub (ud (ub (ud (ub (B j))))))))) (rdI4 (rdI4 (rdI i n) (n - 1)) (n - 1 - 1 - 1 - 1 - 1)) (n - 1 - 1 - 1 - 1 - 1 - 1 - 1 - 1 - 1) else (0 : Int)), .string (bif decide (k = 0) then rtS (rdB4 (rdB4 (rdB4 (bad || ((n : Nat) : Int) == (0 : Int)) (n - 1)) (n - 1 - 1 - 1 - 1 - 1)) (n - 1 - 1 - 1 - 1 - 1 - 1 - 1 - 1 - 1)) (fun j => ud (ub (ud (ub (ud (ub (ud (ub (ud (ub (B j))))))))))) (rdI4 (rdI4 (rdI4 (rdI i n) (n - 1)) (n - 1 - 1 - 1 - 1 - 1)) (n - 1 - 1 - 1 - 1 - 1 - 1 - 1 - 1 - 1)) (n - 1 - 1 - 1 - 1 - 1 - 1 - 1 - 1 - 1 - 1 - 1 - 1 - 1) else (⟨#[]⟩ : ByteArray))]⟩] }) := by kernel_rfl
theorem rq0_e1 {own : Bool} {m : Nat} {B : Nat → Int} {bad : Bool} {i n : Nat} {q c j : Int} : (rT rqG nol 2 48 (bodyOf Try.f145 0) rqK rqK (rq0S own m B bad i n q c j)).go [false, false, false, false, false, false, false] = some ([!decide (j < c), true, true, true, true, true, true], Ex.exit 1, { sl := slots 104 [(0, .c (.ptr 0 0 0)), (2, .c (.ptr 2 0 0)), (3, .c (.ptr 3 0 0)), (4, I64 c), (5, I64 j), (11, I64 q)], h := [some ⟨175, true, .one [.sl 1 i n, .v (.bool bad)]⟩, some ⟨5, own, .row 1 m fun j => [.int .u8 (B j)]⟩, some ⟨128, true, .one [i64 0, i64 0, i64 0, i64 0, i64 0, i64 0, .v (.slice none 0 0)]⟩, some ⟨128, true, .one [i64 q, i64 0, i64 0, i64 0, i64 0, i64 0, .v (.slice none 0 0)]⟩] }) := by kernel_rfl
theorem rq0_e2 {own : Bool} {m : Nat} {B : Nat → Int} {bad : Bool} {i n : Nat} {q c j : Int} : (rT rqG nol 2 48 (bodyOf Try.f145 0) rqK rqK (rq0S own m B bad i n q c j)).go [true, true, true, true, true, true, false] = some ([decide (j < c), true, true, true, true, true, !!bad], Ex.exit 1, { sl := slots 104 [(0, .c (.ptr 0 0 0)), (2, .c (.ptr 2 0 0)), (3, .c (.ptr 3 0 0)), (4, I64 c), (5, I64 j), (11, I64 q)], h := [some ⟨175, true, .one [.sl 1 i n, .v (.bool bad)]⟩, some ⟨5, own, .row 1 m fun j => [.int .u8 (B j)]⟩, some ⟨128, true, .one [i64 0, i64 0, i64 0, i64 0, i64 0, i64 0, .v (.slice none 0 0)]⟩, some ⟨128, true, .one [i64 q, i64 0, i64 0, i64 0, i64 0, i64 0, .v (.slice none 0 0)]⟩] }) := by kernel_rfl
end
section
open Go Go.RowKit
def gL (L : List Int) : Nat → Int := fun j => L.getD j 0
def gP (l : List Opp) : Nat → Opp := fun j => l.getD j zOpp
def lst (B : Nat → Int) (i n : Nat) : List Int := (List.range n).map fun j => B (i + j)
def rng (B : Nat → Int) : Prop := ∀ j, 0 ≤ B j ∧ B j < 256
theorem getD_app {α : Type} (l : List α) (x z : α) (j : Nat) : (l ++ [x]).getD j z = bif decide (j = l.length) then x else l.getD j z := by
  by_cases h : j = l.length
  · subst h; simp
  · rw [decide_eq_false h, cond_false]
    by_cases h2 : j < l.length
    · simp [List.getD_eq_getElem?_getD, List.getElem?_append_left h2]
    · rw [List.getD_eq_getElem?_getD, List.getD_eq_getElem?_getD, List.getElem?_eq_none (by simp; omega), List.getElem?_eq_none (by omega)]
theorem gL_app (L : List Int) (x : Int) : appB (gL L) L.length x = gL (L ++ [x]) := by funext j; unfold appB gL; rw [getD_app]
theorem gP_app (l : List Opp) (o : Opp) : appP (gP l) l.length o = gP (l ++ [o]) := by
  funext q; unfold appP gP; rw [getD_app]; cases decide (q = l.length) <;> rfl
theorem gL_app' (L : List Int) (k : Nat) (hk : k = L.length) (x : Int) : appB (gL L) k x = gL (L ++ [x]) := by subst hk; exact gL_app L x
theorem wrap_by8 (n : Int) : IntKind.u8.wrap n = by8 n := by rw [IntKind.wrap_u8]; rfl
theorem fdiv_k (n k : Int) (h : 0 ≤ k) : n.fdiv k = n / k := Int.fdiv_eq_ediv_of_nonneg n h
theorem gL_four (L : List Int) (k : Nat) (hk : k = L.length) (n : Int) : fourB (gL L) k n = gL (L ++ four n) := by
  subst hk
  have e1 : ((2 : Int) ^ min 24 IntKind.i64.bits) = 16777216 := rfl
  have e2 : ((2 : Int) ^ min 16 IntKind.i64.bits) = 65536 := rfl
  have e3 : ((2 : Int) ^ min 8 IntKind.i64.bits) = 256 := rfl
  have e4 : ((2 : Int) ^ min 0 IntKind.i64.bits) = 1 := rfl
  unfold fourB
  rw [e1, e2, e3, e4, fdiv_k _ _ (by omega), fdiv_k _ _ (by omega), fdiv_k _ _ (by omega), fdiv_k _ _ (by omega), Int.ediv_one]
  simp only [wrap_by8]
  rw [gL_app, gL_app' _ _ (by simp), gL_app' _ _ (by simp), gL_app' _ _ (by simp)]
  simp [four]
theorem getD_app2 (A C : List Int) (j : Nat) : (A ++ C).getD j 0 = bif decide (j < A.length) then A.getD j 0 else C.getD (j - A.length) 0 := by
  by_cases h : j < A.length
  · rw [decide_eq_true h, cond_true]; simp [List.getD_eq_getElem?_getD, List.getElem?_append_left h]
  · rw [decide_eq_false h, cond_false]; simp [List.getD_eq_getElem?_getD, List.getElem?_append_right (by omega : A.length ≤ j)]
theorem bt_bsW (s : ByteArray) (j : Nat) : bt s ((j : Nat) : Int) = (bs s).getD j 0 := by
  unfold bt bs
  rw [Int.toNat_natCast]
  simp only [List.getD_eq_getElem?_getD, List.getElem?_map]
  cases s.data.toList[j]? <;> rfl
theorem gL_tx (L : List Int) (k : Nat) (hk : k = L.length) (s : ByteArray) : txB (gL L) k s = gL (L ++ ([by8 ((s.size : Int) / 256), by8 (s.size : Int)] ++ bs s)) := by
  subst hk
  have e3 : ((2 : Int) ^ min 8 IntKind.i64.bits) = 256 := rfl
  funext j
  unfold txB
  rw [e3, fdiv_k _ _ (by omega), wrap_by8, wrap_by8, gL_app, gL_app' _ _ (by simp)]
  have e9 : gL (L ++ [by8 ((s.size : Int) / 256)] ++ [by8 (s.size : Int)]) = gL (L ++ [by8 ((s.size : Int) / 256), by8 (s.size : Int)]) := by rw [List.append_assoc]; rfl
  rw [e9]
  show _ = (L ++ ([by8 ((s.size : Int) / 256), by8 (s.size : Int)] ++ bs s)).getD j 0
  rw [← List.append_assoc, getD_app2]
  have hl : (L ++ [by8 ((s.size : Int) / 256), by8 (s.size : Int)]).length = L.length + 2 := by simp
  rw [hl]
  by_cases h : j < L.length + 2
  · rw [decide_eq_true h, cond_true, cond_true]; rfl
  · rw [decide_eq_false h, cond_false, cond_false, Nat.zero_add, bt_bsW]
    by_cases h2 : j < L.length + 2 + s.size
    · rw [decide_eq_true h2]; rfl
    · rw [decide_eq_false h2, cond_false, List.getD_eq_getElem?_getD, List.getElem?_eq_none (by rw [bs_len]; omega)]; rfl
theorem gL_op (L : List Int) (k : Nat) (hk : k = L.length) (o : Opp) : oneB (gL L) k o = gL (L ++ opB o) := by
  subst hk
  unfold oneB
  rw [wrap_by8, gL_app, gL_four _ _ (by simp), gL_four _ _ (by simp [four]), gL_four _ _ (by simp [four]), gL_tx _ _ (by simp [four])]
  simp [opB]
theorem gP_get (os : List Opp) (i : Nat) (h : i < os.length) : gP os i = os[i] := by simp [gP, List.getD_eq_getElem?_getD, h]
theorem wq_list (os : List Opp) (L : List Int) : ∀ i, i ≤ os.length → wqLen (gP os) L.length i = (L ++ (os.take i).flatMap opB).length ∧ wqBs (gP os) L.length (gL L) i = gL (L ++ (os.take i).flatMap opB)
  | 0, _ => by simp [wqLen, wqBs]
  | i + 1, h => by
    obtain ⟨h1, h2⟩ := wq_list os L i (by omega)
    have e : os.take (i + 1) = os.take i ++ [os[i]] := by simp
    have eP := gP_get os i (by omega)
    refine ⟨?_, ?_⟩
    · simp only [wqLen, h1, e, eP, List.flatMap_append, List.flatMap_singleton, List.length_append, opB_len]; omega
    · simp only [wqBs]
      rw [h2, eP, gL_op _ _ h1, e, List.flatMap_append, List.append_assoc, List.flatMap_singleton]
def allOk (os : List Opp) : Bool := os.all opOk
theorem oneBad_eq (bad : Bool) (o : Opp) : oneBad bad o = (bad || !opOk o) := by
  have e : decide (((o.s.size : Nat) : Int) > 2000) = !decide (o.s.size ≤ 2000) := by
    by_cases h : o.s.size ≤ 2000
    · rw [decide_eq_true h, decide_eq_false (by omega)]; rfl
    · rw [decide_eq_false h, decide_eq_true (by omega)]; rfl
  unfold oneBad opOk
  rw [e]
  cases bad <;> cases byOk o.k <;> cases fits o.i <;> cases fits o.a <;> cases fits o.b <;> cases decide (o.s.size ≤ 2000) <;> rfl
theorem wqBad_eq (os : List Opp) (bad : Bool) : ∀ i, i ≤ os.length → wqBad (gP os) bad i = (bad || !allOk (os.take i))
  | 0, _ => by simp [wqBad, allOk]
  | i + 1, h => by
    have e : os.take (i + 1) = os.take i ++ [os[i]] := by simp
    simp only [wqBad, wqBad_eq os bad i (by omega), oneBad_eq, gP_get os i (by omega), e, allOk, List.all_append, List.all_cons, List.all_nil, Bool.and_true]
    cases bad <;> cases (os.take i).all opOk <;> cases opOk os[i] <;> rfl
/- Reading. -/
theorem lst_len (B : Nat → Int) (i n : Nat) : (lst B i n).length = n := by simp [lst]
theorem lst_succ (B : Nat → Int) (i k : Nat) : lst B i (k + 1) = B i :: lst B (i + 1) k := by
  unfold lst
  rw [List.range_succ_eq_map]
  simp only [List.map_cons, List.map_map, Nat.add_zero]
  congr 1
  refine List.map_congr_left fun x _ => ?_
  show B (i + (x + 1)) = B (i + 1 + x)
  congr 1; omega
theorem lst_gL (L : List Int) : lst (gL L) 0 L.length = L := by
  refine List.ext_getElem (lst_len _ _ _) fun j h1 h2 => ?_
  simp [lst, gL, List.getD_eq_getElem?_getD, h2]
theorem lst_take (B : Nat → Int) (i n k : Nat) (h : k ≤ n) : (lst B i n).take k = lst B i k := by
  unfold lst; rw [← List.map_take, List.take_range, Nat.min_eq_left h]
theorem lst_drop (B : Nat → Int) (i n k : Nat) (h : k ≤ n) : (lst B i n).drop k = lst B (i + k) (n - k) := by
  refine List.ext_getElem (by simp [lst]) fun j h1 h2 => ?_
  simp [lst, Nat.add_assoc]
theorem rByte_lst {B : Nat → Int} (hB : rng B) (i n : Nat) (bad : Bool) : rByte (lst B i n, bad) = (rdX B i n, lst B (rdI i n) (n - 1), bad || ((n : Nat) : Int) == (0 : Int)) := by
  cases n with
  | zero => cases bad <;> rfl
  | succ k =>
    have e1 : (((k + 1 : Nat) : Int) == (0 : Int)) = false := by simp only [beq_eq_false_iff_ne]; omega
    have h := hB i
    unfold rdX rdI
    rw [e1, cond_false, cond_false, Bool.or_false, w64_id (by omega) (by omega), lst_succ]
    rfl
theorem rdX_in {B : Nat → Int} (hB : rng B) (i n : Nat) : 0 ≤ rdX B i n ∧ rdX B i n < 256 := by
  have h := hB i
  unfold rdX
  cases ((n : Nat) : Int) == (0 : Int)
  · rw [cond_false, w64_id (by omega) (by omega)]; omega
  · rw [cond_true]; omega
theorem or_low (a x : Nat) (hx : x < 256) : a * 256 ||| x = a * 256 + x := by
  have := Nat.shiftLeft_add_eq_or_of_lt (a := a) (b := x) (i := 8) (by omega)
  rw [Nat.shiftLeft_eq] at this
  exact this.symm
theorem nbS_eq {a x : Int} (ha : 0 ≤ a ∧ a < 16777216) (hx : 0 ≤ x ∧ x < 256) : IntKind.u32.wrap (nbS a x) = a * 256 + x := by
  obtain ⟨a', rfl⟩ := Int.eq_ofNat_of_zero_le ha.1
  obtain ⟨x', rfl⟩ := Int.eq_ofNat_of_zero_le hx.1
  have e3 : ((2 : Int) ^ min 8 IntKind.u32.bits) = 256 := rfl
  unfold nbS
  have b1 : BitVec.ofInt IntKind.u32.bits (IntKind.u32.wrap ((a' : Int) * 2 ^ min 8 IntKind.u32.bits)) = BitVec.ofNat IntKind.u32.bits (a' * 256) := by
    rw [e3, IntKind.wrap_u32, Int.emod_eq_of_lt (by omega) (by omega)]
    exact BitVec.ofInt_natCast _ (a' * 256)
  have b2 : BitVec.ofInt IntKind.u32.bits (IntKind.u32.wrap (x' : Int)) = BitVec.ofNat IntKind.u32.bits x' := by
    rw [IntKind.wrap_u32, Int.emod_eq_of_lt (by omega) (by omega)]
    exact BitVec.ofInt_natCast _ x'
  have e5 : (2 : Nat) ^ IntKind.u32.bits = 4294967296 := rfl
  rw [b1, b2, BitVec.toNat_or, BitVec.toNat_ofNat, BitVec.toNat_ofNat, e5, Nat.mod_eq_of_lt (by omega), Nat.mod_eq_of_lt (by omega), or_low _ _ (by omega), IntKind.wrap_u32]
  omega
theorem nbX_eq {x0 x1 x2 x3 : Int} (h0 : 0 ≤ x0 ∧ x0 < 256) (h1 : 0 ≤ x1 ∧ x1 < 256) (h2 : 0 ≤ x2 ∧ x2 < 256) (h3 : 0 ≤ x3 ∧ x3 < 256) : nbX x0 x1 x2 x3 = num4 x0 x1 x2 x3 := by
  unfold nbX
  rw [nbS_eq (a := 0) (by omega) h0, nbS_eq (by omega) h1, nbS_eq (by omega) h2, nbS_eq (by omega) h3, IntKind.wrap_i32]
  unfold num4
  rw [w64_id (by omega) (by omega)]
  split <;> omega
theorem rNum_lst {B : Nat → Int} (hB : rng B) (i n : Nat) (bad : Bool) : rNum (lst B i n, bad) = (rnV4 B i n, lst B (rdI4 i n) (n - 1 - 1 - 1 - 1), rdB4 bad n) := by
  unfold rNum
  simp only [rByte_lst hB]
  unfold rnV4
  rw [nbX_eq (rdX_in hB _ _) (rdX_in hB _ _) (rdX_in hB _ _) (rdX_in hB _ _)]
  rfl
theorem rtL_eq {B : Nat → Int} (hB : rng B) (i n : Nat) : rtL B i n = rdX B i n * 256 + rdX B (rdI i n) (n - 1) := by
  have h1 := rdX_in hB i n
  have h2 := rdX_in hB (rdI i n) (n - 1)
  unfold rtL
  obtain ⟨a', ha⟩ := Int.eq_ofNat_of_zero_le h1.1
  obtain ⟨x', hx⟩ := Int.eq_ofNat_of_zero_le h2.1
  rw [ha] at h1 ⊢
  rw [hx] at h2 ⊢
  have e3 : ((2 : Int) ^ min 8 IntKind.i64.bits) = 256 := rfl
  have b1 : BitVec.ofInt IntKind.i64.bits (w64 ((a' : Int) * 2 ^ min 8 IntKind.i64.bits)) = BitVec.ofNat IntKind.i64.bits (a' * 256) := by
    rw [e3, w64_id (by omega) (by omega)]
    exact BitVec.ofInt_natCast _ (a' * 256)
  have b2 : BitVec.ofInt IntKind.i64.bits (x' : Int) = BitVec.ofNat IntKind.i64.bits x' := BitVec.ofInt_natCast _ x'
  have e5 : (2 : Nat) ^ IntKind.i64.bits = 18446744073709551616 := rfl
  rw [b1, b2, BitVec.toNat_or, BitVec.toNat_ofNat, BitVec.toNat_ofNat, e5, Nat.mod_eq_of_lt (by omega), Nat.mod_eq_of_lt (by omega), or_low _ _ (by omega), w64_id (by omega) (by omega)]
  omega
theorem rtL_nn {B : Nat → Int} (hB : rng B) (i n : Nat) : 0 ≤ rtL B i n := by
  have h1 := rdX_in hB i n
  have h2 := rdX_in hB (rdI i n) (n - 1)
  rw [rtL_eq hB]; omega
theorem bytes_lst (B : Nat → Int) (i n : Nat) : bytesOf (fun j => ub (B j)) i n = toB (lst B i n) := by
  unfold bytesOf toB lst
  rw [List.map_map]
  rfl
theorem rText_lst {B : Nat → Int} (hB : rng B) (i n : Nat) (bad : Bool) : rText (lst B i n, bad) = (rtS bad B i n, lst B (rtJ bad B i n) (rtN bad B i n), rtE bad B i n) := by
  have hn := rtL_nn hB i n
  have hL := rtL_eq hB i n
  unfold rText
  simp only [rByte_lst hB, lst_len]
  have hE : (((bad || ((n : Nat) : Int) == (0 : Int)) || ((n - 1 : Nat) : Int) == (0 : Int)) || decide (rdX B i n * 256 + rdX B (rdI i n) (n - 1) > ((n - 1 - 1 : Nat) : Int))) = rtE bad B i n := by rw [← hL]; rfl
  rw [hE]
  unfold rtS rtJ rtN
  cases he : rtE bad B i n with
  | true => rfl
  | false =>
    rw [← hL]
    have h1 : ¬ rtL B i n > ((n - 1 - 1 : Nat) : Int) := by
      intro h
      unfold rtE at he
      rw [decide_eq_true h, Bool.or_true] at he
      cases he
    have h2 : ((bad || ((n : Nat) : Int) == (0 : Int)) || ((n - 1 : Nat) : Int) == (0 : Int)) = false := by
      unfold rtE at he
      rw [Bool.or_eq_false_iff] at he
      exact he.1
    simp only [cond_false, bytes_lst, h2]
    rw [lst_take _ _ _ _ (by omega), lst_drop _ _ _ _ (by omega)]
    rfl
theorem rdI_sum (i n : Nat) : rdI i n + (n - 1) = i + n := by
  unfold rdI
  by_cases h0 : n = 0
  · subst h0; rfl
  · have e1 : (((n : Nat) : Int) == (0 : Int)) = false := by simp only [beq_eq_false_iff_ne]; omega
    rw [e1, cond_false]; omega
theorem rdI4_sum (i n : Nat) : rdI4 i n + (n - 1 - 1 - 1 - 1) = i + n := by
  unfold rdI4; rw [rdI_sum, rdI_sum, rdI_sum, rdI_sum]
theorem rt_sum {B : Nat → Int} (hB : rng B) (bad : Bool) (i n : Nat) : rtJ bad B i n + rtN bad B i n = i + n := by
  have hn := rtL_nn hB i n
  have h0 : rtI i n + (n - 1 - 1) = i + n := by unfold rtI; rw [rdI_sum, rdI_sum]
  unfold rtJ rtN
  cases he : rtE bad B i n with
  | true => exact h0
  | false =>
    have h1 : ¬ rtL B i n > ((n - 1 - 1 : Nat) : Int) := by
      intro h
      unfold rtE at he
      rw [decide_eq_true h, Bool.or_true] at he
      cases he
    rw [cond_false, cond_false]; omega
end
end Go.Proofs.Ytcpahifgdppkbaa.QAI
