/- Requests as bytes: the writer's specs. -/
import Derived.Test.YtcpahifgdppkbaaQWireLong5
set_option linter.unusedVariables false
set_option linter.unusedSimpArgs false
set_option maxRecDepth 100000
namespace Go.Proofs.Ytcpahifgdppkbaa.QAI
section
open Go Go.RowKit
def ud : List Value → Int
  | [.int .u8 x] => x
  | _ => 0
def appB (B : Nat → Int) (k : Nat) (x : Int) : Nat → Int := fun j => bif decide (j = k) then x else B j
theorem wb_eval {bad : Bool} {k : Nat} {B : Nat → Int} {n : Int} (hk : k + 1 ≤ maxCells) : (lfun niG nol 60 Try.f140 [.c (.ptr 0 0 0), I64 n] [wrB bad k, rowU true k B]).eval =
    some (.tup [], [some ⟨168, true, .one [.sl 2 0 (k + 1), .v (.bool (bad || !byOk n))]⟩, none, rowU true (k + 1) (appB B k (IntKind.u8.wrap n))]) := by
  rw [wb_nf]
  have e1 : decide (k = k) = true := decide_eq_true rfl
  have e2 : decide ((k + 1) * 1 ≤ maxCells) = true := decide_eq_true (by omega)
  simp only [e1, e2, cond_true]
  cases bad
  · simp only [cond_false, Bool.false_or]
    by_cases h : n < 0
    · have hb : byOk n = false := by unfold byOk; rw [decide_eq_false (by omega)]; rfl
      simp only [decide_eq_true h, cond_true, hb]
      rfl
    · have hb : (!byOk n) = decide (n > 255) := by
        unfold byOk
        rw [decide_eq_true (by omega : (0 : Int) ≤ n), Bool.true_and]
        by_cases h2 : n ≤ 255
        · rw [decide_eq_true h2, decide_eq_false (by omega)]; rfl
        · rw [decide_eq_false h2, decide_eq_true (by omega)]; rfl
      simp only [decide_eq_false h, cond_false, hb]
      rfl
  · rfl
theorem wb0_eval {bad : Bool} {n : Int} : (lfun niG nol 60 Try.f140 [.c (.ptr 0 0 0), I64 n] [wrN bad]).eval =
    some (.tup [], [some ⟨168, true, .one [.sl 1 0 1, .v (.bool (bad || !byOk n))]⟩, rowU true 1 (appB (fun _ => 0) 0 (IntKind.u8.wrap n))]) := by
  rw [wb0_nf]
  cases bad
  · simp only [cond_false, Bool.false_or]
    by_cases h : n < 0
    · have hb : byOk n = false := by unfold byOk; rw [decide_eq_false (by omega)]; rfl
      simp only [decide_eq_true h, cond_true, hb]
      rfl
    · have hb : (!byOk n) = decide (n > 255) := by
        unfold byOk
        rw [decide_eq_true (by omega : (0 : Int) ≤ n), Bool.true_and]
        by_cases h2 : n ≤ 255
        · rw [decide_eq_true h2, decide_eq_false (by omega)]; rfl
        · rw [decide_eq_false h2, decide_eq_true (by omega)]; rfl
      simp only [decide_eq_false h, cond_false, hb]
      rfl
  · rfl
noncomputable def wbF : Spec := fun args h => match args, h with
  | [.c (.ptr 0 0 0), .c (.v (.int .i64 n))], [some ⟨168, true, .one [.sl 1 0 k, .v (.bool bad)]⟩, some ⟨5, true, .row 1 k' f⟩] =>
    .need (yes (k + 1 ≤ maxCells ∧ k' = k ∧ f = fun j => ub (ud (f j)))) (.ret (.tup [], [some ⟨168, true, .one [.sl 2 0 (k + 1), .v (.bool (bad || !byOk n))]⟩, none, rowU true (k + 1) (appB (fun j => ud (f j)) k (IntKind.u8.wrap n))]))
  | [.c (.ptr 0 0 0), .c (.v (.int .i64 n))], [some ⟨168, true, .one [.v (.slice none 0 0), .v (.bool bad)]⟩] =>
    .ret (.tup [], [some ⟨168, true, .one [.sl 1 0 1, .v (.bool (bad || !byOk n))]⟩, rowU true 1 (appB (fun _ => 0) 0 (IntKind.u8.wrap n))])
  | _, _ => .fail
theorem wbF_ok : SpecOk Try.prog 140 wbF := by
  refine knownS nilK Try.func140 fun args h r he => ?_
  unfold wbF at he
  split at he
  · rename_i n k bad k' f
    obtain ⟨⟨h1, h2, h3⟩, he'⟩ := Tr.eval_ask.1 he
    subst h2
    cases he'
    have e1 : some ⟨5, true, .row 1 k' f⟩ = rowU true k' fun j => ud (f j) := by rw [rowU, ← h3]
    exact ⟨_, [], 60, nol, noLoopsS, by rw [e1]; exact wb_eval h1⟩
  · rename_i n bad
    cases he
    exact ⟨_, [], 60, nol, noLoopsS, wb0_eval⟩
  · cases he
def fourB (B : Nat → Int) (k : Nat) (n : Int) : Nat → Int := appB (appB (appB (appB B k (IntKind.u8.wrap (n.fdiv ((2 : Int) ^ min 24 IntKind.i64.bits)))) (k + 1) (IntKind.u8.wrap (n.fdiv ((2 : Int) ^ min 16 IntKind.i64.bits)))) (k + 1 + 1) (IntKind.u8.wrap (n.fdiv ((2 : Int) ^ min 8 IntKind.i64.bits)))) (k + 1 + 1 + 1) (IntKind.u8.wrap (n.fdiv ((2 : Int) ^ min 0 IntKind.i64.bits)))
theorem wn_eval {bad : Bool} {k : Nat} {B : Nat → Int} {n : Int} (hk : k + 4 ≤ maxCells) : (afun nuG 60 Try.f143 [.c (.ptr 0 0 0), I64 n] [wrB bad k, rowU true k B]).eval =
    some (.tup [], [some ⟨168, true, .one [.sl 2 0 (k + 1 + 1 + 1 + 1), .v (.bool (bad || !fits n))]⟩, none, rowU true (k + 1 + 1 + 1 + 1) (fourB B k n)]) := by
  rw [wn_nf]
  have e1 : ∀ k : Nat, decide (k = k) = true := fun k => decide_eq_true rfl
  have e2 : decide ((k + 1) * 1 ≤ maxCells) = true := decide_eq_true (by omega)
  have e3 : decide ((k + 1 + 1) * 1 ≤ maxCells) = true := decide_eq_true (by omega)
  have e4 : decide ((k + 1 + 1 + 1) * 1 ≤ maxCells) = true := decide_eq_true (by omega)
  have e5 : decide ((k + 1 + 1 + 1 + 1) * 1 ≤ maxCells) = true := decide_eq_true (by omega)
  simp only [e1, e2, e3, e4, e5, cond_true]
  cases bad
  · simp only [cond_false, Bool.false_or]
    by_cases h : n < -2147483648
    · have hb : fits n = false := by unfold fits; rw [decide_eq_false (by omega)]; rfl
      simp only [decide_eq_true h, cond_true, hb]
      rfl
    · have hb : (!fits n) = decide (n > 2147483647) := by
        unfold fits
        rw [decide_eq_true (by omega : (-2147483648 : Int) ≤ n), Bool.true_and]
        by_cases h2 : n < 2147483648
        · rw [decide_eq_true h2, decide_eq_false (by omega)]; rfl
        · rw [decide_eq_false h2, decide_eq_true (by omega)]; rfl
      simp only [decide_eq_false h, cond_false, hb]
      rfl
  · rfl
noncomputable def wnF : Spec := fun args h => match args, h with
  | [.c (.ptr 0 0 0), .c (.v (.int .i64 n))], [some ⟨168, true, .one [.sl 1 0 k, .v (.bool bad)]⟩, some ⟨5, true, .row 1 k' f⟩] =>
    .need (yes (k + 4 ≤ maxCells ∧ k' = k ∧ f = fun j => ub (ud (f j)))) (.ret (.tup [], [some ⟨168, true, .one [.sl 2 0 (k + 1 + 1 + 1 + 1), .v (.bool (bad || !fits n))]⟩, none, rowU true (k + 1 + 1 + 1 + 1) (fourB (fun j => ud (f j)) k n)]))
  | _, _ => .fail
theorem wnF_ok : SpecOk Try.prog 143 wnF := by
  refine known' nilK Try.func143 fun args h r he => ?_
  unfold wnF at he
  split at he
  · rename_i n k bad k' f
    obtain ⟨⟨h1, h2, h3⟩, he'⟩ := Tr.eval_ask.1 he
    subst h2
    cases he'
    have e1 : some ⟨5, true, .row 1 k' f⟩ = rowU true k' fun j => ud (f j) := by rw [rowU, ← h3]
    exact ⟨_, _, _, by rw [e1]; exact wn_eval h1⟩
  · cases he
end
section
open Go Go.RowKit
def txB (B : Nat → Int) (k : Nat) (s : ByteArray) : Nat → Int := fun j => bif decide (j < k + 2) then appB (appB B k (IntKind.u8.wrap (((s.size : Nat) : Int).fdiv ((2 : Int) ^ min 8 IntKind.i64.bits)))) (k + 1) (IntKind.u8.wrap ((s.size : Nat) : Int)) j else bif decide (j < k + 2 + s.size) then bt s ((0 + (j - (k + 2)) : Nat) : Int) else 0
theorem dec_rec {p : Prop} (d : Decidable p) {α : Type} (a b : α) : (Decidable.rec (motive := fun _ => α) (fun _ => a) (fun _ => b) d : α) = @ite _ p d b a := by cases d <;> rfl
theorem wt_row (B : Nat → Int) (k : Nat) (s : ByteArray) : (fun k_1 => (Decidable.rec (motive := fun _ => List Value)
      (fun h => if k_1 < k + 2 + s.size then [Value.int IntKind.u8 (bt s ((0 + (k_1 - (k + 2)) : Nat) : Int))] else [Value.int IntKind.u8 (0 : Int)])
      (fun h => updL (fun j => ub (B j)) k [[Value.int IntKind.u8 (IntKind.u8.wrap ((((s.size : Nat) : Int)).fdiv ((2 : Int) ^ min 8 IntKind.i64.bits)))], [Value.int IntKind.u8 (IntKind.u8.wrap ((s.size : Nat) : Int))]] k_1)
      (k_1.decLt (k + 2)) : List Value)) = fun j => ub (txB B k s j) := by
  funext j
  rw [dec_rec]
  unfold txB
  by_cases h : j < k + 2
  · rw [if_pos h, decide_eq_true h, cond_true, updL_get]
    unfold appB
    by_cases h1 : j < k
    · rw [if_pos h1, decide_eq_false (by omega : ¬ j = k + 1), decide_eq_false (by omega : ¬ j = k)]; rfl
    · rw [if_neg h1, if_pos (by simp only [List.length_cons, List.length_nil]; omega)]
      by_cases h2 : j = k
      · subst h2
        rw [decide_eq_false (by omega : ¬ j = j + 1), decide_eq_true rfl, Nat.sub_self]; rfl
      · have h3 : j = k + 1 := by omega
        subst h3
        rw [decide_eq_true rfl, show k + 1 - k = 1 by omega]; rfl
  · rw [if_neg h, decide_eq_false h, cond_false]
    by_cases h1 : j < k + 2 + s.size
    · rw [if_pos h1, decide_eq_true h1]; rfl
    · rw [if_neg h1, decide_eq_false h1]; rfl
theorem wt_eval {bad : Bool} {k : Nat} {B : Nat → Int} {s : ByteArray} (hk : k + 2 + s.size ≤ maxCells) : (lfun niG nol 60 Try.f160 [.c (.ptr 0 0 0), .c (.v (.string s))] [wrB bad k, rowU true k B]).eval =
    some (.tup [], [some ⟨168, true, .one [.sl 2 0 (k + 2 + s.size), .v (.bool (bad || decide (((s.size : Nat) : Int) > 2000)))]⟩, none, rowU true (k + 2 + s.size) (txB B k s)]) := by
  rw [wt_nf]
  have e1 : ∀ k : Nat, decide (k = k) = true := fun k => decide_eq_true rfl
  have e2 : decide ((k + 2) * 1 ≤ maxCells) = true := decide_eq_true (by omega)
  have e3 : decide (0 + s.size ≤ s.size) = true := decide_eq_true (by omega)
  have e4 : decide ((k + 2 + s.size) * 1 ≤ maxCells) = true := decide_eq_true (by omega)
  have e5 := wt_row B k s
  simp only [e1, e2, e3, e4, cond_true]
  have e6 : rowU true (k + 2 + s.size) (txB B k s) = some ⟨5, true, .row 1 (k + 2 + s.size) fun j => ub (txB B k s j)⟩ := rfl
  rw [e6, ← e5]
  cases bad <;> rfl
noncomputable def wtF : Spec := fun args h => match args, h with
  | [.c (.ptr 0 0 0), .c (.v (.string s))], [some ⟨168, true, .one [.sl 1 0 k, .v (.bool bad)]⟩, some ⟨5, true, .row 1 k' f⟩] =>
    .need (yes (k + 2 + s.size ≤ maxCells ∧ k' = k ∧ f = fun j => ub (ud (f j)))) (.ret (.tup [], [some ⟨168, true, .one [.sl 2 0 (k + 2 + s.size), .v (.bool (bad || decide (((s.size : Nat) : Int) > 2000)))]⟩, none, rowU true (k + 2 + s.size) (txB (fun j => ud (f j)) k s)]))
  | _, _ => .fail
theorem wtF_ok : SpecOk Try.prog 160 wtF := by
  refine knownS nilK Try.func160 fun args h r he => ?_
  unfold wtF at he
  split at he
  · rename_i s k bad k' f
    obtain ⟨⟨h1, h2, h3⟩, he'⟩ := Tr.eval_ask.1 he
    subst h2
    cases he'
    have e1 : some ⟨5, true, .row 1 k' f⟩ = rowU true k' fun j => ud (f j) := by rw [rowU, ← h3]
    exact ⟨_, [], 60, nol, noLoopsS, by rw [e1]; exact wt_eval h1⟩
  · cases he
end
section
open Go Go.RowKit
abbrev allK : List (Nat × Option TypeId) := [(0,none),(5,some 87),(10,none),(11,none),(12,none)]
abbrev allKi : List (Nat × Option TypeId) := [(0,none),(5,some 87),(6,none),(7,none),(10,none),(11,none),(12,none),(19,none),(20,none)]
noncomputable def KA2 : Known := [(156, gyF), (124, bkF)]
theorem KA2_ok : KnownOk KA2 := consK gyF_ok (by kernel_rfl) (consK bkF_ok (by kernel_rfl) nilK)
noncomputable def allG : Ctx2 := GT KA2 (fun k => if k = 3 then allK else if k = 6 then allKi else []) 0 []
theorem allG_ok : XOk allG := GT_ok KA2_ok _ _ _
def rowGl (n : Nat) (L : Nat → Gl) : Option ABlk := some ⟨87, true, .row 4 n fun j => encG (L j)⟩
def rowRn (own : Bool) (n : Nat) (R : Nat → Rn) : Option ABlk := some ⟨83, own, .row 4 n fun j => encN (R j)⟩
def oneRn (r : Rn) : Option ABlk := some ⟨83, true, .one [i64 r.n, .v (.string r.s), i64 r.v, i64 r.l]⟩
def wiS (a : Nat → Int) (own : Bool) (o k n : Nat) (R : Nat → Rn) (na : Nat) (L : Nat → Gl) (r : Rn) (i at' : Int) : St :=
  ⟨slots 62 [(0, .c (.ptr 0 0 0)), (5, .c (.sl 2 0 na)), (6, I64 i), (7, .c (.ptr 3 0 0)), (10, .c (.sl 1 o k)), (11, I64 k), (12, I64 i), (19, I64 r.s.size), (20, I64 at')], [rowA a, rowRn own n R, rowGl na L, oneRn r]⟩
def woS (a : Nat → Int) (own : Bool) (o k n : Nat) (R : Nat → Rn) (na : Nat) (L : Nat → Gl) (i : Int) : St :=
  ⟨slots 62 [(0, .c (.ptr 0 0 0)), (5, .c (.sl 2 0 na)), (10, .c (.sl 1 o k)), (11, I64 k), (12, I64 i)], [rowA a, rowRn own n R, rowGl na L]⟩
noncomputable def wiT (a : Nat → Int) (own : Bool) (o k n : Nat) (R : Nat → Rn) (na : Nat) (L : Nat → Gl) (r : Rn) (i at' : Int) : Tr (Ex × St) := rT allG nol 2 46 (bodyOf Try.f123 1) allKi allKi (wiS a own o k n R na L r i at')
theorem wi_ex {a : Nat → Int} {own : Bool} {o k n : Nat} {R : Nat → Rn} {na : Nat} {L : Nat → Gl} {r : Rn} {i at' : Int} : (wiT a own o k n R na L r i at').go [false] = some ([!decide (at' < ((r.s.size : Nat) : Int))], Ex.exit 2, { sl := slots 62 [(0, .c (.ptr 0 0 0)), (5, .c (.sl 2 0 na)), (6, I64 i), (7, .c (.ptr 3 0 0)), (10, .c (.sl 1 o k)), (11, I64 ((k : Nat) : Int)), (12, I64 i), (19, I64 ((r.s.size : Nat) : Int)), (20, I64 at')], h := [some ⟨35, true, .row 1 256 fun k => [.int .i64 (a k)]⟩, some ⟨83, own, .row 4 n fun j => [.int .i64 (R j).n, .string (R j).s, .int .i64 (R j).v, .int .i64 (R j).l]⟩, some ⟨87, true, .row 4 na fun j => [.int .i64 (L j).k, .int .i64 (L j).r, .int .i64 (L j).a, .int .i64 (L j).w]⟩, some ⟨83, true, .one [i64 r.n, .v (.string r.s), i64 r.v, i64 r.l]⟩] }) := by kernel_rfl
theorem wi_ttt {a : Nat → Int} {own : Bool} {o k n : Nat} {R : Nat → Rn} {na : Nat} {L : Nat → Gl} {r : Rn} {i at' : Int} : (wiT a own o k n R na L r i at').go [] = some ([decide (at' < ((r.s.size : Nat) : Int)), decide ((0 : Int) ≤ at'), decide (at' < ((r.s.size : Nat) : Int)), yes ((0 : Int) ≤ bt r.s at' ∧ bt r.s at' < (256 : Int) ∧ (fun k => v1 (a k)) = fun k => v1 (vd (v1 (a k)))), blk { k := gk r.v (bt r.s at'), r := i, a := at', w := ga (Mt fun k => vd (v1 (a k))) r.v (bt r.s at') }, true, true, true, decide (((na : Nat) : Int) > (0 : Int)), true, true, true, true, decide ((0 : Int) ≤ w64 (((na : Nat) : Int) - (1 : Int))), decide (w64 (((na : Nat) : Int) - (1 : Int)) < ((na : Nat) : Int)), true, decide (0 + (w64 (((na : Nat) : Int) - (1 : Int))).toNat < na), true, true, blk { k := (L (0 + (w64 (((na : Nat) : Int) - (1 : Int))).toNat)).k, r := (L (0 + (w64 (((na : Nat) : Int) - (1 : Int))).toNat)).r, a := (L (0 + (w64 (((na : Nat) : Int) - (1 : Int))).toNat)).a, w := (L (0 + (w64 (((na : Nat) : Int) - (1 : Int))).toNat)).w }], Ex.normal, { sl := slots 62 [(0, .c (.ptr 0 0 0)), (5, .c (.sl 2 0 na)), (6, I64 i), (7, .c (.ptr 3 0 0)), (10, .c (.sl 1 o k)), (11, I64 ((k : Nat) : Int)), (12, I64 i), (19, I64 ((r.s.size : Nat) : Int)), (20, I64 (w64 (at' + (1 : Int))))], h := [some ⟨35, true, .row 1 256 fun k => [.int .i64 (a k)]⟩, some ⟨83, own, .row 4 n fun j => [.int .i64 (R j).n, .string (R j).s, .int .i64 (R j).v, .int .i64 (R j).l]⟩, some ⟨87, true, .row 4 na fun j => [.int .i64 (L j).k, .int .i64 (L j).r, .int .i64 (L j).a, .int .i64 (L j).w]⟩, some ⟨83, true, .one [i64 r.n, .v (.string r.s), i64 r.v, i64 r.l]⟩] }) := by kernel_rfl
theorem wi_ttf {a : Nat → Int} {own : Bool} {o k n : Nat} {R : Nat → Rn} {na : Nat} {L : Nat → Gl} {r : Rn} {i at' : Int} : (wiT a own o k n R na L r i at').go [true, true, true, true, true, true, true, true, true, true, true, true, true, true, true, true, true, true, true, false] = some ([decide (at' < ((r.s.size : Nat) : Int)), decide ((0 : Int) ≤ at'), decide (at' < ((r.s.size : Nat) : Int)), yes ((0 : Int) ≤ bt r.s at' ∧ bt r.s at' < (256 : Int) ∧ (fun k => v1 (a k)) = fun k => v1 (vd (v1 (a k)))), blk { k := gk r.v (bt r.s at'), r := i, a := at', w := ga (Mt fun k => vd (v1 (a k))) r.v (bt r.s at') }, true, true, true, decide (((na : Nat) : Int) > (0 : Int)), true, true, true, true, decide ((0 : Int) ≤ w64 (((na : Nat) : Int) - (1 : Int))), decide (w64 (((na : Nat) : Int) - (1 : Int)) < ((na : Nat) : Int)), true, decide (0 + (w64 (((na : Nat) : Int) - (1 : Int))).toNat < na), true, true, !blk { k := (L (0 + (w64 (((na : Nat) : Int) - (1 : Int))).toNat)).k, r := (L (0 + (w64 (((na : Nat) : Int) - (1 : Int))).toNat)).r, a := (L (0 + (w64 (((na : Nat) : Int) - (1 : Int))).toNat)).a, w := (L (0 + (w64 (((na : Nat) : Int) - (1 : Int))).toNat)).w }, decide (na = na), true, decide ((na + 1) * 32 ≤ maxCells)], Ex.normal, { sl := slots 62 [(0, .c (.ptr 0 0 0)), (5, .c (.sl 2 0 (na + 1))), (6, I64 i), (7, .c (.ptr 3 0 0)), (10, .c (.sl 1 o k)), (11, I64 ((k : Nat) : Int)), (12, I64 i), (19, I64 ((r.s.size : Nat) : Int)), (20, I64 (w64 (at' + (1 : Int))))], h := [some ⟨35, true, .row 1 256 fun k => [.int .i64 (a k)]⟩, some ⟨83, own, .row 4 n fun j => [.int .i64 (R j).n, .string (R j).s, .int .i64 (R j).v, .int .i64 (R j).l]⟩, some ⟨87, true, .row 4 (na + 1) fun k => [.int .i64 (bif decide (k = na) then gk r.v (bt r.s at') else (L k).k), .int .i64 (bif decide (k = na) then i else (L k).r), .int .i64 (bif decide (k = na) then at' else (L k).a), .int .i64 (bif decide (k = na) then ga (Mt fun k => vd (v1 (a k))) r.v (bt r.s at') else (L k).w)]⟩, some ⟨83, true, .one [i64 r.n, .v (.string r.s), i64 r.v, i64 r.l]⟩] }) := by kernel_rfl
theorem wi_tf {a : Nat → Int} {own : Bool} {o k n : Nat} {R : Nat → Rn} {na : Nat} {L : Nat → Gl} {r : Rn} {i at' : Int} : (wiT a own o k n R na L r i at').go [true, true, true, true, true, true, true, true, false, false, false, false, false, false, false, false, false] = some ([decide (at' < ((r.s.size : Nat) : Int)), decide ((0 : Int) ≤ at'), decide (at' < ((r.s.size : Nat) : Int)), yes ((0 : Int) ≤ bt r.s at' ∧ bt r.s at' < (256 : Int) ∧ (fun k => v1 (a k)) = fun k => v1 (vd (v1 (a k)))), blk { k := gk r.v (bt r.s at'), r := i, a := at', w := ga (Mt fun k => vd (v1 (a k))) r.v (bt r.s at') }, true, true, true, !decide (((na : Nat) : Int) > (0 : Int)), true, true, true, true, true, true, true, true, decide (na = na), true, decide ((na + 1) * 32 ≤ maxCells)], Ex.normal, { sl := slots 62 [(0, .c (.ptr 0 0 0)), (5, .c (.sl 2 0 (na + 1))), (6, I64 i), (7, .c (.ptr 3 0 0)), (10, .c (.sl 1 o k)), (11, I64 ((k : Nat) : Int)), (12, I64 i), (19, I64 ((r.s.size : Nat) : Int)), (20, I64 (w64 (at' + (1 : Int))))], h := [some ⟨35, true, .row 1 256 fun k => [.int .i64 (a k)]⟩, some ⟨83, own, .row 4 n fun j => [.int .i64 (R j).n, .string (R j).s, .int .i64 (R j).v, .int .i64 (R j).l]⟩, some ⟨87, true, .row 4 (na + 1) fun k => [.int .i64 (bif decide (k = na) then gk r.v (bt r.s at') else (L k).k), .int .i64 (bif decide (k = na) then i else (L k).r), .int .i64 (bif decide (k = na) then at' else (L k).a), .int .i64 (bif decide (k = na) then ga (Mt fun k => vd (v1 (a k))) r.v (bt r.s at') else (L k).w)]⟩, some ⟨83, true, .one [i64 r.n, .v (.string r.s), i64 r.v, i64 r.l]⟩] }) := by kernel_rfl
theorem wi_f {a : Nat → Int} {own : Bool} {o k n : Nat} {R : Nat → Rn} {na : Nat} {L : Nat → Gl} {r : Rn} {i at' : Int} : (wiT a own o k n R na L r i at').go [true, true, true, true, false, false, false, false, false, false, false, false, false, false, false, false, false] = some ([decide (at' < ((r.s.size : Nat) : Int)), decide ((0 : Int) ≤ at'), decide (at' < ((r.s.size : Nat) : Int)), yes ((0 : Int) ≤ bt r.s at' ∧ bt r.s at' < (256 : Int) ∧ (fun k => v1 (a k)) = fun k => v1 (vd (v1 (a k)))), !blk { k := gk r.v (bt r.s at'), r := i, a := at', w := ga (Mt fun k => vd (v1 (a k))) r.v (bt r.s at') }, true, true, true, true, true, true, true, true, true, true, true, true, decide (na = na), true, decide ((na + 1) * 32 ≤ maxCells)], Ex.normal, { sl := slots 62 [(0, .c (.ptr 0 0 0)), (5, .c (.sl 2 0 (na + 1))), (6, I64 i), (7, .c (.ptr 3 0 0)), (10, .c (.sl 1 o k)), (11, I64 ((k : Nat) : Int)), (12, I64 i), (19, I64 ((r.s.size : Nat) : Int)), (20, I64 (w64 (at' + (1 : Int))))], h := [some ⟨35, true, .row 1 256 fun k => [.int .i64 (a k)]⟩, some ⟨83, own, .row 4 n fun j => [.int .i64 (R j).n, .string (R j).s, .int .i64 (R j).v, .int .i64 (R j).l]⟩, some ⟨87, true, .row 4 (na + 1) fun k => [.int .i64 (bif decide (k = na) then gk r.v (bt r.s at') else (L k).k), .int .i64 (bif decide (k = na) then i else (L k).r), .int .i64 (bif decide (k = na) then at' else (L k).a), .int .i64 (bif decide (k = na) then ga (Mt fun k => vd (v1 (a k))) r.v (bt r.s at') else (L k).w)]⟩, some ⟨83, true, .one [i64 r.n, .v (.string r.s), i64 r.v, i64 r.l]⟩] }) := by kernel_rfl
noncomputable def woT (a : Nat → Int) (own : Bool) (o k n : Nat) (R : Nat → Rn) (na : Nat) (L : Nat → Gl) (na' : Nat) (L' : Nat → Gl) (i z : Int) : Tr (Ex × St) :=
  rT allG (tell (bodyOf Try.f123 1) (wiS a own o k n R na L (R (o + i.toNat)) i 0) (.exit 2, wiS a own o k n R na' L' (R (o + i.toNat)) i z)) 2 54 (bodyOf Try.f123 0) allK allK (woS a own o k n R na L i)
theorem wo_go {a : Nat → Int} {own : Bool} {o k n : Nat} {R : Nat → Rn} {na : Nat} {L : Nat → Gl} {na' : Nat} {L' : Nat → Gl} {i z : Int} : (woT a own o k n R na L na' L' i z).go [] = some ([decide (i < ((k : Nat) : Int)), decide ((0 : Int) ≤ i), decide (i < ((k : Nat) : Int)), decide (o + i.toNat < n), yes (wasS (bodyOf Try.f123 1) (wiS a own o k n R na L (R (o + i.toNat)) i 0))], Ex.normal, { sl := slots 62 [(0, .c (.ptr 0 0 0)), (5, .c (.sl 2 0 na')), (10, .c (.sl 1 o k)), (11, I64 ((k : Nat) : Int)), (12, I64 (w64 (i + (1 : Int))))], h := [some ⟨35, true, .row 1 256 fun k => [.int .i64 (a k)]⟩, some ⟨83, own, .row 4 n fun j => [.int .i64 (R j).n, .string (R j).s, .int .i64 (R j).v, .int .i64 (R j).l]⟩, some ⟨87, true, .row 4 na' fun j => [.int .i64 (L' j).k, .int .i64 (L' j).r, .int .i64 (L' j).a, .int .i64 (L' j).w]⟩] }) := by kernel_rfl
theorem wo_ex {a : Nat → Int} {own : Bool} {o k n : Nat} {R : Nat → Rn} {na : Nat} {L : Nat → Gl} {i : Int} : (rT allG nol 2 54 (bodyOf Try.f123 0) allK allK (woS a own o k n R na L i)).go [false] = some ([!decide (i < ((k : Nat) : Int))], Ex.exit 0, { sl := slots 62 [(0, .c (.ptr 0 0 0)), (5, .c (.sl 2 0 na)), (10, .c (.sl 1 o k)), (11, I64 ((k : Nat) : Int)), (12, I64 i)], h := [some ⟨35, true, .row 1 256 fun k => [.int .i64 (a k)]⟩, some ⟨83, own, .row 4 n fun j => [.int .i64 (R j).n, .string (R j).s, .int .i64 (R j).v, .int .i64 (R j).l]⟩, some ⟨87, true, .row 4 na fun j => [.int .i64 (L j).k, .int .i64 (L j).r, .int .i64 (L j).a, .int .i64 (L j).w]⟩] }) := by kernel_rfl
theorem all_w {a : Nat → Int} {own : Bool} {o k n : Nat} {R : Nat → Rn} {na : Nat} {L : Nat → Gl} {z : Int} : (lfun allG (tell (bodyOf Try.f123 0) (woS a own o k n R 0 (fun _ => zGl) 0) (.exit 0, woS a own o k n R na L z)) 60 Try.f123 [.c (.ptr 0 0 0), .c (.sl 1 o k)] [rowA a, rowRn own n R]).go [] = some ([yes (wasS (bodyOf Try.f123 0) (woS a own o k n R 0 (fun _ => zGl) 0))], .c (.sl 2 0 na), [some ⟨35, true, .row 1 256 fun k => [.int .i64 (a k)]⟩, some ⟨83, own, .row 4 n fun j => [.int .i64 (R j).n, .string (R j).s, .int .i64 (R j).v, .int .i64 (R j).l]⟩, some ⟨87, true, .row 4 na fun j => [.int .i64 (L j).k, .int .i64 (L j).r, .int .i64 (L j).a, .int .i64 (L j).w]⟩]) := by kernel_rfl
end
section
open Go Go.RowKit
theorem cells32 {n : Nat} (h : n ≤ 2 ^ 40) : decide (n * 32 ≤ maxCells) = true := decide_eq_true (by unfold maxCells; omega)
theorem lastB_at {acc : List Gl} (h : 0 < acc.length) : lastB blk acc = blk (at_ acc (acc.length - 1)) := by
  unfold lastB
  rw [List.getLast?_eq_getElem?, List.getElem?_eq_getElem (by omega), at_get (by omega)]
theorem upd_at (acc : List Gl) (g : Gl) : upd (fun j => encG (at_ acc j)) acc.length (encG g) = fun j => encG (at_ (acc ++ [g]) j) := upd_lrow encG zGl acc g
theorem bt_lt (s : ByteArray) (i : Int) : 0 ≤ bt s i ∧ bt s i < 256 := by
  unfold bt
  have := UInt8.toNat_lt (s.data.toList.getD i.toNat 0)
  omega
theorem succ64 {j : Nat} (h : j < 2 ^ 60) : w64 ((j : Int) + 1) = ((j + 1 : Nat) : Int) := by rw [w64_id (by omega) (by omega)]; omega
theorem put_f {b : Gl → Bool} {acc : List Gl} {g : Gl} (h : b g = false) : put b acc g = acc ++ [g] := by simp [put, h]
theorem put_tf {b : Gl → Bool} {acc : List Gl} {g : Gl} (h : lastB b acc = false) : put b acc g = acc ++ [g] := by simp [put, h]
theorem put_tt {b : Gl → Bool} {acc : List Gl} {g : Gl} (h : b g = true) (h' : lastB b acc = true) : put b acc g = acc := by simp [put, h, h']
def decN : List Value → Rn
  | [.int _ a, .string s, .int _ b, .int _ c] => ⟨a, s, b, c⟩
  | _ => zRn
def decG : List Value → Gl
  | [.int _ a, .int _ b, .int _ c, .int _ d] => ⟨a, b, c, d⟩
  | _ => zGl
def wiI (a : Nat → Int) (own : Bool) (o k n : Nat) (R : Nat → Rn) (acc : List Gl) (r : Rn) (i : Nat) (j : Nat) : St :=
  wiS a own o k n R (goB (Mt a) r.v i r.s acc j).length (at_ (goB (Mt a) r.v i r.s acc j)) r i j
theorem wi_step {a : Nat → Int} {own : Bool} {o k n : Nat} {R : Nat → Rn} {acc : List Gl} {r : Rn} {i j : Nat} (hj : j < r.s.size) (hb : acc.length + r.s.size < 2 ^ 40) :
    (rT allG nol 2 46 (bodyOf Try.f123 1) allKi allKi (wiI a own o k n R acc r i j)).eval = some (.normal, wiI a own o k n R acc r i (j + 1)) := by
  have hl := goB_len (M := Mt a) (v := r.v) (r := i) (s := r.s) (acc := acc) j
  obtain ⟨b0, b1⟩ := bt_lt r.s j
  have h3 := succ64 (j := j) (by omega)
  have hy : yes ((0 : Int) ≤ bt r.s j ∧ bt r.s j < (256 : Int) ∧ (fun k => v1 (a k)) = fun k => v1 (vd (v1 (a k)))) = true := yes_of ⟨b0, b1, rfl⟩
  have e1 : goB (Mt a) r.v i r.s acc (j + 1) = put blk (goB (Mt a) r.v i r.s acc j) (gl (Mt a) r.v i j (bt r.s j)) := rfl
  have app : ∀ A : List Gl, A.length ≤ acc.length + j → put blk A (gl (Mt a) r.v i j (bt r.s j)) = A ++ [gl (Mt a) r.v i j (bt r.s j)] →
      some (Ex.normal, wiS a own o k n R (A.length + 1) (at_ (A ++ [gl (Mt a) r.v i j (bt r.s j)])) r i ((j + 1 : Nat) : Int)) = some (Ex.normal, wiS a own o k n R (put blk A (gl (Mt a) r.v i j (bt r.s j))).length (at_ (put blk A (gl (Mt a) r.v i j (bt r.s j)))) r i ((j + 1 : Nat) : Int)) := by
    intro A _ h
    rw [h]
    simp
  have fin : ∀ A : List Gl, (⟨slots 62 [(0, .c (.ptr 0 0 0)), (5, .c (.sl 2 0 (A.length + 1))), (6, I64 i), (7, .c (.ptr 3 0 0)), (10, .c (.sl 1 o k)), (11, I64 k), (12, I64 i), (19, I64 r.s.size), (20, I64 ((j + 1 : Nat) : Int))],
      [rowA a, rowRn own n R, some ⟨87, true, .row 4 (A.length + 1) (upd (fun j => encG (at_ A j)) A.length (encG (gl (Mt a) r.v i j (bt r.s j))))⟩, oneRn r]⟩ : St) = wiS a own o k n R (A.length + 1) (at_ (A ++ [gl (Mt a) r.v i j (bt r.s j)])) r i ((j + 1 : Nat) : Int) := by
    intro A
    rw [upd_at]
    rfl
  unfold wiI
  rw [e1]
  generalize goB (Mt a) r.v i r.s acc j = A at hl ⊢
  have hc := cells32 (n := A.length + 1) (by omega)
  have hnn : decide (A.length = A.length) = true := decide_eq_true rfl
  have p1 : decide ((j : Int) < (r.s.size : Int)) = true := decide_eq_true (by omega)
  have p2 : decide ((0 : Int) ≤ (j : Int)) = true := decide_eq_true (by omega)
  by_cases hbl : blk (gl (Mt a) r.v i j (bt r.s j)) = true
  · by_cases h0 : 0 < A.length
    · have hw : w64 ((A.length : Int) - 1) = ((A.length - 1 : Nat) : Int) := by rw [w64_id (by omega) (by omega)]; omega
      have p3 : decide ((A.length : Int) > (0 : Int)) = true := decide_eq_true (by omega)
      have p4 : decide ((0 : Int) ≤ w64 ((A.length : Int) - 1)) = true := decide_eq_true (by omega)
      have p5 : decide (w64 ((A.length : Int) - 1) < (A.length : Int)) = true := decide_eq_true (by omega)
      have p6 : decide (0 + (w64 ((A.length : Int) - 1)).toNat < A.length) = true := decide_eq_true (by omega)
      have el : 0 + (w64 ((A.length : Int) - 1)).toNat = A.length - 1 := by omega
      by_cases hla : lastB blk A = true
      · have p7 : blk (at_ A (0 + (w64 ((A.length : Int) - 1)).toNat)) = true := by rw [el, ← lastB_at h0]; exact hla
        refine (rT_go wi_ttt ?_).trans ?_
        · repeat' (first | exact AllT.nil | refine AllT.cons ?_ ?_)
          all_goals first | (with_reducible rfl) | assumption
        · rw [h3, put_tt hbl hla]
          rfl
      · have hla' : lastB blk A = false := by simpa using hla
        have p7 : (!blk (at_ A (0 + (w64 ((A.length : Int) - 1)).toNat))) = true := by rw [el, ← lastB_at h0, hla']; rfl
        refine (rT_go wi_ttf ?_).trans ?_
        · repeat' (first | exact AllT.nil | refine AllT.cons ?_ ?_)
          all_goals first | (with_reducible rfl) | assumption
        · rw [h3]
          refine Eq.trans ?_ (app A (by omega) (put_tf hla'))
          rw [← fin A]
          rfl
    · have hA : A = [] := List.length_eq_zero_iff.1 (by omega)
      have p3 : (!decide ((A.length : Int) > (0 : Int))) = true := by simp; omega
      refine (rT_go wi_tf ?_).trans ?_
      · repeat' (first | exact AllT.nil | refine AllT.cons ?_ ?_)
        all_goals first | (with_reducible rfl) | assumption
      · rw [h3]
        refine Eq.trans ?_ (app A (by omega) (put_tf (by rw [hA]; rfl)))
        rw [← fin A]
        rfl
  · have hbl' : blk (gl (Mt a) r.v i j (bt r.s j)) = false := by simpa using hbl
    have p3 : (!blk (gl (Mt a) r.v i j (bt r.s j))) = true := by rw [hbl']; rfl
    refine (rT_go wi_f ?_).trans ?_
    · repeat' (first | exact AllT.nil | refine AllT.cons ?_ ?_)
      all_goals first | (with_reducible rfl) | assumption
    · rw [h3]
      refine Eq.trans ?_ (app A (by omega) (put_f hbl'))
      rw [← fin A]
      rfl
theorem lenR_le {R : Nat → Rn} {k : Nat} : ∀ i, i < k → lenR R i + (R i).s.size ≤ lenR R k := by
  intro i hi
  have : ∀ m, i + 1 ≤ m → lenR R (i + 1) ≤ lenR R m := by
    intro m
    induction m with
    | zero => omega
    | succ m ih =>
      intro h
      have e : lenR R (m + 1) = lenR R m + (R m).s.size := rfl
      rcases Nat.lt_or_ge i m with h' | h'
      · have := ih (by omega)
        omega
      · have : i = m := by omega
        subst this
        exact Nat.le_refl _
  have e : lenR R (i + 1) = lenR R i + (R i).s.size := rfl
  have := this k (by omega)
  omega
theorem wi_loop {a : Nat → Int} {own : Bool} {o k n : Nat} {R : Nat → Rn} {acc : List Gl} {r : Rn} {i : Nat} (hb : acc.length + r.s.size < 2 ^ 40) :
    CodeSem allG 2 (.loop (bodyOf Try.f123 1)) (wiS a own o k n R acc.length (at_ acc) r i 0) (.exit 2, wiS a own o k n R (goB (Mt a) r.v i r.s acc r.s.size).length (at_ (goB (Mt a) r.v i r.s acc r.s.size)) r i r.s.size) := by
  refine loop_sem allG_ok (ℓ := nol) (d := 46) (k := allKi) (ka := allKi) noLoopsS (fun j => wiI a own o k n R acc r i j) r.s.size (by simp) ?_ fun j hj => wi_step hj hb
  exact rT_go wi_ex ⟨by simp, trivial⟩
theorem wo_loop {a : Nat → Int} {own : Bool} {o k n : Nat} {R : Nat → Rn} (hn : o + k ≤ n) (hk : k < 2 ^ 40) (hb : lenR (fun i => R (o + i)) k < 2 ^ 39) :
    CodeSem allG 2 (.loop (bodyOf Try.f123 0)) (woS a own o k n R 0 (fun _ => zGl) 0) (.exit 0, woS a own o k n R (goR (Mt a) (fun i => R (o + i)) k).length (at_ (goR (Mt a) (fun i => R (o + i)) k)) k) := by
  have hmono := lenR_le (R := fun i => R (o + i)) (k := k)
  let st : Nat → St := fun i => woS a own o k n R (goR (Mt a) (fun i => R (o + i)) i).length (at_ (goR (Mt a) (fun i => R (o + i)) i)) i
  have step : ∀ j, j < k → CodeSem allG 2 (bodyOf Try.f123 0) (st j) (.normal, st (j + 1)) := by
    intro j hj
    have h1 := hmono j hj
    have h2 := goR_len (M := Mt a) (R := fun i => R (o + i)) j
    have hin := wi_loop (a := a) (own := own) (o := o) (k := k) (n := n) (R := R) (acc := goR (Mt a) (fun i => R (o + i)) j) (r := R (o + j)) (i := j) (by omega)
    have h3 := succ64 (j := j) (by omega)
    have hgo := wo_go (a := a) (own := own) (o := o) (k := k) (n := n) (R := R) (na := (goR (Mt a) (fun i => R (o + i)) j).length) (L := at_ (goR (Mt a) (fun i => R (o + i)) j))
      (na' := (goR (Mt a) (fun i => R (o + i)) (j + 1)).length) (L' := at_ (goR (Mt a) (fun i => R (o + i)) (j + 1))) (i := j) (z := (R (o + j)).s.size)
    refine rT_sem allG_ok (tell_ok hin) ((rT_go hgo ?_).trans ?_)
    · simp only [Int.toNat_natCast]
      repeat' (first | exact AllT.nil | refine AllT.cons ?_ ?_)
      all_goals first | (with_reducible rfl) | exact decide_eq_true (by omega) | exact yes_of ⟨rfl, rfl⟩
    · rw [h3]
      rfl
  have stop : CodeSem allG 2 (bodyOf Try.f123 0) (st k) (.exit 0, st k) := rT_sem allG_ok noLoopsS (rT_go wo_ex ⟨by simp, trivial⟩)
  exact loop_of st k (by simp) stop step
noncomputable def allF : Spec := fun args h => match args, h with
  | [.c (.ptr 0 0 0), .c (.sl 1 o k)], [some ⟨35, true, .row 1 256 f⟩, some ⟨83, own, .row 4 n q⟩] =>
    .need (yes (o + k ≤ n ∧ k < 2 ^ 40 ∧ lenR (fun i => decN (q (o + i))) k < 2 ^ 39 ∧ (f = fun k => v1 (vd (f k))) ∧ q = fun j => encN (decN (q j))))
      (.ret (.c (.sl 2 0 (goR (Mt fun k => vd (f k)) (fun i => decN (q (o + i))) k).length), [some ⟨35, true, .row 1 256 f⟩, some ⟨83, own, .row 4 n q⟩,
        rowGl (goR (Mt fun k => vd (f k)) (fun i => decN (q (o + i))) k).length (at_ (goR (Mt fun k => vd (f k)) (fun i => decN (q (o + i))) k))]))
  | _, _ => .fail
theorem allF_ok : SpecOk Try.prog 123 allF := by
  refine knownS KA2_ok Try.func123 fun args h r he => ?_
  unfold allF at he
  split at he
  · rename_i o k f own n q
    obtain ⟨⟨h1, h2, h3, h4, h5⟩, he⟩ := Tr.eval_ask.1 he
    cases he
    have hl := wo_loop (a := fun k => vd (f k)) (own := own) (R := fun j => decN (q j)) h1 h2 h3
    refine ⟨_, [], 60, _, tell_ok hl, ?_⟩
    have e1 : some ⟨35, true, .row 1 256 f⟩ = rowA fun k => vd (f k) := by rw [rowA, ← h4]
    have e2 : some ⟨83, own, .row 4 n q⟩ = rowRn own n fun j => decN (q j) := by rw [rowRn, ← h5]
    rw [e1, e2]
    exact Tr.go_eval all_w ⟨yes_of ⟨rfl, rfl⟩, trivial⟩
  · cases he
end
section
open Go Go.RowKit
/-- The first place from a on that is not so, at most f further. -/
def fstN (p : Nat → Bool) : Nat → Nat → Nat
  | 0, a => a
  | f + 1, a => bif p a then fstN p f (a + 1) else a
theorem fstN_spec {p : Nat → Bool} : ∀ f a, a ≤ fstN p f a ∧ fstN p f a ≤ a + f ∧ (∀ j, a ≤ j → j < fstN p f a → p j = true) ∧ (fstN p f a = a + f ∨ p (fstN p f a) = false)
  | 0, a => ⟨Nat.le_refl _, Nat.le_refl _, fun j h1 h2 => by simp only [fstN] at h2; omega, .inl rfl⟩
  | f + 1, a => by
    rw [fstN]
    cases hp : p a
    · exact ⟨Nat.le_refl _, by simp only [cond_false]; omega, fun j h1 h2 => by simp only [cond_false] at h2; omega, .inr hp⟩
    · simp only [cond_true]
      obtain ⟨h1, h2, h3, h4⟩ := fstN_spec (p := p) f (a + 1)
      refine ⟨by omega, by omega, fun j j1 j2 => ?_, by rcases h4 with h4 | h4; · exact .inl (by omega)
                                                        · exact .inr h4⟩
      rcases Nat.lt_or_ge a j with h | h
      · exact h3 j h j2
      · rw [show j = a by omega]; exact hp
def bkc (c : Int) : Bool := c == 32 || c == 9 || c == 10
def nmc (c : Int) : Bool := (decide (c ≥ 97) && decide (c ≤ 122)) || c == 45
def vlc (c : Int) : Bool := nmc c || (decide (c ≥ 48) && decide (c ≤ 57)) || c == 46 || c == 37
def dgc (c : Int) : Bool := decide (c ≥ 48) && decide (c ≤ 57)
theorem bkc_nf {c : Int} : (lfun niG nol 60 Try.f176 [U8 c] []).eval =
  bif c == (32 : Int) then some (Bo true, [])
  else bif c == (9 : Int) then some (Bo true, []) else some (Bo (c == (10 : Int)), []) := by kernel_rfl
theorem nmc_nf {c : Int} : (lfun niG nol 60 Try.f172 [U8 c] []).eval =
  bif decide (c ≥ (97 : Int)) then
    bif decide (c ≤ (122 : Int)) then some (Bo true, []) else some (Bo (c == (45 : Int)), [])
  else some (Bo (c == (45 : Int)), []) := by kernel_rfl
noncomputable def c8F (p : Int → Bool) : Spec := fun args h => match args, h with
  | [.c (.v (.int .u8 c))], [] => .ret (Bo (p c), [])
  | _, _ => .fail
theorem bkc_ok : SpecOk Try.prog 176 (c8F bkc) := by
  refine knownS nilK Try.func176 fun args h r he => ?_
  unfold c8F at he
  split at he
  · cases he
    refine ⟨fun _ => [], [], 60, nol, noLoopsS, bkc_nf.trans ?_⟩
    unfold bkc
    rename_i c
    cases (c == 32) <;> cases (c == 9) <;> rfl
  · cases he
theorem nmc_ok : SpecOk Try.prog 172 (c8F nmc) := by
  refine knownS nilK Try.func172 fun args h r he => ?_
  unfold c8F at he
  split at he
  · cases he
    refine ⟨fun _ => [], [], 60, nol, noLoopsS, nmc_nf.trans ?_⟩
    unfold nmc
    rename_i c
    cases (decide (c ≥ 97)) <;> cases (decide (c ≤ 122)) <;> rfl
  · cases he
noncomputable def KPN : Known := [(172, c8F nmc)]
theorem KPN_ok : KnownOk KPN := consK nmc_ok (by kernel_rfl) nilK
noncomputable def pnG : Ctx2 := GT KPN (fun _ => []) 0 []
theorem vlc_nf {c : Int} : (lfun pnG nol 60 Try.f173 [U8 c] []).eval =
  bif nmc c then some (Bo true, [])
  else
    bif decide (c ≥ (48 : Int)) then
      bif decide (c ≤ (57 : Int)) then some (Bo true, [])
      else bif c == (46 : Int) then some (Bo true, []) else some (Bo (c == (37 : Int)), [])
    else bif c == (46 : Int) then some (Bo true, []) else some (Bo (c == (37 : Int)), []) := by kernel_rfl
theorem vlc_ok : SpecOk Try.prog 173 (c8F vlc) := by
  refine knownS KPN_ok Try.func173 fun args h r he => ?_
  unfold c8F at he
  split at he
  · cases he
    refine ⟨fun _ => [], [], 60, nol, noLoopsS, vlc_nf.trans ?_⟩
    unfold vlc
    rename_i c
    cases (nmc c) <;> cases (decide (c ≥ 48)) <;> cases (decide (c ≤ 57)) <;> cases (c == 46) <;> rfl
  · cases he
abbrev StrA (s : ByteArray) : AV := .c (.v (.string s))
noncomputable def KPS : Known := [(176, c8F bkc)]
theorem KPS_ok : KnownOk KPS := consK bkc_ok (by kernel_rfl) nilK
abbrev skK : List (Nat × Option TypeId) := [(0,none),(1,none)]
noncomputable def skG : Ctx2 := GT KPS (fun k => if k = 1 then skK else []) 0 []
theorem skG_ok : XOk skG := GT_ok KPS_ok _ _ _
def skS (s : ByteArray) (a : Int) : St := ⟨slots 18 [(0, StrA s), (1, I64 a)], []⟩
theorem sk_go {s : ByteArray} {a : Int} : (rT skG nol 0 56 (bodyOf Try.f171 0) skK skK (skS s a)).go [] =
  some
    ([decide (a < ((s.size : Nat) : Int)), true, true, decide ((0 : Int) ≤ a), decide (a < ((s.size : Nat) : Int)), true, true, bkc (bt s a)],
      Ex.normal,
      { sl := slots 18 [(0, AV.c (AC.v (Value.string s))), (1, I64 (w64 (a + (1 : Int))))],
        h := [] }) := by kernel_rfl
theorem sk_e1 {s : ByteArray} {a : Int} : (rT skG nol 0 56 (bodyOf Try.f171 0) skK skK (skS s a)).go [false, false, false, false, false, false] =
  some
    ([!decide (a < ((s.size : Nat) : Int)), true, true, true, true, true], Ex.exit 0,
      { sl := slots 18 [(0, AV.c (AC.v (Value.string s))), (1, I64 a)], h := [] }) := by kernel_rfl
theorem sk_e2 {s : ByteArray} {a : Int} : (rT skG nol 0 56 (bodyOf Try.f171 0) skK skK (skS s a)).go [true, true, true, true, true, true, true, false] =
  some
    ([decide (a < ((s.size : Nat) : Int)), true, true, decide ((0 : Int) ≤ a), decide (a < ((s.size : Nat) : Int)), true, true, !bkc (bt s a)],
      Ex.exit 0,
      { sl := slots 18 [(0, AV.c (AC.v (Value.string s))), (1, I64 a)], h := [] }) := by kernel_rfl
theorem sk_w {s : ByteArray} {a z : Int} : (lfun skG (tell (bodyOf Try.f171 0) (skS s a) (.exit 0, skS s z)) 60 Try.f171 [StrA s, I64 a] []).go [] =
  some ([yes (wasS (bodyOf Try.f171 0) (skS s a))], I64 z, []) := by kernel_rfl
abbrev dgK : List (Nat × Option TypeId) := [(0,none),(1,none),(5,none)]
noncomputable def dgG : Ctx2 := GT [] (fun k => if k = 2 then dgK else []) 0 []
theorem dgG_ok : XOk dgG := GT_ok nilK _ _ _
def dgS (s : ByteArray) (a n : Int) : St := ⟨slots 31 [(0, StrA s), (1, I64 a), (5, I64 n)], []⟩
theorem dg_go {s : ByteArray} {a n : Int} : (rT dgG nol 0 55 (bodyOf Try.f183 0) dgK dgK (dgS s a n)).go [] =
  some
    ([decide (w64 (a + n) < ((s.size : Nat) : Int)), true, true, true, true, decide ((0 : Int) ≤ w64 (a + n)),
        decide (w64 (a + n) < ((s.size : Nat) : Int)), true, true, decide (bt s (w64 (a + n)) ≥ (48 : Int)), true, true, true, true,
        decide ((0 : Int) ≤ w64 (a + n)), decide (w64 (a + n) < ((s.size : Nat) : Int)), true, true,
        decide (bt s (w64 (a + n)) ≤ (57 : Int))],
      Ex.normal,
      {
        sl :=
          slots 31
            [(0, AV.c (AC.v (Value.string s))), (1, I64 a), (5, I64 (w64 (n + (1 : Int))))],
        h := [] }) := by kernel_rfl
theorem dg_e1 {s : ByteArray} {a n : Int} : (rT dgG nol 0 55 (bodyOf Try.f183 0) dgK dgK (dgS s a n)).go [false, false, false, false, false, false, false, false, false, false, false, false, false, false, false] =
  some
    ([!decide (w64 (a + n) < ((s.size : Nat) : Int)), true, true, true, true, true, true, true, true, true, true, true, true, true,
        true],
      Ex.exit 0,
      { sl := slots 31 [(0, AV.c (AC.v (Value.string s))), (1, I64 a), (5, I64 n)],
        h := [] }) := by kernel_rfl
theorem dg_e2 {s : ByteArray} {a n : Int} : (rT dgG nol 0 55 (bodyOf Try.f183 0) dgK dgK (dgS s a n)).go [true, true, true, true, true, true, true, true, true, false, false, false, false, false, false, false, false] =
  some
    ([decide (w64 (a + n) < ((s.size : Nat) : Int)), true, true, true, true, decide ((0 : Int) ≤ w64 (a + n)),
        decide (w64 (a + n) < ((s.size : Nat) : Int)), true, true, !decide (bt s (w64 (a + n)) ≥ (48 : Int)), true, true, true, true,
        true, true, true],
      Ex.exit 0,
      { sl := slots 31 [(0, AV.c (AC.v (Value.string s))), (1, I64 a), (5, I64 n)],
        h := [] }) := by kernel_rfl
theorem dg_e3 {s : ByteArray} {a n : Int} : (rT dgG nol 0 55 (bodyOf Try.f183 0) dgK dgK (dgS s a n)).go [true, true, true, true, true, true, true, true, true, true, true, true, true, true, true, true, true, true, false] =
  some
    ([decide (w64 (a + n) < ((s.size : Nat) : Int)), true, true, true, true, decide ((0 : Int) ≤ w64 (a + n)),
        decide (w64 (a + n) < ((s.size : Nat) : Int)), true, true, decide (bt s (w64 (a + n)) ≥ (48 : Int)), true, true, true, true,
        decide ((0 : Int) ≤ w64 (a + n)), decide (w64 (a + n) < ((s.size : Nat) : Int)), true, true,
        !decide (bt s (w64 (a + n)) ≤ (57 : Int))],
      Ex.exit 0,
      { sl := slots 31 [(0, AV.c (AC.v (Value.string s))), (1, I64 a), (5, I64 n)],
        h := [] }) := by kernel_rfl
theorem dg_w {s : ByteArray} {a n : Int} : (lfun dgG (tell (bodyOf Try.f183 0) (dgS s a 0) (.exit 0, dgS s a n)) 60 Try.f183 [StrA s, I64 a] []).go [] =
  some ([yes (wasS (bodyOf Try.f183 0) (dgS s a 0))], I64 n, []) := by kernel_rfl
end
section
open Go Go.RowKit
theorem sk_loop {s : ByteArray} {a : Nat} (hs : s.size < 2 ^ 40) (ha : a ≤ s.size) :
    CodeSem skG 0 (.loop (bodyOf Try.f171 0)) (skS s a) (.exit 0, skS s (fstN (fun i => bkc (bt s i)) (s.size - a) a : Nat)) := by
  obtain ⟨h1, h2, h3, h4⟩ := fstN_spec (p := fun i => bkc (bt s i)) (s.size - a) a
  generalize fstN (fun i => bkc (bt s i)) (s.size - a) a = N at h1 h2 h3 h4 ⊢
  have key := loop_of (G := skG) (n0 := 0) (b := bodyOf Try.f171 0) (fun j => skS s ((a + j : Nat) : Int)) (N - a) (e := .exit 0) (Se := skS s ((a + (N - a) : Nat) : Int)) (by simp) ?_ fun j hj => ?_
  · rw [show a + (N - a) = N by omega] at key
    exact key
  · rw [show a + (N - a) = N by omega]
    by_cases hN : N = s.size
    · refine rT_sem skG_ok noLoopsS ((rT_go sk_e1 ?_).trans ?_)
      · try simp only [Int.toNat_natCast, Nat.zero_add]
        repeat' (first | exact AllT.nil | refine AllT.cons ?_ ?_)
        all_goals first | (with_reducible rfl) | (with_reducible assumption) | exact yes_of ⟨rfl, rfl⟩ | exact decide_eq_true (by omega) | exact beq_iff_eq.2 (by omega) | (simp; done) | (simp; omega)
      · try simp only [Int.toNat_natCast, Nat.zero_add]
        rfl
    · obtain ⟨b0, b1⟩ := bt_lt s N
      have hb : bkc (bt s N) = false := h4.resolve_left (by omega)
      have hb' : (!bkc (bt s N)) = true := by rw [hb]; rfl
      refine rT_sem skG_ok noLoopsS ((rT_go sk_e2 ?_).trans ?_)
      · try simp only [Int.toNat_natCast, Nat.zero_add]
        repeat' (first | exact AllT.nil | refine AllT.cons ?_ ?_)
        all_goals first | (with_reducible rfl) | (with_reducible assumption) | exact yes_of ⟨rfl, rfl⟩ | exact decide_eq_true (by omega) | exact beq_iff_eq.2 (by omega) | (simp; done) | (simp; omega)
      · try simp only [Int.toNat_natCast, Nat.zero_add]
        rfl
  · have e3 := succ64 (j := a + j) (by omega)
    obtain ⟨b0, b1⟩ := bt_lt s (a + j : Nat)
    have hb : bkc (bt s (a + j : Nat)) = true := h3 (a + j) (by omega) (by omega)
    refine rT_sem skG_ok noLoopsS ((rT_go sk_go ?_).trans ?_)
    · try simp only [Int.toNat_natCast, Nat.zero_add, e3]
      repeat' (first | exact AllT.nil | refine AllT.cons ?_ ?_)
      all_goals first | (with_reducible rfl) | (with_reducible assumption) | exact yes_of ⟨rfl, rfl⟩ | exact decide_eq_true (by omega) | exact beq_iff_eq.2 (by omega) | (simp; done) | (simp; omega)
    · try simp only [Int.toNat_natCast, Nat.zero_add, e3]
      rfl
def skN (s : ByteArray) (a : Nat) : Nat := fstN (fun i => bkc (bt s i)) (s.size - a) a
theorem skN_b {s : ByteArray} {a : Nat} (ha : a ≤ s.size) : a ≤ skN s a ∧ skN s a ≤ s.size := by
  obtain ⟨h1, h2, _, _⟩ := fstN_spec (p := fun i => bkc (bt s i)) (s.size - a) a
  unfold skN
  omega
noncomputable def skF : Spec := fun args h => match args, h with
  | [.c (.v (.string s)), .c (.v (.int .i64 a))], [] => .need (yes (s.size < 2 ^ 40 ∧ 0 ≤ a ∧ a ≤ s.size)) (.ret (I64 (skN s a.toNat : Nat), []))
  | _, _ => .fail
theorem skF_ok : SpecOk Try.prog 171 skF := by
  refine knownS KPS_ok Try.func171 fun args h r he => ?_
  unfold skF at he
  split at he
  · rename_i s a
    obtain ⟨⟨h1, h2, h3⟩, he⟩ := Tr.eval_ask.1 he
    cases he
    obtain ⟨n, rfl⟩ := Int.eq_ofNat_of_zero_le h2
    exact ⟨_, [], 60, _, tell_ok (sk_loop h1 (by omega)), Tr.go_eval sk_w ⟨yes_of ⟨rfl, rfl⟩, trivial⟩⟩
  · cases he
def dgN (s : ByteArray) (a : Nat) : Nat := fstN (fun i => dgc (bt s i)) (s.size - a) a - a
theorem dgN_b {s : ByteArray} {a : Nat} (ha : a ≤ s.size) : a + dgN s a ≤ s.size := by
  obtain ⟨h1, h2, _, _⟩ := fstN_spec (p := fun i => dgc (bt s i)) (s.size - a) a
  unfold dgN
  omega
theorem dg_loop {s : ByteArray} {a : Nat} (hs : s.size < 2 ^ 40) (ha : a ≤ s.size) :
    CodeSem dgG 0 (.loop (bodyOf Try.f183 0)) (dgS s a 0) (.exit 0, dgS s a (dgN s a : Nat)) := by
  obtain ⟨h1, h2, h3, h4⟩ := fstN_spec (p := fun i => dgc (bt s i)) (s.size - a) a
  unfold dgN
  generalize fstN (fun i => dgc (bt s i)) (s.size - a) a = N at h1 h2 h3 h4 ⊢
  refine loop_of (fun j => dgS s a (j : Int)) (N - a) (by simp) ?_ fun j hj => ?_
  · have w : w64 ((a : Int) + ((N - a : Nat) : Int)) = (N : Int) := by rw [w64_id (by omega) (by omega)]; omega
    by_cases hN : N = s.size
    · refine rT_sem dgG_ok noLoopsS ((rT_go dg_e1 ?_).trans ?_)
      · try simp only [Int.toNat_natCast, Nat.zero_add, w]
        repeat' (first | exact AllT.nil | refine AllT.cons ?_ ?_)
        all_goals first | (with_reducible rfl) | (with_reducible assumption) | exact yes_of ⟨rfl, rfl⟩ | exact decide_eq_true (by omega) | exact beq_iff_eq.2 (by omega) | (simp; done) | (simp; omega)
      · try simp only [Int.toNat_natCast, Nat.zero_add, w]
        rfl
    · obtain ⟨b0, b1⟩ := bt_lt s N
      have hb : dgc (bt s N) = false := h4.resolve_left (by omega)
      unfold dgc at hb
      by_cases h48 : bt s N ≥ 48
      · rw [decide_eq_true h48, Bool.true_and] at hb
        have hb' : (!decide (bt s N ≤ 57)) = true := by rw [hb]; rfl
        refine rT_sem dgG_ok noLoopsS ((rT_go dg_e3 ?_).trans ?_)
        · try simp only [Int.toNat_natCast, Nat.zero_add, w]
          repeat' (first | exact AllT.nil | refine AllT.cons ?_ ?_)
          all_goals first | (with_reducible rfl) | (with_reducible assumption) | exact yes_of ⟨rfl, rfl⟩ | exact decide_eq_true (by omega) | exact beq_iff_eq.2 (by omega) | (simp; done) | (simp; omega)
        · try simp only [Int.toNat_natCast, Nat.zero_add, w]
          rfl
      · refine rT_sem dgG_ok noLoopsS ((rT_go dg_e2 ?_).trans ?_)
        · try simp only [Int.toNat_natCast, Nat.zero_add, w]
          repeat' (first | exact AllT.nil | refine AllT.cons ?_ ?_)
          all_goals first | (with_reducible rfl) | (with_reducible assumption) | exact yes_of ⟨rfl, rfl⟩ | exact decide_eq_true (by omega) | exact beq_iff_eq.2 (by omega) | (simp; done) | (simp; omega)
        · try simp only [Int.toNat_natCast, Nat.zero_add, w]
          rfl
  · have e3 := succ64 (j := j) (by omega)
    have w : w64 ((a : Int) + (j : Int)) = ((a + j : Nat) : Int) := by rw [w64_id (by omega) (by omega)]; omega
    obtain ⟨b0, b1⟩ := bt_lt s (a + j : Nat)
    have hb := h3 (a + j) (by omega) (by omega)
    simp only [dgc, Bool.and_eq_true] at hb
    obtain ⟨hb1, hb2⟩ := hb
    refine rT_sem dgG_ok noLoopsS ((rT_go dg_go ?_).trans ?_)
    · try simp only [Int.toNat_natCast, Nat.zero_add, e3, w]
      repeat' (first | exact AllT.nil | refine AllT.cons ?_ ?_)
      all_goals first | (with_reducible rfl) | (with_reducible assumption) | exact yes_of ⟨rfl, rfl⟩ | exact decide_eq_true (by omega) | exact beq_iff_eq.2 (by omega) | (simp; done) | (simp; omega)
    · try simp only [Int.toNat_natCast, Nat.zero_add, e3, w]
      rfl
noncomputable def dgF : Spec := fun args h => match args, h with
  | [.c (.v (.string s)), .c (.v (.int .i64 a))], [] => .need (yes (s.size < 2 ^ 40 ∧ 0 ≤ a ∧ a ≤ s.size)) (.ret (I64 (dgN s a.toNat : Nat), []))
  | _, _ => .fail
theorem dgF_ok : SpecOk Try.prog 183 dgF := by
  refine knownS nilK Try.func183 fun args h r he => ?_
  unfold dgF at he
  split at he
  · rename_i s a
    obtain ⟨⟨h1, h2, h3⟩, he⟩ := Tr.eval_ask.1 he
    cases he
    obtain ⟨n, rfl⟩ := Int.eq_ofNat_of_zero_le h2
    exact ⟨_, [], 60, _, tell_ok (dg_loop h1 (by omega)), Tr.go_eval dg_w ⟨yes_of ⟨rfl, rfl⟩, trivial⟩⟩
  · cases he
noncomputable def KNU : Known := [(183, dgF)]
theorem KNU_ok : KnownOk KNU := consK dgF_ok (by kernel_rfl) nilK
abbrev nuK1 : List (Nat × Option TypeId) := [(0,none),(2,none),(9,none),(10,none),(11,none),(12,none),(13,none)]
abbrev nuK2 : List (Nat × Option TypeId) := [(0,none),(2,none),(9,none),(10,none),(12,none),(14,none),(15,none)]
abbrev nuK3 : List (Nat × Option TypeId) := [(0,none),(2,none),(9,none),(10,none),(12,none),(16,none)]
noncomputable def numG : Ctx2 := GT KNU (fun k => if k = 10 then nuK1 else if k = 20 then nuK2 else if k = 25 then nuK3 else []) 0 []
theorem numG_ok : XOk numG := GT_ok KNU_ok _ _ _
def nu1 (s : ByteArray) (be : Int) (ng : Bool) (a n v i : Int) : St := ⟨slots 110 [(0, StrA s), (2, I64 be), (9, Bo ng), (10, I64 a), (11, I64 n), (12, I64 v), (13, I64 i)], []⟩
def nu2 (s : ByteArray) (be : Int) (ng : Bool) (a v k i : Int) : St := ⟨slots 110 [(0, StrA s), (2, I64 be), (9, Bo ng), (10, I64 a), (12, I64 v), (14, I64 k), (15, I64 i)], []⟩
def nu3 (s : ByteArray) (be : Int) (ng : Bool) (a v i : Int) : St := ⟨slots 110 [(0, StrA s), (2, I64 be), (9, Bo ng), (10, I64 a), (12, I64 v), (16, I64 i)], []⟩
theorem nu1_go {s : ByteArray} {be : Int} {ng : Bool} {a n v i : Int} : (rT numG nol 0 49 (bodyOf Try.f181 0) nuK1 nuK1 (nu1 s be ng a n v i)).go [] = some ([decide (i < n), decide ((0 : Int) ≤ w64 (a + i)), decide (w64 (a + i) < ((s.size : Nat) : Int))], Ex.normal, { sl := slots 110 [(0, .c (.v (.string s))), (2, I64 be), (9, Bo ng), (10, I64 a), (11, I64 n), (12, I64 (w64 (w64 ((10 : Int) * v) + w64 (IntKind.u8.wrap (bt s (w64 (a + i)) - (48 : Int)))))), (13, I64 (w64 (i + (1 : Int))))], h := [] }) := by kernel_rfl
theorem nu1_e {s : ByteArray} {be : Int} {ng : Bool} {a n v i : Int} : (rT numG nol 0 49 (bodyOf Try.f181 0) nuK1 nuK1 (nu1 s be ng a n v i)).go [false] = some ([!decide (i < n)], Ex.exit 0, { sl := slots 110 [(0, .c (.v (.string s))), (2, I64 be), (9, Bo ng), (10, I64 a), (11, I64 n), (12, I64 v), (13, I64 i)], h := [] }) := by kernel_rfl
theorem nu2_go {s : ByteArray} {be : Int} {ng : Bool} {a v k i : Int} : (rT numG nol 0 41 (bodyOf Try.f181 1) nuK2 nuK2 (nu2 s be ng a v k i)).go [] = some ([decide (i < k), decide ((0 : Int) ≤ w64 (w64 (a + (1 : Int)) + i)), decide (w64 (w64 (a + (1 : Int)) + i) < ((s.size : Nat) : Int))], Ex.normal, { sl := slots 110 [(0, .c (.v (.string s))), (2, I64 be), (9, Bo ng), (10, I64 a), (12, I64 (w64 (w64 ((10 : Int) * v) + w64 (IntKind.u8.wrap (bt s (w64 (w64 (a + (1 : Int)) + i)) - (48 : Int)))))), (14, I64 k), (15, I64 (w64 (i + (1 : Int))))], h := [] }) := by kernel_rfl
theorem nu2_e {s : ByteArray} {be : Int} {ng : Bool} {a v k i : Int} : (rT numG nol 0 41 (bodyOf Try.f181 1) nuK2 nuK2 (nu2 s be ng a v k i)).go [false] = some ([!decide (i < k)], Ex.exit 2, { sl := slots 110 [(0, .c (.v (.string s))), (2, I64 be), (9, Bo ng), (10, I64 a), (12, I64 v), (14, I64 k), (15, I64 i)], h := [] }) := by kernel_rfl
theorem nu3_go {s : ByteArray} {be : Int} {ng : Bool} {a v i : Int} : (rT numG nol 0 45 (bodyOf Try.f181 2) nuK3 nuK3 (nu3 s be ng a v i)).go [] = some ([decide (i < be)], Ex.normal, { sl := slots 110 [(0, .c (.v (.string s))), (2, I64 be), (9, Bo ng), (10, I64 a), (12, I64 (w64 ((10 : Int) * v))), (16, I64 (w64 (i + (1 : Int))))], h := [] }) := by kernel_rfl
theorem nu3_e {s : ByteArray} {be : Int} {ng : Bool} {a v i : Int} : (rT numG nol 0 45 (bodyOf Try.f181 2) nuK3 nuK3 (nu3 s be ng a v i)).go [false] = some ([!decide (i < be)], Ex.exit 4, { sl := slots 110 [(0, .c (.v (.string s))), (2, I64 be), (9, Bo ng), (10, I64 a), (12, I64 v), (16, I64 i)], h := [] }) := by kernel_rfl
end
section
open Go Go.RowKit
theorem np_b1 {s : ByteArray} {ah be v1 v2 v3 z1 z2 z3 : Int} : (lfun numG nol 60 Try.f181 [StrA s, I64 ah, I64 be] []).go [] = some ([decide (((s.size : Nat) : Int) > (0 : Int)), true, true, decide ((0 : Int) < ((s.size : Nat) : Int)), true, true, bt s (0 : Int) == (45 : Int), yes (s.size < 2 ^ 40 ∧ (0 : Int) ≤ (1 : Int) ∧ (1 : Int) ≤ ((s.size : Nat) : Int)), decide (((dgN s 1 : Nat) : Int) < (1 : Int)), true, true, true, true], .tup [I64 0, .c (.v (.string { data := #[] })), Bo false], []) := by kernel_rfl
theorem np_b2 {s : ByteArray} {ah be v1 v2 v3 z1 z2 z3 : Int} : (lfun numG nol 60 Try.f181 [StrA s, I64 ah, I64 be] []).go [true, true, true, true, true, true, true, true, false, false, false, false] = some ([decide (((s.size : Nat) : Int) > (0 : Int)), true, true, decide ((0 : Int) < ((s.size : Nat) : Int)), true, true, bt s (0 : Int) == (45 : Int), yes (s.size < 2 ^ 40 ∧ (0 : Int) ≤ (1 : Int) ∧ (1 : Int) ≤ ((s.size : Nat) : Int)), !decide (((dgN s 1 : Nat) : Int) < (1 : Int)), true, true, true, decide (((dgN s 1 : Nat) : Int) > ah)], .tup [I64 0, .c (.v (.string { data := #[] })), Bo false], []) := by kernel_rfl
theorem np_d1 {s : ByteArray} {ah be v1 v2 v3 z1 z2 z3 : Int} : (lfun numG (byReg 10 (tell (bodyOf Try.f181 0) (nu1 s be (bt s 0 == 45) 1 ((dgN s (1 : Int).toNat : Nat) : Int) 0 0) (.exit 0, (nu1 s be (bt s 0 == 45) 1 ((dgN s (1 : Int).toNat : Nat) : Int) v1 z1))) (tell (bodyOf Try.f181 2) (nu3 s be (bt s 0 == 45) (w64 (1 + ((dgN s (1 : Int).toNat : Nat) : Int))) v1 0) (.exit 4, (nu3 s be (bt s 0 == 45) (w64 (1 + ((dgN s (1 : Int).toNat : Nat) : Int))) v3 z3)))) 60 Try.f181 [StrA s, I64 ah, I64 be] []).go [true, true, true, true, true, true, true, true, false, false, false, false, false, true, false, false, false, false, false, false] = some ([decide (((s.size : Nat) : Int) > (0 : Int)), true, true, decide ((0 : Int) < ((s.size : Nat) : Int)), true, true, bt s (0 : Int) == (45 : Int), yes (s.size < 2 ^ 40 ∧ (0 : Int) ≤ (1 : Int) ∧ (1 : Int) ≤ ((s.size : Nat) : Int)), !decide (((dgN s 1 : Nat) : Int) < (1 : Int)), true, true, true, !decide (((dgN s 1 : Nat) : Int) > ah), yes (wasS (bodyOf Try.f181 0) (nu1 s be (bt s 0 == 45) 1 ((dgN s (1 : Int).toNat : Nat) : Int) 0 0)), !decide (w64 ((1 : Int) + ((dgN s 1 : Nat) : Int)) < ((s.size : Nat) : Int)), true, true, true, true, true, yes (wasS (bodyOf Try.f181 2) (nu3 s be (bt s 0 == 45) (w64 (1 + ((dgN s (1 : Int).toNat : Nat) : Int))) v1 0)), bt s (0 : Int) == (45 : Int), decInt (w64 ((1 : Int) + ((dgN s 1 : Nat) : Int))) (((s.size : Nat) : Int)) s.size], .tup [I64 (w64 ((0 : Int) - v3)), .c (.v (.string (s.extract (w64 ((1 : Int) + ((dgN s 1 : Nat) : Int))).toNat s.size))), Bo true], []) := by kernel_rfl
theorem np_d2 {s : ByteArray} {ah be v1 v2 v3 z1 z2 z3 : Int} : (lfun numG (byReg 10 (tell (bodyOf Try.f181 0) (nu1 s be (bt s 0 == 45) 1 ((dgN s (1 : Int).toNat : Nat) : Int) 0 0) (.exit 0, (nu1 s be (bt s 0 == 45) 1 ((dgN s (1 : Int).toNat : Nat) : Int) v1 z1))) (tell (bodyOf Try.f181 2) (nu3 s be (bt s 0 == 45) (w64 (1 + ((dgN s (1 : Int).toNat : Nat) : Int))) v1 0) (.exit 4, (nu3 s be (bt s 0 == 45) (w64 (1 + ((dgN s (1 : Int).toNat : Nat) : Int))) v3 z3)))) 60 Try.f181 [StrA s, I64 ah, I64 be] []).go [true, true, true, true, true, true, true, true, false, false, false, false, false, true, true, true, true, true, true, true, true, false] = some ([decide (((s.size : Nat) : Int) > (0 : Int)), true, true, decide ((0 : Int) < ((s.size : Nat) : Int)), true, true, bt s (0 : Int) == (45 : Int), yes (s.size < 2 ^ 40 ∧ (0 : Int) ≤ (1 : Int) ∧ (1 : Int) ≤ ((s.size : Nat) : Int)), !decide (((dgN s 1 : Nat) : Int) < (1 : Int)), true, true, true, !decide (((dgN s 1 : Nat) : Int) > ah), yes (wasS (bodyOf Try.f181 0) (nu1 s be (bt s 0 == 45) 1 ((dgN s (1 : Int).toNat : Nat) : Int) 0 0)), decide (w64 ((1 : Int) + ((dgN s 1 : Nat) : Int)) < ((s.size : Nat) : Int)), true, true, decide ((0 : Int) ≤ w64 ((1 : Int) + ((dgN s 1 : Nat) : Int))), decide (w64 ((1 : Int) + ((dgN s 1 : Nat) : Int)) < ((s.size : Nat) : Int)), true, true, !bt s (w64 ((1 : Int) + ((dgN s 1 : Nat) : Int))) == (46 : Int), yes (wasS (bodyOf Try.f181 2) (nu3 s be (bt s 0 == 45) (w64 (1 + ((dgN s (1 : Int).toNat : Nat) : Int))) v1 0)), bt s (0 : Int) == (45 : Int), decInt (w64 ((1 : Int) + ((dgN s 1 : Nat) : Int))) (((s.size : Nat) : Int)) s.size], .tup [I64 (w64 ((0 : Int) - v3)), .c (.v (.string (s.extract (w64 ((1 : Int) + ((dgN s 1 : Nat) : Int))).toNat s.size))), Bo true], []) := by kernel_rfl
theorem np_k1 {s : ByteArray} {ah be v1 v2 v3 z1 z2 z3 : Int} : (lfun numG (byReg 10 (tell (bodyOf Try.f181 0) (nu1 s be (bt s 0 == 45) 1 ((dgN s (1 : Int).toNat : Nat) : Int) 0 0) (.exit 0, (nu1 s be (bt s 0 == 45) 1 ((dgN s (1 : Int).toNat : Nat) : Int) v1 z1))) (tell (bodyOf Try.f181 2) (nu3 s be (bt s 0 == 45) (w64 (1 + ((dgN s (1 : Int).toNat : Nat) : Int))) v1 0) (.exit 4, (nu3 s be (bt s 0 == 45) (w64 (1 + ((dgN s (1 : Int).toNat : Nat) : Int))) v3 z3)))) 60 Try.f181 [StrA s, I64 ah, I64 be] []).go [true, true, true, true, true, true, true, true, false, false, false, false, false] = some ([decide (((s.size : Nat) : Int) > (0 : Int)), true, true, decide ((0 : Int) < ((s.size : Nat) : Int)), true, true, bt s (0 : Int) == (45 : Int), yes (s.size < 2 ^ 40 ∧ (0 : Int) ≤ (1 : Int) ∧ (1 : Int) ≤ ((s.size : Nat) : Int)), !decide (((dgN s 1 : Nat) : Int) < (1 : Int)), true, true, true, !decide (((dgN s 1 : Nat) : Int) > ah), yes (wasS (bodyOf Try.f181 0) (nu1 s be (bt s 0 == 45) 1 ((dgN s (1 : Int).toNat : Nat) : Int) 0 0)), decide (w64 ((1 : Int) + ((dgN s 1 : Nat) : Int)) < ((s.size : Nat) : Int)), true, true, decide ((0 : Int) ≤ w64 ((1 : Int) + ((dgN s 1 : Nat) : Int))), decide (w64 ((1 : Int) + ((dgN s 1 : Nat) : Int)) < ((s.size : Nat) : Int)), true, true, bt s (w64 ((1 : Int) + ((dgN s 1 : Nat) : Int))) == (46 : Int), yes (s.size < 2 ^ 40 ∧ (0 : Int) ≤ w64 (w64 ((1 : Int) + ((dgN s 1 : Nat) : Int)) + (1 : Int)) ∧ w64 (w64 ((1 : Int) + ((dgN s 1 : Nat) : Int)) + (1 : Int)) ≤ ((s.size : Nat) : Int)), decide (((dgN s (w64 (w64 ((1 : Int) + ((dgN s 1 : Nat) : Int)) + (1 : Int))).toNat : Nat) : Int) < (1 : Int)), true, true, true, true], .tup [I64 0, .c (.v (.string { data := #[] })), Bo false], []) := by kernel_rfl
theorem np_k2 {s : ByteArray} {ah be v1 v2 v3 z1 z2 z3 : Int} : (lfun numG (byReg 10 (tell (bodyOf Try.f181 0) (nu1 s be (bt s 0 == 45) 1 ((dgN s (1 : Int).toNat : Nat) : Int) 0 0) (.exit 0, (nu1 s be (bt s 0 == 45) 1 ((dgN s (1 : Int).toNat : Nat) : Int) v1 z1))) (tell (bodyOf Try.f181 2) (nu3 s be (bt s 0 == 45) (w64 (1 + ((dgN s (1 : Int).toNat : Nat) : Int))) v1 0) (.exit 4, (nu3 s be (bt s 0 == 45) (w64 (1 + ((dgN s (1 : Int).toNat : Nat) : Int))) v3 z3)))) 60 Try.f181 [StrA s, I64 ah, I64 be] []).go [true, true, true, true, true, true, true, true, false, false, false, false, false, true, true, true, true, true, true, true, true, true, true, false, false, false, false] = some ([decide (((s.size : Nat) : Int) > (0 : Int)), true, true, decide ((0 : Int) < ((s.size : Nat) : Int)), true, true, bt s (0 : Int) == (45 : Int), yes (s.size < 2 ^ 40 ∧ (0 : Int) ≤ (1 : Int) ∧ (1 : Int) ≤ ((s.size : Nat) : Int)), !decide (((dgN s 1 : Nat) : Int) < (1 : Int)), true, true, true, !decide (((dgN s 1 : Nat) : Int) > ah), yes (wasS (bodyOf Try.f181 0) (nu1 s be (bt s 0 == 45) 1 ((dgN s (1 : Int).toNat : Nat) : Int) 0 0)), decide (w64 ((1 : Int) + ((dgN s 1 : Nat) : Int)) < ((s.size : Nat) : Int)), true, true, decide ((0 : Int) ≤ w64 ((1 : Int) + ((dgN s 1 : Nat) : Int))), decide (w64 ((1 : Int) + ((dgN s 1 : Nat) : Int)) < ((s.size : Nat) : Int)), true, true, bt s (w64 ((1 : Int) + ((dgN s 1 : Nat) : Int))) == (46 : Int), yes (s.size < 2 ^ 40 ∧ (0 : Int) ≤ w64 (w64 ((1 : Int) + ((dgN s 1 : Nat) : Int)) + (1 : Int)) ∧ w64 (w64 ((1 : Int) + ((dgN s 1 : Nat) : Int)) + (1 : Int)) ≤ ((s.size : Nat) : Int)), !decide (((dgN s (w64 (w64 ((1 : Int) + ((dgN s 1 : Nat) : Int)) + (1 : Int))).toNat : Nat) : Int) < (1 : Int)), true, true, true, decide (((dgN s (w64 (w64 ((1 : Int) + ((dgN s 1 : Nat) : Int)) + (1 : Int))).toNat : Nat) : Int) > be)], .tup [I64 0, .c (.v (.string { data := #[] })), Bo false], []) := by kernel_rfl
theorem np_ok {s : ByteArray} {ah be v1 v2 v3 z1 z2 z3 : Int} : (lfun numG (byReg 10 (tell (bodyOf Try.f181 0) (nu1 s be (bt s 0 == 45) 1 ((dgN s (1 : Int).toNat : Nat) : Int) 0 0) (.exit 0, (nu1 s be (bt s 0 == 45) 1 ((dgN s (1 : Int).toNat : Nat) : Int) v1 z1))) (byReg 20 (tell (bodyOf Try.f181 1) (nu2 s be (bt s 0 == 45) (w64 (1 + ((dgN s (1 : Int).toNat : Nat) : Int))) v1 ((dgN s (w64 ((w64 (1 + ((dgN s (1 : Int).toNat : Nat) : Int))) + 1)).toNat : Nat) : Int) 0) (.exit 2, (nu2 s be (bt s 0 == 45) (w64 (1 + ((dgN s (1 : Int).toNat : Nat) : Int))) v2 ((dgN s (w64 ((w64 (1 + ((dgN s (1 : Int).toNat : Nat) : Int))) + 1)).toNat : Nat) : Int) z2))) (tell (bodyOf Try.f181 2) (nu3 s be (bt s 0 == 45) (w64 (w64 ((w64 (1 + ((dgN s (1 : Int).toNat : Nat) : Int))) + 1) + ((dgN s (w64 ((w64 (1 + ((dgN s (1 : Int).toNat : Nat) : Int))) + 1)).toNat : Nat) : Int))) v2 ((dgN s (w64 ((w64 (1 + ((dgN s (1 : Int).toNat : Nat) : Int))) + 1)).toNat : Nat) : Int)) (.exit 4, (nu3 s be (bt s 0 == 45) (w64 (w64 ((w64 (1 + ((dgN s (1 : Int).toNat : Nat) : Int))) + 1) + ((dgN s (w64 ((w64 (1 + ((dgN s (1 : Int).toNat : Nat) : Int))) + 1)).toNat : Nat) : Int))) v3 z3))))) 60 Try.f181 [StrA s, I64 ah, I64 be] []).go [true, true, true, true, true, true, true, true, false, false, false, false, false, true, true, true, true, true, true, true, true, true, true, false, false, false, false, false] = some ([decide (((s.size : Nat) : Int) > (0 : Int)), true, true, decide ((0 : Int) < ((s.size : Nat) : Int)), true, true, bt s (0 : Int) == (45 : Int), yes (s.size < 2 ^ 40 ∧ (0 : Int) ≤ (1 : Int) ∧ (1 : Int) ≤ ((s.size : Nat) : Int)), !decide (((dgN s 1 : Nat) : Int) < (1 : Int)), true, true, true, !decide (((dgN s 1 : Nat) : Int) > ah), yes (wasS (bodyOf Try.f181 0) (nu1 s be (bt s 0 == 45) 1 ((dgN s (1 : Int).toNat : Nat) : Int) 0 0)), decide (w64 ((1 : Int) + ((dgN s 1 : Nat) : Int)) < ((s.size : Nat) : Int)), true, true, decide ((0 : Int) ≤ w64 ((1 : Int) + ((dgN s 1 : Nat) : Int))), decide (w64 ((1 : Int) + ((dgN s 1 : Nat) : Int)) < ((s.size : Nat) : Int)), true, true, bt s (w64 ((1 : Int) + ((dgN s 1 : Nat) : Int))) == (46 : Int), yes (s.size < 2 ^ 40 ∧ (0 : Int) ≤ w64 (w64 ((1 : Int) + ((dgN s 1 : Nat) : Int)) + (1 : Int)) ∧ w64 (w64 ((1 : Int) + ((dgN s 1 : Nat) : Int)) + (1 : Int)) ≤ ((s.size : Nat) : Int)), !decide (((dgN s (w64 (w64 ((1 : Int) + ((dgN s 1 : Nat) : Int)) + (1 : Int))).toNat : Nat) : Int) < (1 : Int)), true, true, true, !decide (((dgN s (w64 (w64 ((1 : Int) + ((dgN s 1 : Nat) : Int)) + (1 : Int))).toNat : Nat) : Int) > be), yes (wasS (bodyOf Try.f181 1) (nu2 s be (bt s 0 == 45) (w64 (1 + ((dgN s (1 : Int).toNat : Nat) : Int))) v1 ((dgN s (w64 ((w64 (1 + ((dgN s (1 : Int).toNat : Nat) : Int))) + 1)).toNat : Nat) : Int) 0)), yes (wasS (bodyOf Try.f181 2) (nu3 s be (bt s 0 == 45) (w64 (w64 ((w64 (1 + ((dgN s (1 : Int).toNat : Nat) : Int))) + 1) + ((dgN s (w64 ((w64 (1 + ((dgN s (1 : Int).toNat : Nat) : Int))) + 1)).toNat : Nat) : Int))) v2 ((dgN s (w64 ((w64 (1 + ((dgN s (1 : Int).toNat : Nat) : Int))) + 1)).toNat : Nat) : Int))), bt s (0 : Int) == (45 : Int), decInt (w64 (w64 (w64 ((1 : Int) + ((dgN s 1 : Nat) : Int)) + (1 : Int)) + ((dgN s (w64 (w64 ((1 : Int) + ((dgN s 1 : Nat) : Int)) + (1 : Int))).toNat : Nat) : Int))) (((s.size : Nat) : Int)) s.size], .tup [I64 (w64 ((0 : Int) - v3)), .c (.v (.string (s.extract (w64 (w64 (w64 ((1 : Int) + ((dgN s 1 : Nat) : Int)) + (1 : Int)) + ((dgN s (w64 (w64 ((1 : Int) + ((dgN s 1 : Nat) : Int)) + (1 : Int))).toNat : Nat) : Int))).toNat s.size))), Bo true], []) := by kernel_rfl
theorem nn_b1 {s : ByteArray} {ah be v1 v2 v3 z1 z2 z3 : Int} : (lfun numG nol 60 Try.f181 [StrA s, I64 ah, I64 be] []).go [true, true, true, true, true, true, false] = some ([decide (((s.size : Nat) : Int) > (0 : Int)), true, true, decide ((0 : Int) < ((s.size : Nat) : Int)), true, true, !bt s (0 : Int) == (45 : Int), yes (s.size < 2 ^ 40 ∧ (0 : Int) ≤ (0 : Int) ∧ (0 : Int) ≤ ((s.size : Nat) : Int)), decide (((dgN s 0 : Nat) : Int) < (1 : Int)), true, true, true, true], .tup [I64 0, .c (.v (.string { data := #[] })), Bo false], []) := by kernel_rfl
theorem nn_b2 {s : ByteArray} {ah be v1 v2 v3 z1 z2 z3 : Int} : (lfun numG nol 60 Try.f181 [StrA s, I64 ah, I64 be] []).go [true, true, true, true, true, true, false, true, false, false, false, false] = some ([decide (((s.size : Nat) : Int) > (0 : Int)), true, true, decide ((0 : Int) < ((s.size : Nat) : Int)), true, true, !bt s (0 : Int) == (45 : Int), yes (s.size < 2 ^ 40 ∧ (0 : Int) ≤ (0 : Int) ∧ (0 : Int) ≤ ((s.size : Nat) : Int)), !decide (((dgN s 0 : Nat) : Int) < (1 : Int)), true, true, true, decide (((dgN s 0 : Nat) : Int) > ah)], .tup [I64 0, .c (.v (.string { data := #[] })), Bo false], []) := by kernel_rfl
theorem nn_d1 {s : ByteArray} {ah be v1 v2 v3 z1 z2 z3 : Int} : (lfun numG (byReg 10 (tell (bodyOf Try.f181 0) (nu1 s be (bt s 0 == 45) 0 ((dgN s (0 : Int).toNat : Nat) : Int) 0 0) (.exit 0, (nu1 s be (bt s 0 == 45) 0 ((dgN s (0 : Int).toNat : Nat) : Int) v1 z1))) (tell (bodyOf Try.f181 2) (nu3 s be (bt s 0 == 45) (w64 (0 + ((dgN s (0 : Int).toNat : Nat) : Int))) v1 0) (.exit 4, (nu3 s be (bt s 0 == 45) (w64 (0 + ((dgN s (0 : Int).toNat : Nat) : Int))) v3 z3)))) 60 Try.f181 [StrA s, I64 ah, I64 be] []).go [true, true, true, true, true, true, false, true, false, false, false, false, false, true, false, false, false, false, false, false, true, false] = some ([decide (((s.size : Nat) : Int) > (0 : Int)), true, true, decide ((0 : Int) < ((s.size : Nat) : Int)), true, true, !bt s (0 : Int) == (45 : Int), yes (s.size < 2 ^ 40 ∧ (0 : Int) ≤ (0 : Int) ∧ (0 : Int) ≤ ((s.size : Nat) : Int)), !decide (((dgN s 0 : Nat) : Int) < (1 : Int)), true, true, true, !decide (((dgN s 0 : Nat) : Int) > ah), yes (wasS (bodyOf Try.f181 0) (nu1 s be (bt s 0 == 45) 0 ((dgN s (0 : Int).toNat : Nat) : Int) 0 0)), !decide (w64 ((0 : Int) + ((dgN s 0 : Nat) : Int)) < ((s.size : Nat) : Int)), true, true, true, true, true, yes (wasS (bodyOf Try.f181 2) (nu3 s be (bt s 0 == 45) (w64 (0 + ((dgN s (0 : Int).toNat : Nat) : Int))) v1 0)), !bt s (0 : Int) == (45 : Int), decInt (w64 ((0 : Int) + ((dgN s 0 : Nat) : Int))) (((s.size : Nat) : Int)) s.size], .tup [I64 v3, .c (.v (.string (s.extract (w64 ((0 : Int) + ((dgN s 0 : Nat) : Int))).toNat s.size))), Bo true], []) := by kernel_rfl
theorem nn_d2 {s : ByteArray} {ah be v1 v2 v3 z1 z2 z3 : Int} : (lfun numG (byReg 10 (tell (bodyOf Try.f181 0) (nu1 s be (bt s 0 == 45) 0 ((dgN s (0 : Int).toNat : Nat) : Int) 0 0) (.exit 0, (nu1 s be (bt s 0 == 45) 0 ((dgN s (0 : Int).toNat : Nat) : Int) v1 z1))) (tell (bodyOf Try.f181 2) (nu3 s be (bt s 0 == 45) (w64 (0 + ((dgN s (0 : Int).toNat : Nat) : Int))) v1 0) (.exit 4, (nu3 s be (bt s 0 == 45) (w64 (0 + ((dgN s (0 : Int).toNat : Nat) : Int))) v3 z3)))) 60 Try.f181 [StrA s, I64 ah, I64 be] []).go [true, true, true, true, true, true, false, true, false, false, false, false, false, true, true, true, true, true, true, true, true, false, true, false] = some ([decide (((s.size : Nat) : Int) > (0 : Int)), true, true, decide ((0 : Int) < ((s.size : Nat) : Int)), true, true, !bt s (0 : Int) == (45 : Int), yes (s.size < 2 ^ 40 ∧ (0 : Int) ≤ (0 : Int) ∧ (0 : Int) ≤ ((s.size : Nat) : Int)), !decide (((dgN s 0 : Nat) : Int) < (1 : Int)), true, true, true, !decide (((dgN s 0 : Nat) : Int) > ah), yes (wasS (bodyOf Try.f181 0) (nu1 s be (bt s 0 == 45) 0 ((dgN s (0 : Int).toNat : Nat) : Int) 0 0)), decide (w64 ((0 : Int) + ((dgN s 0 : Nat) : Int)) < ((s.size : Nat) : Int)), true, true, decide ((0 : Int) ≤ w64 ((0 : Int) + ((dgN s 0 : Nat) : Int))), decide (w64 ((0 : Int) + ((dgN s 0 : Nat) : Int)) < ((s.size : Nat) : Int)), true, true, !bt s (w64 ((0 : Int) + ((dgN s 0 : Nat) : Int))) == (46 : Int), yes (wasS (bodyOf Try.f181 2) (nu3 s be (bt s 0 == 45) (w64 (0 + ((dgN s (0 : Int).toNat : Nat) : Int))) v1 0)), !bt s (0 : Int) == (45 : Int), decInt (w64 ((0 : Int) + ((dgN s 0 : Nat) : Int))) (((s.size : Nat) : Int)) s.size], .tup [I64 v3, .c (.v (.string (s.extract (w64 ((0 : Int) + ((dgN s 0 : Nat) : Int))).toNat s.size))), Bo true], []) := by kernel_rfl
theorem nn_k1 {s : ByteArray} {ah be v1 v2 v3 z1 z2 z3 : Int} : (lfun numG (byReg 10 (tell (bodyOf Try.f181 0) (nu1 s be (bt s 0 == 45) 0 ((dgN s (0 : Int).toNat : Nat) : Int) 0 0) (.exit 0, (nu1 s be (bt s 0 == 45) 0 ((dgN s (0 : Int).toNat : Nat) : Int) v1 z1))) (tell (bodyOf Try.f181 2) (nu3 s be (bt s 0 == 45) (w64 (0 + ((dgN s (0 : Int).toNat : Nat) : Int))) v1 0) (.exit 4, (nu3 s be (bt s 0 == 45) (w64 (0 + ((dgN s (0 : Int).toNat : Nat) : Int))) v3 z3)))) 60 Try.f181 [StrA s, I64 ah, I64 be] []).go [true, true, true, true, true, true, false, true, false, false, false, false, false] = some ([decide (((s.size : Nat) : Int) > (0 : Int)), true, true, decide ((0 : Int) < ((s.size : Nat) : Int)), true, true, !bt s (0 : Int) == (45 : Int), yes (s.size < 2 ^ 40 ∧ (0 : Int) ≤ (0 : Int) ∧ (0 : Int) ≤ ((s.size : Nat) : Int)), !decide (((dgN s 0 : Nat) : Int) < (1 : Int)), true, true, true, !decide (((dgN s 0 : Nat) : Int) > ah), yes (wasS (bodyOf Try.f181 0) (nu1 s be (bt s 0 == 45) 0 ((dgN s (0 : Int).toNat : Nat) : Int) 0 0)), decide (w64 ((0 : Int) + ((dgN s 0 : Nat) : Int)) < ((s.size : Nat) : Int)), true, true, decide ((0 : Int) ≤ w64 ((0 : Int) + ((dgN s 0 : Nat) : Int))), decide (w64 ((0 : Int) + ((dgN s 0 : Nat) : Int)) < ((s.size : Nat) : Int)), true, true, bt s (w64 ((0 : Int) + ((dgN s 0 : Nat) : Int))) == (46 : Int), yes (s.size < 2 ^ 40 ∧ (0 : Int) ≤ w64 (w64 ((0 : Int) + ((dgN s 0 : Nat) : Int)) + (1 : Int)) ∧ w64 (w64 ((0 : Int) + ((dgN s 0 : Nat) : Int)) + (1 : Int)) ≤ ((s.size : Nat) : Int)), decide (((dgN s (w64 (w64 ((0 : Int) + ((dgN s 0 : Nat) : Int)) + (1 : Int))).toNat : Nat) : Int) < (1 : Int)), true, true, true, true], .tup [I64 0, .c (.v (.string { data := #[] })), Bo false], []) := by kernel_rfl
theorem nn_k2 {s : ByteArray} {ah be v1 v2 v3 z1 z2 z3 : Int} : (lfun numG (byReg 10 (tell (bodyOf Try.f181 0) (nu1 s be (bt s 0 == 45) 0 ((dgN s (0 : Int).toNat : Nat) : Int) 0 0) (.exit 0, (nu1 s be (bt s 0 == 45) 0 ((dgN s (0 : Int).toNat : Nat) : Int) v1 z1))) (tell (bodyOf Try.f181 2) (nu3 s be (bt s 0 == 45) (w64 (0 + ((dgN s (0 : Int).toNat : Nat) : Int))) v1 0) (.exit 4, (nu3 s be (bt s 0 == 45) (w64 (0 + ((dgN s (0 : Int).toNat : Nat) : Int))) v3 z3)))) 60 Try.f181 [StrA s, I64 ah, I64 be] []).go [true, true, true, true, true, true, false, true, false, false, false, false, false, true, true, true, true, true, true, true, true, true, true, false, false, false, false] = some ([decide (((s.size : Nat) : Int) > (0 : Int)), true, true, decide ((0 : Int) < ((s.size : Nat) : Int)), true, true, !bt s (0 : Int) == (45 : Int), yes (s.size < 2 ^ 40 ∧ (0 : Int) ≤ (0 : Int) ∧ (0 : Int) ≤ ((s.size : Nat) : Int)), !decide (((dgN s 0 : Nat) : Int) < (1 : Int)), true, true, true, !decide (((dgN s 0 : Nat) : Int) > ah), yes (wasS (bodyOf Try.f181 0) (nu1 s be (bt s 0 == 45) 0 ((dgN s (0 : Int).toNat : Nat) : Int) 0 0)), decide (w64 ((0 : Int) + ((dgN s 0 : Nat) : Int)) < ((s.size : Nat) : Int)), true, true, decide ((0 : Int) ≤ w64 ((0 : Int) + ((dgN s 0 : Nat) : Int))), decide (w64 ((0 : Int) + ((dgN s 0 : Nat) : Int)) < ((s.size : Nat) : Int)), true, true, bt s (w64 ((0 : Int) + ((dgN s 0 : Nat) : Int))) == (46 : Int), yes (s.size < 2 ^ 40 ∧ (0 : Int) ≤ w64 (w64 ((0 : Int) + ((dgN s 0 : Nat) : Int)) + (1 : Int)) ∧ w64 (w64 ((0 : Int) + ((dgN s 0 : Nat) : Int)) + (1 : Int)) ≤ ((s.size : Nat) : Int)), !decide (((dgN s (w64 (w64 ((0 : Int) + ((dgN s 0 : Nat) : Int)) + (1 : Int))).toNat : Nat) : Int) < (1 : Int)), true, true, true, decide (((dgN s (w64 (w64 ((0 : Int) + ((dgN s 0 : Nat) : Int)) + (1 : Int))).toNat : Nat) : Int) > be)], .tup [I64 0, .c (.v (.string { data := #[] })), Bo false], []) := by kernel_rfl
theorem nn_ok {s : ByteArray} {ah be v1 v2 v3 z1 z2 z3 : Int} : (lfun numG (byReg 10 (tell (bodyOf Try.f181 0) (nu1 s be (bt s 0 == 45) 0 ((dgN s (0 : Int).toNat : Nat) : Int) 0 0) (.exit 0, (nu1 s be (bt s 0 == 45) 0 ((dgN s (0 : Int).toNat : Nat) : Int) v1 z1))) (byReg 20 (tell (bodyOf Try.f181 1) (nu2 s be (bt s 0 == 45) (w64 (0 + ((dgN s (0 : Int).toNat : Nat) : Int))) v1 ((dgN s (w64 ((w64 (0 + ((dgN s (0 : Int).toNat : Nat) : Int))) + 1)).toNat : Nat) : Int) 0) (.exit 2, (nu2 s be (bt s 0 == 45) (w64 (0 + ((dgN s (0 : Int).toNat : Nat) : Int))) v2 ((dgN s (w64 ((w64 (0 + ((dgN s (0 : Int).toNat : Nat) : Int))) + 1)).toNat : Nat) : Int) z2))) (tell (bodyOf Try.f181 2) (nu3 s be (bt s 0 == 45) (w64 (w64 ((w64 (0 + ((dgN s (0 : Int).toNat : Nat) : Int))) + 1) + ((dgN s (w64 ((w64 (0 + ((dgN s (0 : Int).toNat : Nat) : Int))) + 1)).toNat : Nat) : Int))) v2 ((dgN s (w64 ((w64 (0 + ((dgN s (0 : Int).toNat : Nat) : Int))) + 1)).toNat : Nat) : Int)) (.exit 4, (nu3 s be (bt s 0 == 45) (w64 (w64 ((w64 (0 + ((dgN s (0 : Int).toNat : Nat) : Int))) + 1) + ((dgN s (w64 ((w64 (0 + ((dgN s (0 : Int).toNat : Nat) : Int))) + 1)).toNat : Nat) : Int))) v3 z3))))) 60 Try.f181 [StrA s, I64 ah, I64 be] []).go [true, true, true, true, true, true, false, true, false, false, false, false, false, true, true, true, true, true, true, true, true, true, true, false, false, false, false, false, true, true, false] = some ([decide (((s.size : Nat) : Int) > (0 : Int)), true, true, decide ((0 : Int) < ((s.size : Nat) : Int)), true, true, !bt s (0 : Int) == (45 : Int), yes (s.size < 2 ^ 40 ∧ (0 : Int) ≤ (0 : Int) ∧ (0 : Int) ≤ ((s.size : Nat) : Int)), !decide (((dgN s 0 : Nat) : Int) < (1 : Int)), true, true, true, !decide (((dgN s 0 : Nat) : Int) > ah), yes (wasS (bodyOf Try.f181 0) (nu1 s be (bt s 0 == 45) 0 ((dgN s (0 : Int).toNat : Nat) : Int) 0 0)), decide (w64 ((0 : Int) + ((dgN s 0 : Nat) : Int)) < ((s.size : Nat) : Int)), true, true, decide ((0 : Int) ≤ w64 ((0 : Int) + ((dgN s 0 : Nat) : Int))), decide (w64 ((0 : Int) + ((dgN s 0 : Nat) : Int)) < ((s.size : Nat) : Int)), true, true, bt s (w64 ((0 : Int) + ((dgN s 0 : Nat) : Int))) == (46 : Int), yes (s.size < 2 ^ 40 ∧ (0 : Int) ≤ w64 (w64 ((0 : Int) + ((dgN s 0 : Nat) : Int)) + (1 : Int)) ∧ w64 (w64 ((0 : Int) + ((dgN s 0 : Nat) : Int)) + (1 : Int)) ≤ ((s.size : Nat) : Int)), !decide (((dgN s (w64 (w64 ((0 : Int) + ((dgN s 0 : Nat) : Int)) + (1 : Int))).toNat : Nat) : Int) < (1 : Int)), true, true, true, !decide (((dgN s (w64 (w64 ((0 : Int) + ((dgN s 0 : Nat) : Int)) + (1 : Int))).toNat : Nat) : Int) > be), yes (wasS (bodyOf Try.f181 1) (nu2 s be (bt s 0 == 45) (w64 (0 + ((dgN s (0 : Int).toNat : Nat) : Int))) v1 ((dgN s (w64 ((w64 (0 + ((dgN s (0 : Int).toNat : Nat) : Int))) + 1)).toNat : Nat) : Int) 0)), yes (wasS (bodyOf Try.f181 2) (nu3 s be (bt s 0 == 45) (w64 (w64 ((w64 (0 + ((dgN s (0 : Int).toNat : Nat) : Int))) + 1) + ((dgN s (w64 ((w64 (0 + ((dgN s (0 : Int).toNat : Nat) : Int))) + 1)).toNat : Nat) : Int))) v2 ((dgN s (w64 ((w64 (0 + ((dgN s (0 : Int).toNat : Nat) : Int))) + 1)).toNat : Nat) : Int))), !bt s (0 : Int) == (45 : Int), decInt (w64 (w64 (w64 ((0 : Int) + ((dgN s 0 : Nat) : Int)) + (1 : Int)) + ((dgN s (w64 (w64 ((0 : Int) + ((dgN s 0 : Nat) : Int)) + (1 : Int))).toNat : Nat) : Int))) (((s.size : Nat) : Int)) s.size], .tup [I64 v3, .c (.v (.string (s.extract (w64 (w64 (w64 ((0 : Int) + ((dgN s 0 : Nat) : Int)) + (1 : Int)) + ((dgN s (w64 (w64 ((0 : Int) + ((dgN s 0 : Nat) : Int)) + (1 : Int))).toNat : Nat) : Int))).toNat s.size))), Bo true], []) := by kernel_rfl
theorem nz {s : ByteArray} {ah be v1 v2 v3 z1 z2 z3 : Int} : (lfun numG nol 60 Try.f181 [StrA s, I64 ah, I64 be] []).go [false, false, false, false, false] = some ([!decide (((s.size : Nat) : Int) > (0 : Int)), true, true, true, true, yes (s.size < 2 ^ 40 ∧ (0 : Int) ≤ (0 : Int) ∧ (0 : Int) ≤ ((s.size : Nat) : Int)), decide (((dgN s 0 : Nat) : Int) < (1 : Int)), true, true, true, true], .tup [I64 0, .c (.v (.string { data := #[] })), Bo false], []) := by kernel_rfl
end
section
open Go Go.RowKit
theorem CodeSem.of_eq' {G : Ctx2} {n0 : Nat} {c : Code} {S S' : St} {r : Ex × St} (e : S = S') (h : CodeSem G n0 c S r) : CodeSem G n0 c S' r := e ▸ h
end
section
open Go Go.RowKit
theorem nu1_loop {s : ByteArray} {be : Int} {ng : Bool} {a n : Nat} (hs : s.size < 2 ^ 40) (ha : a + n ≤ s.size) : ∀ d i v, i + d = n → ∃ v', LoopR numG 0 (bodyOf Try.f181 0) (nu1 s be ng a n v (i : Nat)) (.exit 0, nu1 s be ng a n v' n)
  | 0, i, v, h => ⟨v, by
    rw [show i = n by omega]
    exact LoopR.stop (by simp) (rT_sem numG_ok noLoopsS (rT_go nu1_e ⟨by simp, trivial⟩))⟩
  | d + 1, i, v, h => by
    have e3 := succ64 (j := i) (by omega)
    have w : w64 ((a : Int) + (i : Int)) = ((a + i : Nat) : Int) := by rw [w64_id (by omega) (by omega)]; omega
    obtain ⟨b0, b1⟩ := bt_lt s (a + i : Nat)
    obtain ⟨v', hv⟩ := nu1_loop (be := be) (ng := ng) hs ha d (i + 1) _ (by omega)
    refine ⟨v', LoopR.next ?_ hv⟩
    refine rT_sem numG_ok noLoopsS ((rT_go nu1_go ?_).trans ?_)
    · try simp only [Int.toNat_natCast, Nat.zero_add, e3, w]
      repeat' (first | exact AllT.nil | refine AllT.cons ?_ ?_)
      all_goals first | (with_reducible rfl) | (with_reducible assumption) | exact yes_of ⟨rfl, rfl⟩ | exact decide_eq_true (by omega) | exact beq_iff_eq.2 (by omega) | (simp; done) | (simp; omega)
    · try simp only [Int.toNat_natCast, Nat.zero_add, e3, w]
      rfl
theorem nu2_loop {s : ByteArray} {be : Int} {ng : Bool} {a n : Nat} (hs : s.size < 2 ^ 40) (ha : a + 1 + n ≤ s.size) : ∀ d i v, i + d = n → ∃ v', LoopR numG 0 (bodyOf Try.f181 1) (nu2 s be ng a v n (i : Nat)) (.exit 2, nu2 s be ng a v' n n)
  | 0, i, v, h => ⟨v, by
    rw [show i = n by omega]
    exact LoopR.stop (by simp) (rT_sem numG_ok noLoopsS (rT_go nu2_e ⟨by simp, trivial⟩))⟩
  | d + 1, i, v, h => by
    have e3 := succ64 (j := i) (by omega)
    have w0 : w64 ((a : Int) + 1) = ((a + 1 : Nat) : Int) := succ64 (by omega)
    have w : w64 (((a + 1 : Nat) : Int) + (i : Int)) = ((a + 1 + i : Nat) : Int) := by rw [w64_id (by omega) (by omega)]; omega
    obtain ⟨b0, b1⟩ := bt_lt s (a + 1 + i : Nat)
    obtain ⟨v', hv⟩ := nu2_loop (be := be) (ng := ng) hs ha d (i + 1) _ (by omega)
    refine ⟨v', LoopR.next ?_ hv⟩
    refine rT_sem numG_ok noLoopsS ((rT_go nu2_go ?_).trans ?_)
    · try simp only [Int.toNat_natCast, Nat.zero_add, e3, w0, w]
      repeat' (first | exact AllT.nil | refine AllT.cons ?_ ?_)
      all_goals first | (with_reducible rfl) | (with_reducible assumption) | exact yes_of ⟨rfl, rfl⟩ | exact decide_eq_true (by omega) | exact beq_iff_eq.2 (by omega) | (simp; done) | (simp; omega)
    · try simp only [Int.toNat_natCast, Nat.zero_add, e3, w0, w]
      rfl
theorem nu3_loop {s : ByteArray} {be : Nat} {ng : Bool} {a : Int} (hb : be ≤ 10) : ∀ d i v, i + d = be → ∃ v', LoopR numG 0 (bodyOf Try.f181 2) (nu3 s be ng a v (i : Nat)) (.exit 4, nu3 s be ng a v' be)
  | 0, i, v, h => ⟨v, by
    rw [show i = be by omega]
    exact LoopR.stop (by simp) (rT_sem numG_ok noLoopsS (rT_go nu3_e ⟨by simp, trivial⟩))⟩
  | d + 1, i, v, h => by
    have e3 := succ64 (j := i) (by omega)
    obtain ⟨v', hv⟩ := nu3_loop (s := s) (ng := ng) (a := a) hb d (i + 1) _ (by omega)
    refine ⟨v', LoopR.next ?_ hv⟩
    refine rT_sem numG_ok noLoopsS ((rT_go nu3_go ?_).trans ?_)
    · try simp only [Int.toNat_natCast, Nat.zero_add, e3]
      repeat' (first | exact AllT.nil | refine AllT.cons ?_ ?_)
      all_goals first | (with_reducible rfl) | (with_reducible assumption) | exact yes_of ⟨rfl, rfl⟩ | exact decide_eq_true (by omega) | exact beq_iff_eq.2 (by omega) | (simp; done) | (simp; omega)
    · try simp only [Int.toNat_natCast, Nat.zero_add, e3]
      rfl
def NuRes (s : ByteArray) (ah be : Int) (r : Int × ByteArray × Bool) : Prop := r.2.1.size ≤ s.size ∧ ∃ ℓ, LoopsSem numG 0 ℓ ∧ (lfun numG ℓ 60 Try.f181 [StrA s, I64 ah, I64 be] []).eval = some (.tup [I64 r.1, StrA r.2.1, Bo r.2.2], [])
theorem ext_size (s : ByteArray) (a b : Nat) : (s.extract a b).size ≤ s.size := by
  simp only [ByteArray.size_extract]; omega
theorem np_ex {s : ByteArray} {ah : Int} {be : Nat} (hs : s.size < 2 ^ 40) (hb : be ≤ 10) (hz : 0 < s.size) (hc : (bt s 0 == 45) = true) : ∃ r, NuRes s ah be r := by
  have hd := dgN_b (s := s) (a := 1) (by omega)
  by_cases c1 : ((dgN s 1 : Nat) : Int) < 1
  · refine ⟨(0, ⟨#[]⟩, false), Nat.zero_le _, nol, noLoopsS, (Tr.go_eval (np_b1 (v1 := 0) (v2 := 0) (v3 := 0) (z1 := 0) (z2 := 0) (z3 := 0)) ?_).trans rfl⟩
    repeat' (first | exact AllT.nil | refine AllT.cons ?_ ?_)
    all_goals first | (with_reducible rfl) | (with_reducible assumption) | exact yes_of ⟨rfl, rfl⟩ | exact yes_of ⟨hs, by omega, by omega⟩ | exact decide_eq_true (by omega) | (rw [decide_eq_false (by omega)]; rfl) | exact beq_iff_eq.2 (by omega) | (simp; done) | (simp; omega)
  by_cases c2 : ((dgN s 1 : Nat) : Int) > ah
  · refine ⟨(0, ⟨#[]⟩, false), Nat.zero_le _, nol, noLoopsS, (Tr.go_eval (np_b2 (v1 := 0) (v2 := 0) (v3 := 0) (z1 := 0) (z2 := 0) (z3 := 0)) ?_).trans rfl⟩
    repeat' (first | exact AllT.nil | refine AllT.cons ?_ ?_)
    all_goals first | (with_reducible rfl) | (with_reducible assumption) | exact yes_of ⟨rfl, rfl⟩ | exact yes_of ⟨hs, by omega, by omega⟩ | exact decide_eq_true (by omega) | (rw [decide_eq_false (by omega)]; rfl) | exact beq_iff_eq.2 (by omega) | (simp; done) | (simp; omega)
  obtain ⟨v1, l1⟩ := nu1_loop (s := s) (be := be) (ng := bt s 0 == 45) (a := 1) (n := dgN s 1) hs (by omega) (dgN s 1) 0 0 (by omega)
  have w1 : w64 ((1 : Int) + ((dgN s 1 : Nat) : Int)) = ((1 + dgN s 1 : Nat) : Int) := by rw [w64_id (by omega) (by omega)]; omega
  have w2 : w64 (((1 + dgN s 1 : Nat) : Int) + 1) = ((1 + dgN s 1 + 1 : Nat) : Int) := succ64 (by omega)
  by_cases c3 : 1 + dgN s 1 < s.size
  · by_cases c4 : bt s ((1 + dgN s 1 : Nat) : Int) = 46
    · have hk := dgN_b (s := s) (a := 1 + dgN s 1 + 1) (by omega)
      obtain ⟨v3, l3⟩ := nu3_loop (s := s) (be := be) (ng := bt s 0 == 45) (a := w64 ((1 : Int) + ((dgN s 1 : Nat) : Int))) hb be 0 v1 (by omega)
      by_cases c5 : ((dgN s (1 + dgN s 1 + 1) : Nat) : Int) < 1
      · refine ⟨(0, ⟨#[]⟩, false), Nat.zero_le _, _, byReg_sem (r := 10) (tell_ok l1.sem) (tell_ok l3.sem), (Tr.go_eval (np_k1 (v1 := v1) (v2 := 0) (v3 := v3) (z1 := (dgN s 1 : Nat)) (z2 := 0) (z3 := be)) ?_).trans rfl⟩
        simp only [Int.toNat_natCast, w1, w2]
        repeat' (first | exact AllT.nil | refine AllT.cons ?_ ?_)
        all_goals first | (with_reducible rfl) | (with_reducible assumption) | exact yes_of ⟨rfl, rfl⟩ | exact yes_of ⟨hs, by omega, by omega⟩ | exact decide_eq_true (by omega) | (rw [decide_eq_false (by omega)]; rfl) | exact beq_iff_eq.2 (by omega) | (simp; done) | (simp; omega)
      by_cases c6 : ((dgN s (1 + dgN s 1 + 1) : Nat) : Int) > be
      · refine ⟨(0, ⟨#[]⟩, false), Nat.zero_le _, _, byReg_sem (r := 10) (tell_ok l1.sem) (tell_ok l3.sem), (Tr.go_eval (np_k2 (v1 := v1) (v2 := 0) (v3 := v3) (z1 := (dgN s 1 : Nat)) (z2 := 0) (z3 := be)) ?_).trans rfl⟩
        simp only [Int.toNat_natCast, w1, w2]
        repeat' (first | exact AllT.nil | refine AllT.cons ?_ ?_)
        all_goals first | (with_reducible rfl) | (with_reducible assumption) | exact yes_of ⟨rfl, rfl⟩ | exact yes_of ⟨hs, by omega, by omega⟩ | exact decide_eq_true (by omega) | (rw [decide_eq_false (by omega)]; rfl) | exact beq_iff_eq.2 (by omega) | (simp; done) | (simp; omega)
      clear l3
      obtain ⟨v2, l2⟩ := nu2_loop (s := s) (be := be) (ng := bt s 0 == 45) (a := 1 + dgN s 1) (n := dgN s (1 + dgN s 1 + 1)) hs (by omega) (dgN s (1 + dgN s 1 + 1)) 0 v1 (by omega)
      have w3 : w64 (((1 + dgN s 1 + 1 : Nat) : Int) + ((dgN s (1 + dgN s 1 + 1) : Nat) : Int)) = ((1 + dgN s 1 + 1 + dgN s (1 + dgN s 1 + 1) : Nat) : Int) := by rw [w64_id (by omega) (by omega)]; omega
      obtain ⟨v4, l4⟩ := nu3_loop (s := s) (be := be) (ng := bt s 0 == 45) (a := ((1 + dgN s 1 + 1 + dgN s (1 + dgN s 1 + 1) : Nat) : Int)) hb (be - dgN s (1 + dgN s 1 + 1)) (dgN s (1 + dgN s 1 + 1)) v2 (by omega)
      have l2' := CodeSem.of_eq' (S' := nu2 s be (bt s 0 == 45) (w64 ((1 : Int) + ((dgN s (1 : Int).toNat : Nat) : Int))) v1 ((dgN s (w64 (w64 ((1 : Int) + ((dgN s (1 : Int).toNat : Nat) : Int)) + 1)).toNat : Nat) : Int) 0) (by
        have e : dgN s (1 : Int).toNat = dgN s 1 := rfl
        rw [e, w1, w2, Int.toNat_natCast]; rfl) l2.sem
      have l4' := CodeSem.of_eq' (S' := nu3 s be (bt s 0 == 45) (w64 (w64 (w64 ((1 : Int) + ((dgN s (1 : Int).toNat : Nat) : Int)) + 1) + ((dgN s (w64 (w64 ((1 : Int) + ((dgN s (1 : Int).toNat : Nat) : Int)) + 1)).toNat : Nat) : Int))) v2 ((dgN s (w64 (w64 ((1 : Int) + ((dgN s (1 : Int).toNat : Nat) : Int)) + 1)).toNat : Nat) : Int)) (by
        have e : dgN s (1 : Int).toNat = dgN s 1 := rfl
        rw [e, w1, w2, Int.toNat_natCast, w3]) l4.sem
      have hw := np_ok (s := s) (ah := ah) (be := be) (v1 := v1) (v2 := v2) (v3 := v4) (z1 := (dgN s 1 : Nat)) (z2 := (dgN s (1 + dgN s 1 + 1) : Nat)) (z3 := be)
      have ee : dgN s (1 : Int).toNat = dgN s 1 := rfl
      simp only [ee, w1, w2, w3, Int.toNat_natCast] at hw l2' l4'
      refine ⟨(_, _, _), ?_, _, byReg_sem (r := 10) (tell_ok l1.sem) (byReg_sem (r := 20) (tell_ok l2') (tell_ok l4')), (Tr.go_eval hw ?_).trans rfl⟩
      · exact ext_size _ _ _
      · repeat' (first | exact AllT.nil | refine AllT.cons ?_ ?_)
        all_goals first | (with_reducible rfl) | (with_reducible assumption) | exact yes_of ⟨rfl, rfl⟩ | (unfold decInt; simp only [Bool.and_eq_true, decide_eq_true_eq]; omega) | exact yes_of ⟨hs, by omega, by omega⟩ | exact decide_eq_true (by omega) | (rw [decide_eq_false (by omega)]; rfl) | exact beq_iff_eq.2 (by omega) | (simp; done) | (simp; omega)
    · have c4' : (!(bt s ((1 + dgN s 1 : Nat) : Int) == 46)) = true := by simpa using c4
      obtain ⟨v3, l3⟩ := nu3_loop (s := s) (be := be) (ng := bt s 0 == 45) (a := w64 ((1 : Int) + ((dgN s 1 : Nat) : Int))) hb be 0 v1 (by omega)
      refine ⟨(_, _, _), ?_, _, byReg_sem (r := 10) (tell_ok l1.sem) (tell_ok l3.sem), (Tr.go_eval (np_d2 (v1 := v1) (v2 := 0) (v3 := v3) (z1 := (dgN s 1 : Nat)) (z2 := 0) (z3 := be)) ?_).trans rfl⟩
      · exact ext_size _ _ _
      · simp only [Int.toNat_natCast, w1]
        repeat' (first | exact AllT.nil | refine AllT.cons ?_ ?_)
        all_goals first | (with_reducible rfl) | (with_reducible assumption) | exact yes_of ⟨rfl, rfl⟩ | (unfold decInt; simp only [Bool.and_eq_true, decide_eq_true_eq]; omega) | exact yes_of ⟨hs, by omega, by omega⟩ | exact decide_eq_true (by omega) | (rw [decide_eq_false (by omega)]; rfl) | exact beq_iff_eq.2 (by omega) | (simp; done) | (simp; omega)
  · obtain ⟨v3, l3⟩ := nu3_loop (s := s) (be := be) (ng := bt s 0 == 45) (a := w64 ((1 : Int) + ((dgN s 1 : Nat) : Int))) hb be 0 v1 (by omega)
    refine ⟨(_, _, _), ?_, _, byReg_sem (r := 10) (tell_ok l1.sem) (tell_ok l3.sem), (Tr.go_eval (np_d1 (v1 := v1) (v2 := 0) (v3 := v3) (z1 := (dgN s 1 : Nat)) (z2 := 0) (z3 := be)) ?_).trans rfl⟩
    · exact ext_size _ _ _
    · simp only [Int.toNat_natCast, w1]
      repeat' (first | exact AllT.nil | refine AllT.cons ?_ ?_)
      all_goals first | (with_reducible rfl) | (with_reducible assumption) | exact yes_of ⟨rfl, rfl⟩ | (unfold decInt; simp only [Bool.and_eq_true, decide_eq_true_eq]; omega) | exact yes_of ⟨hs, by omega, by omega⟩ | exact decide_eq_true (by omega) | (rw [decide_eq_false (by omega)]; rfl) | exact beq_iff_eq.2 (by omega) | (simp; done) | (simp; omega)
theorem nn_ex {s : ByteArray} {ah : Int} {be : Nat} (hs : s.size < 2 ^ 40) (hb : be ≤ 10) (hz : 0 < s.size) (hc : (!(bt s 0 == 45)) = true) : ∃ r, NuRes s ah be r := by
  have hd := dgN_b (s := s) (a := 0) (by omega)
  by_cases c1 : ((dgN s 0 : Nat) : Int) < 1
  · refine ⟨(0, ⟨#[]⟩, false), Nat.zero_le _, nol, noLoopsS, (Tr.go_eval (nn_b1 (v1 := 0) (v2 := 0) (v3 := 0) (z1 := 0) (z2 := 0) (z3 := 0)) ?_).trans rfl⟩
    repeat' (first | exact AllT.nil | refine AllT.cons ?_ ?_)
    all_goals first | (with_reducible rfl) | (with_reducible assumption) | exact yes_of ⟨rfl, rfl⟩ | exact yes_of ⟨hs, by omega, by omega⟩ | exact decide_eq_true (by omega) | (rw [decide_eq_false (by omega)]; rfl) | exact beq_iff_eq.2 (by omega) | (simp; done) | (simp; omega)
  by_cases c2 : ((dgN s 0 : Nat) : Int) > ah
  · refine ⟨(0, ⟨#[]⟩, false), Nat.zero_le _, nol, noLoopsS, (Tr.go_eval (nn_b2 (v1 := 0) (v2 := 0) (v3 := 0) (z1 := 0) (z2 := 0) (z3 := 0)) ?_).trans rfl⟩
    repeat' (first | exact AllT.nil | refine AllT.cons ?_ ?_)
    all_goals first | (with_reducible rfl) | (with_reducible assumption) | exact yes_of ⟨rfl, rfl⟩ | exact yes_of ⟨hs, by omega, by omega⟩ | exact decide_eq_true (by omega) | (rw [decide_eq_false (by omega)]; rfl) | exact beq_iff_eq.2 (by omega) | (simp; done) | (simp; omega)
  obtain ⟨v1, l1⟩ := nu1_loop (s := s) (be := be) (ng := bt s 0 == 45) (a := 0) (n := dgN s 0) hs (by omega) (dgN s 0) 0 0 (by omega)
  have w1 : w64 ((0 : Int) + ((dgN s 0 : Nat) : Int)) = ((0 + dgN s 0 : Nat) : Int) := by rw [w64_id (by omega) (by omega)]; omega
  have w2 : w64 (((0 + dgN s 0 : Nat) : Int) + 1) = ((0 + dgN s 0 + 1 : Nat) : Int) := succ64 (by omega)
  by_cases c3 : 0 + dgN s 0 < s.size
  · by_cases c4 : bt s ((0 + dgN s 0 : Nat) : Int) = 46
    · have hk := dgN_b (s := s) (a := 0 + dgN s 0 + 1) (by omega)
      obtain ⟨v3, l3⟩ := nu3_loop (s := s) (be := be) (ng := bt s 0 == 45) (a := w64 ((0 : Int) + ((dgN s 0 : Nat) : Int))) hb be 0 v1 (by omega)
      by_cases c5 : ((dgN s (0 + dgN s 0 + 1) : Nat) : Int) < 1
      · refine ⟨(0, ⟨#[]⟩, false), Nat.zero_le _, _, byReg_sem (r := 10) (tell_ok l1.sem) (tell_ok l3.sem), (Tr.go_eval (nn_k1 (v1 := v1) (v2 := 0) (v3 := v3) (z1 := (dgN s 0 : Nat)) (z2 := 0) (z3 := be)) ?_).trans rfl⟩
        simp only [Int.toNat_natCast, w1, w2]
        repeat' (first | exact AllT.nil | refine AllT.cons ?_ ?_)
        all_goals first | (with_reducible rfl) | (with_reducible assumption) | exact yes_of ⟨rfl, rfl⟩ | exact yes_of ⟨hs, by omega, by omega⟩ | exact decide_eq_true (by omega) | (rw [decide_eq_false (by omega)]; rfl) | exact beq_iff_eq.2 (by omega) | (simp; done) | (simp; omega)
      by_cases c6 : ((dgN s (0 + dgN s 0 + 1) : Nat) : Int) > be
      · refine ⟨(0, ⟨#[]⟩, false), Nat.zero_le _, _, byReg_sem (r := 10) (tell_ok l1.sem) (tell_ok l3.sem), (Tr.go_eval (nn_k2 (v1 := v1) (v2 := 0) (v3 := v3) (z1 := (dgN s 0 : Nat)) (z2 := 0) (z3 := be)) ?_).trans rfl⟩
        simp only [Int.toNat_natCast, w1, w2]
        repeat' (first | exact AllT.nil | refine AllT.cons ?_ ?_)
        all_goals first | (with_reducible rfl) | (with_reducible assumption) | exact yes_of ⟨rfl, rfl⟩ | exact yes_of ⟨hs, by omega, by omega⟩ | exact decide_eq_true (by omega) | (rw [decide_eq_false (by omega)]; rfl) | exact beq_iff_eq.2 (by omega) | (simp; done) | (simp; omega)
      clear l3
      obtain ⟨v2, l2⟩ := nu2_loop (s := s) (be := be) (ng := bt s 0 == 45) (a := 0 + dgN s 0) (n := dgN s (0 + dgN s 0 + 1)) hs (by omega) (dgN s (0 + dgN s 0 + 1)) 0 v1 (by omega)
      have w3 : w64 (((0 + dgN s 0 + 1 : Nat) : Int) + ((dgN s (0 + dgN s 0 + 1) : Nat) : Int)) = ((0 + dgN s 0 + 1 + dgN s (0 + dgN s 0 + 1) : Nat) : Int) := by rw [w64_id (by omega) (by omega)]; omega
      obtain ⟨v4, l4⟩ := nu3_loop (s := s) (be := be) (ng := bt s 0 == 45) (a := ((0 + dgN s 0 + 1 + dgN s (0 + dgN s 0 + 1) : Nat) : Int)) hb (be - dgN s (0 + dgN s 0 + 1)) (dgN s (0 + dgN s 0 + 1)) v2 (by omega)
      have l2' := CodeSem.of_eq' (S' := nu2 s be (bt s 0 == 45) (w64 ((0 : Int) + ((dgN s (0 : Int).toNat : Nat) : Int))) v1 ((dgN s (w64 (w64 ((0 : Int) + ((dgN s (0 : Int).toNat : Nat) : Int)) + 1)).toNat : Nat) : Int) 0) (by
        have e : dgN s (0 : Int).toNat = dgN s 0 := rfl
        rw [e, w1, w2, Int.toNat_natCast]; rfl) l2.sem
      have l4' := CodeSem.of_eq' (S' := nu3 s be (bt s 0 == 45) (w64 (w64 (w64 ((0 : Int) + ((dgN s (0 : Int).toNat : Nat) : Int)) + 1) + ((dgN s (w64 (w64 ((0 : Int) + ((dgN s (0 : Int).toNat : Nat) : Int)) + 1)).toNat : Nat) : Int))) v2 ((dgN s (w64 (w64 ((0 : Int) + ((dgN s (0 : Int).toNat : Nat) : Int)) + 1)).toNat : Nat) : Int)) (by
        have e : dgN s (0 : Int).toNat = dgN s 0 := rfl
        rw [e, w1, w2, Int.toNat_natCast, w3]) l4.sem
      have hw := nn_ok (s := s) (ah := ah) (be := be) (v1 := v1) (v2 := v2) (v3 := v4) (z1 := (dgN s 0 : Nat)) (z2 := (dgN s (0 + dgN s 0 + 1) : Nat)) (z3 := be)
      have ee : dgN s (0 : Int).toNat = dgN s 0 := rfl
      simp only [ee, w1, w2, w3, Int.toNat_natCast] at hw l2' l4'
      refine ⟨(_, _, _), ?_, _, byReg_sem (r := 10) (tell_ok l1.sem) (byReg_sem (r := 20) (tell_ok l2') (tell_ok l4')), (Tr.go_eval hw ?_).trans rfl⟩
      · exact ext_size _ _ _
      · repeat' (first | exact AllT.nil | refine AllT.cons ?_ ?_)
        all_goals first | (with_reducible rfl) | (with_reducible assumption) | exact yes_of ⟨rfl, rfl⟩ | (unfold decInt; simp only [Bool.and_eq_true, decide_eq_true_eq]; omega) | exact yes_of ⟨hs, by omega, by omega⟩ | exact decide_eq_true (by omega) | (rw [decide_eq_false (by omega)]; rfl) | exact beq_iff_eq.2 (by omega) | (simp; done) | (simp; omega)
    · have c4' : (!(bt s ((0 + dgN s 0 : Nat) : Int) == 46)) = true := by simpa using c4
      obtain ⟨v3, l3⟩ := nu3_loop (s := s) (be := be) (ng := bt s 0 == 45) (a := w64 ((0 : Int) + ((dgN s 0 : Nat) : Int))) hb be 0 v1 (by omega)
      refine ⟨(_, _, _), ?_, _, byReg_sem (r := 10) (tell_ok l1.sem) (tell_ok l3.sem), (Tr.go_eval (nn_d2 (v1 := v1) (v2 := 0) (v3 := v3) (z1 := (dgN s 0 : Nat)) (z2 := 0) (z3 := be)) ?_).trans rfl⟩
      · exact ext_size _ _ _
      · simp only [Int.toNat_natCast, w1]
        repeat' (first | exact AllT.nil | refine AllT.cons ?_ ?_)
        all_goals first | (with_reducible rfl) | (with_reducible assumption) | exact yes_of ⟨rfl, rfl⟩ | (unfold decInt; simp only [Bool.and_eq_true, decide_eq_true_eq]; omega) | exact yes_of ⟨hs, by omega, by omega⟩ | exact decide_eq_true (by omega) | (rw [decide_eq_false (by omega)]; rfl) | exact beq_iff_eq.2 (by omega) | (simp; done) | (simp; omega)
  · obtain ⟨v3, l3⟩ := nu3_loop (s := s) (be := be) (ng := bt s 0 == 45) (a := w64 ((0 : Int) + ((dgN s 0 : Nat) : Int))) hb be 0 v1 (by omega)
    refine ⟨(_, _, _), ?_, _, byReg_sem (r := 10) (tell_ok l1.sem) (tell_ok l3.sem), (Tr.go_eval (nn_d1 (v1 := v1) (v2 := 0) (v3 := v3) (z1 := (dgN s 0 : Nat)) (z2 := 0) (z3 := be)) ?_).trans rfl⟩
    · exact ext_size _ _ _
    · simp only [Int.toNat_natCast, w1]
      repeat' (first | exact AllT.nil | refine AllT.cons ?_ ?_)
      all_goals first | (with_reducible rfl) | (with_reducible assumption) | exact yes_of ⟨rfl, rfl⟩ | (unfold decInt; simp only [Bool.and_eq_true, decide_eq_true_eq]; omega) | exact yes_of ⟨hs, by omega, by omega⟩ | exact decide_eq_true (by omega) | (rw [decide_eq_false (by omega)]; rfl) | exact beq_iff_eq.2 (by omega) | (simp; done) | (simp; omega)
theorem nu_ex {s : ByteArray} {ah : Int} {be : Nat} (hs : s.size < 2 ^ 40) (hb : be ≤ 10) : ∃ r, NuRes s ah be r := by
  rcases Nat.eq_zero_or_pos s.size with hz | hz
  · have hd := dgN_b (s := s) (a := 0) (by omega)
    refine ⟨(0, ⟨#[]⟩, false), Nat.zero_le _, nol, noLoopsS, (Tr.go_eval (nz (v1 := 0) (v2 := 0) (v3 := 0) (z1 := 0) (z2 := 0) (z3 := 0)) ?_).trans rfl⟩
    repeat' (first | exact AllT.nil | refine AllT.cons ?_ ?_)
    all_goals first | (with_reducible rfl) | (with_reducible assumption) | exact yes_of ⟨rfl, rfl⟩ | exact yes_of ⟨hs, by omega, by omega⟩ | exact decide_eq_true (by omega) | (rw [decide_eq_false (by omega)]; rfl) | exact beq_iff_eq.2 (by omega) | (simp; done) | (simp; omega)
  · cases hc : (bt s 0 == 45)
    · exact nn_ex hs hb hz (by rw [hc]; rfl)
    · exact np_ex hs hb hz hc
open Classical in
noncomputable def nuR (s : ByteArray) (ah be : Int) : Int × ByteArray × Bool := if h : ∃ r, NuRes s ah be r then Classical.choose h else (0, ⟨#[]⟩, false)
theorem nuR_ok {s : ByteArray} {ah : Int} {be : Nat} (hs : s.size < 2 ^ 40) (hb : be ≤ 10) : NuRes s ah be (nuR s ah be) := by
  have h := nu_ex (ah := ah) hs hb
  unfold nuR
  rw [dif_pos h]
  exact Classical.choose_spec h
noncomputable def nuF : Spec := fun args h => match args, h with
  | [.c (.v (.string s)), .c (.v (.int .i64 ah)), .c (.v (.int .i64 be))], [] => .need (yes (s.size < 2 ^ 40 ∧ 0 ≤ be ∧ be ≤ 10)) (.ret (.tup [I64 (nuR s ah be).1, StrA (nuR s ah be).2.1, Bo (nuR s ah be).2.2], []))
  | _, _ => .fail
theorem nuF_ok : SpecOk Try.prog 181 nuF := by
  refine knownS KNU_ok Try.func181 fun args h r he => ?_
  unfold nuF at he
  split at he
  · rename_i s ah be
    obtain ⟨⟨h1, h2, h3⟩, he⟩ := Tr.eval_ask.1 he
    cases he
    obtain ⟨n, rfl⟩ := Int.eq_ofNat_of_zero_le h2
    obtain ⟨_, ℓ, hl, hw⟩ := nuR_ok (ah := ah) h1 (show n ≤ 10 by omega)
    exact ⟨_, [], 60, ℓ, hl, hw⟩
  · cases he
end
section
open Go Go.RowKit
theorem bif_ex {α β : Type} {c : Bool} {A B : Option α} {f : β → Option α} (h1 : ∃ v, A = f v) (h2 : ∃ v, B = f v) : ∃ v, (bif c then A else B) = f v := by cases c <;> assumption
noncomputable def KPH : Known := [(150, afun (GK [] (fun _ => []) 0) 60 Try.f150)]
theorem KPH_ok : KnownOk KPH := consK (known0 nilK 60 Try.func150) (by kernel_rfl) nilK
noncomputable def KPX0 : Known := [(150, afun (GK [] (fun _ => []) 0) 60 Try.f150), (155, afun (GK [] (fun _ => []) 0) 60 Try.f155), (184, afun (GK KPH (fun _ => []) 0) 60 Try.f184)]
theorem KPX0_ok : KnownOk KPX0 := consK (known0 nilK 60 Try.func150) (by kernel_rfl) (consK (known0 nilK 60 Try.func155) (by kernel_rfl) (consK (known0 KPH_ok 60 Try.func184) (by kernel_rfl) nilK))
noncomputable def px0G : Ctx2 := GT KPX0 (fun _ => []) 0 []
theorem px_nf {t : Int} : (lfun px0G nol 60 Try.f182 [I64 t] []).eval = bif decide ((w64 (w64 ((64 : Int) * mnI (1000000000000 : Int) (mxI (-1000000000000 : Int) t)) + (500 : Int))).tmod 1000 < (0 : Int)) then some (I64 (mnI (1073741824 : Int) (mxI (-1073741824 : Int) (w64 (w64 ((w64 (w64 ((64 : Int) * mnI (1000000000000 : Int) (mxI (-1000000000000 : Int) t)) + (500 : Int))).tdiv (1000 : Int)) - (1 : Int))))), []) else some (I64 (mnI (1073741824 : Int) (mxI (-1073741824 : Int) (w64 ((w64 (w64 ((64 : Int) * mnI (1000000000000 : Int) (mxI (-1000000000000 : Int) t)) + (500 : Int))).tdiv (1000 : Int))))), []) := by kernel_rfl
theorem px_ex (t : Int) : ∃ v, (lfun px0G nol 60 Try.f182 [I64 t] []).eval = some (I64 v, []) := by
  rw [px_nf]
  repeat' (first | exact ⟨_, rfl⟩ | refine bif_ex ?_ ?_)
noncomputable def pxR (t : Int) : Int := Classical.choose (px_ex t)
noncomputable def px1F : Spec := fun args h => match args, h with
  | [.c (.v (.int .i64 t))], [] => .ret (I64 (pxR t), [])
  | _, _ => .fail
theorem px1F_ok : SpecOk Try.prog 182 px1F := by
  refine knownS KPX0_ok Try.func182 fun args h r he => ?_
  unfold px1F at he
  split at he
  · cases he
    exact ⟨fun _ => [], [], 60, nol, noLoopsS, Classical.choose_spec (px_ex _)⟩
  · cases he
noncomputable def KPX : Known := [(181, nuF), (182, px1F)]
theorem KPX_ok : KnownOk KPX := consK nuF_ok (by kernel_rfl) (consK px1F_ok (by kernel_rfl) nilK)
noncomputable def pxG : Ctx2 := GT KPX (fun _ => []) 0 []
theorem pix_nf {s : ByteArray} : (lfun pxG nol 60 Try.f179 [StrA s] []).eval = bif s.toList == (⟨#[48]⟩ : ByteArray).toList then some (.tup [I64 0, Bo true], []) else bif yes (s.size < 2 ^ 40 ∧ (0 : Int) ≤ (3 : Int) ∧ (3 : Int) ≤ (10 : Int)) then bif (nuR s (5 : Int) (3 : Int)).snd.snd then some (.tup [I64 (pxR (nuR s (5 : Int) (3 : Int)).fst), Bo ((nuR s (5 : Int) (3 : Int)).snd.fst.toList == (⟨#[112, 120]⟩ : ByteArray).toList)], []) else some (.tup [I64 (pxR (nuR s (5 : Int) (3 : Int)).fst), Bo false], []) else none := by kernel_rfl
theorem who_nf {s : ByteArray} {lo hi : Int} : (lfun pxG nol 60 Try.f178 [StrA s, I64 lo, I64 hi] []).eval = bif yes (s.size < 2 ^ 40 ∧ (0 : Int) ≤ (0 : Int) ∧ (0 : Int) ≤ (10 : Int)) then bif !(nuR s (4 : Int) (0 : Int)).snd.snd then some (.tup [I64 0, Bo false], []) else bif !(nuR s (4 : Int) (0 : Int)).snd.fst.toList == (⟨#[]⟩ : ByteArray).toList then some (.tup [I64 0, Bo false], []) else bif decide ((nuR s (4 : Int) (0 : Int)).fst < lo) then some (.tup [I64 0, Bo false], []) else bif decide ((nuR s (4 : Int) (0 : Int)).fst > hi) then some (.tup [I64 0, Bo false], []) else some (.tup [I64 (nuR s (4 : Int) (0 : Int)).fst, Bo true], []) else none := by kernel_rfl
theorem pix_ex {s : ByteArray} (hs : s.size < 2 ^ 40) : ∃ v : Int × Bool, (lfun pxG nol 60 Try.f179 [StrA s] []).eval = some (.tup [I64 v.1, Bo v.2], []) := by
  have hy : yes (s.size < 2 ^ 40 ∧ (0 : Int) ≤ (3 : Int) ∧ (3 : Int) ≤ (10 : Int)) = true := yes_of ⟨hs, by omega, by omega⟩
  rw [pix_nf, hy]
  simp only [cond_true]
  repeat' (first | exact ⟨(_, _), rfl⟩ | refine bif_ex ?_ ?_)
theorem who_ex {s : ByteArray} (hs : s.size < 2 ^ 40) (lo hi : Int) : ∃ v : Int × Bool, (lfun pxG nol 60 Try.f178 [StrA s, I64 lo, I64 hi] []).eval = some (.tup [I64 v.1, Bo v.2], []) := by
  have hy : yes (s.size < 2 ^ 40 ∧ (0 : Int) ≤ (0 : Int) ∧ (0 : Int) ≤ (10 : Int)) = true := yes_of ⟨hs, by omega, by omega⟩
  rw [who_nf, hy]
  simp only [cond_true]
  repeat' (first | exact ⟨(_, _), rfl⟩ | refine bif_ex ?_ ?_)
open Classical in
noncomputable def pixR (s : ByteArray) : Int × Bool := if h : s.size < 2 ^ 40 then Classical.choose (pix_ex h) else (0, false)
open Classical in
noncomputable def whoR (s : ByteArray) (lo hi : Int) : Int × Bool := if h : s.size < 2 ^ 40 then Classical.choose (who_ex h lo hi) else (0, false)
noncomputable def pixF : Spec := fun args h => match args, h with
  | [.c (.v (.string s))], [] => .need (yes (s.size < 2 ^ 40)) (.ret (.tup [I64 (pixR s).1, Bo (pixR s).2], []))
  | _, _ => .fail
theorem pixF_ok : SpecOk Try.prog 179 pixF := by
  refine knownS KPX_ok Try.func179 fun args h r he => ?_
  unfold pixF at he
  split at he
  · rename_i s
    obtain ⟨h1, he⟩ := Tr.eval_ask.1 he
    cases he
    refine ⟨fun _ => [], [], 60, nol, noLoopsS, ?_⟩
    unfold pixR
    rw [dif_pos h1]
    exact Classical.choose_spec (pix_ex h1)
  · cases he
noncomputable def whoF : Spec := fun args h => match args, h with
  | [.c (.v (.string s)), .c (.v (.int .i64 lo)), .c (.v (.int .i64 hi))], [] => .need (yes (s.size < 2 ^ 40)) (.ret (.tup [I64 (whoR s lo hi).1, Bo (whoR s lo hi).2], []))
  | _, _ => .fail
theorem whoF_ok : SpecOk Try.prog 178 whoF := by
  refine knownS KPX_ok Try.func178 fun args h r he => ?_
  unfold whoF at he
  split at he
  · rename_i s lo hi
    obtain ⟨h1, he⟩ := Tr.eval_ask.1 he
    cases he
    refine ⟨fun _ => [], [], 60, nol, noLoopsS, ?_⟩
    unfold whoR
    rw [dif_pos h1]
    exact Classical.choose_spec (who_ex h1 lo hi)
  · cases he
noncomputable def KPL : Known := [(181, nuF), (179, pixF)]
theorem KPL_ok : KnownOk KPL := consK nuF_ok (by kernel_rfl) (consK pixF_ok (by kernel_rfl) nilK)
noncomputable def pleG : Ctx2 := GT KPL (fun _ => []) 0 []
theorem len_nf {s : ByteArray} : (lfun pleG nol 60 Try.f180 [StrA s] []).eval = bif yes (s.size < 2 ^ 40) then bif (pixR s).snd then some (.tup [.agg [i64 1, i64 (pixR s).fst], Bo true], []) else bif yes (s.size < 2 ^ 40 ∧ (0 : Int) ≤ (2 : Int) ∧ (2 : Int) ≤ (10 : Int)) then bif !(nuR s (4 : Int) (2 : Int)).snd.snd then some (.tup [.agg [i64 0, i64 0], Bo false], []) else bif !(nuR s (4 : Int) (2 : Int)).snd.fst.toList == (⟨#[37]⟩ : ByteArray).toList then some (.tup [.agg [i64 0, i64 0], Bo false], []) else some (.tup [.agg [i64 2, i64 (nuR s (4 : Int) (2 : Int)).fst], Bo true], []) else none else none := by kernel_rfl
theorem len_ex {s : ByteArray} (hs : s.size < 2 ^ 40) : ∃ v : Int × Int × Bool, (lfun pleG nol 60 Try.f180 [StrA s] []).eval = some (.tup [.agg [i64 v.1, i64 v.2.1], Bo v.2.2], []) := by
  have hy : yes (s.size < 2 ^ 40 ∧ (0 : Int) ≤ (2 : Int) ∧ (2 : Int) ≤ (10 : Int)) = true := yes_of ⟨hs, by omega, by omega⟩
  have hy2 : yes (s.size < 2 ^ 40) = true := yes_of hs
  rw [len_nf, hy, hy2]
  simp only [cond_true]
  repeat' (first | exact ⟨(1, (pixR s).1, true), rfl⟩ | exact ⟨(2, (nuR s 4 2).1, true), rfl⟩ | exact ⟨(0, 0, false), rfl⟩ | refine bif_ex ?_ ?_)
open Classical in
noncomputable def lenRR (s : ByteArray) : Int × Int × Bool := if h : s.size < 2 ^ 40 then Classical.choose (len_ex h) else (0, 0, false)
noncomputable def lenF : Spec := fun args h => match args, h with
  | [.c (.v (.string s))], [] => .need (yes (s.size < 2 ^ 40)) (.ret (.tup [.agg [i64 (lenRR s).1, i64 (lenRR s).2.1], Bo (lenRR s).2.2], []))
  | _, _ => .fail
theorem lenF_ok : SpecOk Try.prog 180 lenF := by
  refine knownS KPL_ok Try.func180 fun args h r he => ?_
  unfold lenF at he
  split at he
  · rename_i s
    obtain ⟨h1, he⟩ := Tr.eval_ask.1 he
    cases he
    refine ⟨fun _ => [], [], 60, nol, noLoopsS, ?_⟩
    unfold lenRR
    rw [dif_pos h1]
    exact Classical.choose_spec (len_ex h1)
  · cases he
end
end Go.Proofs.Ytcpahifgdppkbaa.QAI
