/- Rectangles: what is called. -/
import Derived.Test.YtcpahifgdppkbaaA21
set_option linter.unusedVariables false
set_option linter.unusedSimpArgs false
namespace Go.Proofs.Ytcpahifgdppkbaa.QAI
open Go Go.RowKit
set_option maxRecDepth 100000
abbrev Rv (a b c d : Int) : AV := .agg [i64 a, i64 b, i64 c, i64 d]
theorem rKnil : KnownOk [] := fun _ _ h => by cases h
theorem rKcons {K : Known} {f : Nat} {F : Spec} (h1 : SpecOk Try.prog f F) (h2 : nameOk Try.prog f = true) (h : KnownOk K) : KnownOk ((f, F) :: K) := by
  intro g G hg
  rcases List.mem_cons.1 hg with hg | hg
  · cases hg
    exact ⟨h1, h2⟩
  · exact h g G hg
/-- A function that looks at no memory, told by its answer. -/
theorem plain_ok {K : Known} (hK : KnownOk K) {f : Nat} {fn : Func} (hf : Try.prog.funcs[f]? = some fn) {F : Spec} (h : ∀ args h r, (F args h).eval = some r → (afun (GK K (fun _ => []) 0) 60 fn args h).eval = some r) : SpecOk Try.prog f F :=
  known' hK hf fun args h' r he => ⟨_, _, _, h args h' r he⟩
noncomputable def rG0 : Ctx2 := GK [] (fun _ => []) 0
theorem near1_eq {n m : Int} : (afun rG0 60 Try.f58 [I64 n, I64 m] []).eval =
  bif and64 n (3 : Int) == (0 : Int) then
    some (I64 (and64 (n.fdiv ((2 : Int) ^ min (Int.toNat (2 : Int)) IntKind.i64.bits)) (255 : Int)), [])
  else bif decide (w64 (m + (1 : Int)) ≠ (0 : Int)) then some (I64 (n.tmod (w64 (m + (1 : Int)))), []) else none := by kernel_rfl
theorem has_eq {a b c d x y : Int} : (afun rG0 60 Try.f54 [Rv a b c d, I64 x, I64 y] []).eval =
  bif decide (x ≥ a) then
    bif decide (x < w64 (a + c)) then
      bif decide (y ≥ b) then some (Bo (decide (y < w64 (b + d))), []) else some (Bo false, [])
    else some (Bo false, [])
  else some (Bo false, []) := by kernel_rfl
theorem rhas_eq {a b c d x y : Int} : (afun rG0 60 Try.f62 [Rv a b c d, I64 x, I64 y] []).eval =
  bif decide (x ≥ a) then
    bif decide (x < w64 (a + c)) then
      bif decide (y ≥ b) then some (Bo (decide (y < w64 (b + d))), []) else some (Bo false, [])
    else some (Bo false, [])
  else some (Bo false, []) := by kernel_rfl
theorem meet_eq {a b c d e f g h : Int} : (afun rG0 60 Try.f57 [Rv a b c d, Rv e f g h] []).eval =
  bif decide (w64 (mnI (w64 (e + g)) (w64 (a + c)) - mxI e a) < (0 : Int)) then
    some (AV.tup [AV.agg [i64 (0 : Int), i64 (0 : Int), i64 (0 : Int), i64 (0 : Int)], Bo false], [])
  else
    bif decide (w64 (mnI (w64 (f + h)) (w64 (b + d)) - mxI f b) < (0 : Int)) then
      some (AV.tup [AV.agg [i64 (0 : Int), i64 (0 : Int), i64 (0 : Int), i64 (0 : Int)], Bo false], [])
    else
      some
        (AV.tup
            [AV.agg
                [i64 (mxI e a), i64 (mxI f b), i64 (w64 (mnI (w64 (e + g)) (w64 (a + c)) - mxI e a)),
                  i64 (w64 (mnI (w64 (f + h)) (w64 (b + d)) - mxI f b))],
              Bo true],
          []) := by kernel_rfl
theorem rmeet_eq {a b c d e f g h : Int} : (afun rG0 60 Try.f59 [Rv a b c d, Rv e f g h] []).eval =
  bif decide (mnI (w64 (e + g)) (w64 (a + c)) < mxI e a) then
    some (AV.tup [AV.agg [i64 (0 : Int), i64 (0 : Int), i64 (0 : Int), i64 (0 : Int)], Bo false], [])
  else
    bif decide (mnI (w64 (f + h)) (w64 (b + d)) < mxI f b) then
      some (AV.tup [AV.agg [i64 (0 : Int), i64 (0 : Int), i64 (0 : Int), i64 (0 : Int)], Bo false], [])
    else
      some
        (AV.tup
            [AV.agg
                [i64 (mxI e a), i64 (mxI f b), i64 (w64 (mnI (w64 (e + g)) (w64 (a + c)) - mxI e a)),
                  i64 (w64 (mnI (w64 (f + h)) (w64 (b + d)) - mxI f b))],
              Bo true],
          []) := by kernel_rfl
theorem rok_eq {a b c d : Int} : (afun rG0 60 Try.f61 [Rv a b c d] []).eval =
  bif decide (a ≥ (-35184372088832 : Int)) then
    bif decide (a ≤ (35184372088832 : Int)) then
      bif decide (b ≥ (-35184372088832 : Int)) then
        bif decide (b ≤ (35184372088832 : Int)) then
          bif decide (c ≥ (0 : Int)) then
            bif decide (c ≤ (35184372088832 : Int)) then
              bif decide (d ≥ (0 : Int)) then some (Bo (decide (d ≤ (35184372088832 : Int))), [])
              else some (Bo false, [])
            else some (Bo false, [])
          else some (Bo false, [])
        else some (Bo false, [])
      else some (Bo false, [])
    else some (Bo false, [])
  else some (Bo false, []) := by kernel_rfl
theorem near_eq {a : Int} : (afun rG0 60 Try.f116 [I64 a] []).eval =
  bif decide (a ≥ (-35184372088832 : Int)) then some (Bo (decide (a ≤ (35184372088832 : Int))), [])
  else some (Bo false, []) := by kernel_rfl
/-- A number brought near: quoinlaw1.Tame with a bound that is not -1. -/
def n1 (n m : Int) : Int := if and64 n 3 = 0 then and64 (n.fdiv (2 ^ min (Int.toNat 2) IntKind.i64.bits)) 255 else n.tmod (w64 (m + 1))
noncomputable def n1F : Spec := fun args h => match args, h with
  | [.c (.v (.int .i64 n)), .c (.v (.int .i64 m))], [] => .need (decide (w64 (m + 1) ≠ 0)) (.ret (I64 (n1 n m), []))
  | _, _ => .fail
theorem n1F_ok : SpecOk Try.prog 58 n1F := by
  refine plain_ok rKnil Try.func58 fun args h r he => ?_
  unfold n1F at he
  split at he
  · rename_i n m
    obtain ⟨h1, he⟩ := Tr.eval_need.1 he
    cases he
    refine near1_eq.trans ?_
    unfold n1
    by_cases h : and64 n 3 = 0
    · simp [h]
    · have : (and64 n 3 == 0) = false := by simpa using h
      simp [h, this, h1]
  · cases he
def hasB (a b c d x y : Int) : Bool := decide (x ≥ a) && decide (x < w64 (a + c)) && decide (y ≥ b) && decide (y < w64 (b + d))
noncomputable def hasF : Spec := fun args h => match args, h with
  | [.agg [.v (.int .i64 a), .v (.int .i64 b), .v (.int .i64 c), .v (.int .i64 d)], .c (.v (.int .i64 x)), .c (.v (.int .i64 y))], [] => .ret (Bo (hasB a b c d x y), [])
  | _, _ => .fail
theorem has_merge (a b c d x y : Int) : (bif decide (x ≥ a) then bif decide (x < w64 (a + c)) then bif decide (y ≥ b) then some (Bo (decide (y < w64 (b + d))), ([] : AHeap)) else some (Bo false, []) else some (Bo false, []) else some (Bo false, [])) = some (Bo (hasB a b c d x y), []) := by
  unfold hasB
  cases decide (x ≥ a) <;> cases decide (x < w64 (a + c)) <;> cases decide (y ≥ b) <;> simp
theorem hasF_ok : SpecOk Try.prog 54 hasF := by
  refine plain_ok rKnil Try.func54 fun args h r he => ?_
  unfold hasF at he
  split at he
  · cases he
    exact has_eq.trans (has_merge _ _ _ _ _ _)
  · cases he
theorem rhasF_ok : SpecOk Try.prog 62 hasF := by
  refine plain_ok rKnil Try.func62 fun args h r he => ?_
  unfold hasF at he
  split at he
  · cases he
    exact rhas_eq.trans (has_merge _ _ _ _ _ _)
  · cases he
def meetB (a b c d e f g h : Int) : Bool := !decide (w64 (mnI (w64 (e + g)) (w64 (a + c)) - mxI e a) < 0) && !decide (w64 (mnI (w64 (f + h)) (w64 (b + d)) - mxI f b) < 0)
def rmeetB (a b c d e f g h : Int) : Bool := !decide (mnI (w64 (e + g)) (w64 (a + c)) < mxI e a) && !decide (mnI (w64 (f + h)) (w64 (b + d)) < mxI f b)
def mtR (ok : Bool) (a b c d e f g h : Int) : AV :=
  .tup [Rv (bif ok then mxI e a else 0) (bif ok then mxI f b else 0) (bif ok then w64 (mnI (w64 (e + g)) (w64 (a + c)) - mxI e a) else 0) (bif ok then w64 (mnI (w64 (f + h)) (w64 (b + d)) - mxI f b) else 0), Bo ok]
noncomputable def meetF : Spec := fun args h => match args, h with
  | [.agg [.v (.int .i64 a), .v (.int .i64 b), .v (.int .i64 c), .v (.int .i64 d)], .agg [.v (.int .i64 e), .v (.int .i64 f), .v (.int .i64 g), .v (.int .i64 h)]], [] => .ret (mtR (meetB a b c d e f g h) a b c d e f g h, [])
  | _, _ => .fail
noncomputable def rmeetF : Spec := fun args h => match args, h with
  | [.agg [.v (.int .i64 a), .v (.int .i64 b), .v (.int .i64 c), .v (.int .i64 d)], .agg [.v (.int .i64 e), .v (.int .i64 f), .v (.int .i64 g), .v (.int .i64 h)]], [] => .ret (mtR (rmeetB a b c d e f g h) a b c d e f g h, [])
  | _, _ => .fail
theorem meetF_ok : SpecOk Try.prog 57 meetF := by
  refine plain_ok rKnil Try.func57 fun args h r he => ?_
  unfold meetF at he
  split at he
  · rename_i a b c d e f g h
    cases he
    refine meet_eq.trans ?_
    unfold mtR meetB
    cases decide (w64 (mnI (w64 (e + g)) (w64 (a + c)) - mxI e a) < 0) <;> cases decide (w64 (mnI (w64 (f + h)) (w64 (b + d)) - mxI f b) < 0) <;> rfl
  · cases he
theorem rmeetF_ok : SpecOk Try.prog 59 rmeetF := by
  refine plain_ok rKnil Try.func59 fun args h r he => ?_
  unfold rmeetF at he
  split at he
  · rename_i a b c d e f g h
    cases he
    refine rmeet_eq.trans ?_
    unfold mtR rmeetB
    cases decide (mnI (w64 (e + g)) (w64 (a + c)) < mxI e a) <;> cases decide (mnI (w64 (f + h)) (w64 (b + d)) < mxI f b) <;> rfl
  · cases he
def nrB (a : Int) : Bool := decide (a ≥ -35184372088832) && decide (a ≤ 35184372088832)
noncomputable def nrF : Spec := fun args h => match args, h with
  | [.c (.v (.int .i64 a))], [] => .ret (Bo (nrB a), [])
  | _, _ => .fail
theorem nrF_ok : SpecOk Try.prog 116 nrF := by
  refine plain_ok rKnil Try.func116 fun args h r he => ?_
  unfold nrF at he
  split at he
  · rename_i a
    cases he
    refine near_eq.trans ?_
    unfold nrB
    cases decide (a ≥ -35184372088832) <;> rfl
  · cases he
def rokB (a b c d : Int) : Bool := nrB a && nrB b && decide (c ≥ 0) && decide (c ≤ 35184372088832) && decide (d ≥ 0) && decide (d ≤ 35184372088832)
noncomputable def rokF : Spec := fun args h => match args, h with
  | [.agg [.v (.int .i64 a), .v (.int .i64 b), .v (.int .i64 c), .v (.int .i64 d)]], [] => .ret (Bo (rokB a b c d), [])
  | _, _ => .fail
theorem rrokF_ok : SpecOk Try.prog 61 rokF := by
  refine plain_ok rKnil Try.func61 fun args h r he => ?_
  unfold rokF at he
  split at he
  · rename_i a b c d
    cases he
    refine rok_eq.trans ?_
    unfold rokB nrB
    cases decide (a ≥ -35184372088832) <;> cases decide (a ≤ 35184372088832) <;> cases decide (b ≥ -35184372088832) <;> cases decide (b ≤ 35184372088832) <;> cases decide (c ≥ 0) <;> cases decide (c ≤ 35184372088832) <;> cases decide (d ≥ 0) <;> simp
  · cases he
noncomputable def rG1 : Ctx2 := GK [(58, n1F), (116, nrF)] (fun _ => []) 0
theorem rK1_ok : KnownOk [(58, n1F), (116, nrF)] := rKcons n1F_ok (by kernel_rfl) (rKcons nrF_ok (by kernel_rfl) rKnil)
theorem tame2_eq {a b c d : Int} {s : Bool} : (afun rG1 60 Try.f53 [Rv a b c d, Bo s] []).eval =
  bif s then
    some
      (AV.agg
          [i64 (w64 (and64 a (7 : Int) - (3 : Int))), i64 (w64 (and64 b (7 : Int) - (3 : Int))),
            i64 (and64 c (7 : Int)), i64 (and64 d (7 : Int))],
        [])
  else
    some
      (AV.agg
          [i64 (n1 a (8796093022208 : Int)), i64 (n1 b (8796093022208 : Int)),
            i64 (w64 ((u64 c).tmod (8796093022208 : Int))), i64 (w64 ((u64 d).tmod (8796093022208 : Int)))],
        []) := by kernel_rfl
theorem iok_eq {a b c d : Int} : (afun rG1 60 Try.f60 [Rv a b c d] []).eval =
  bif nrB a then
    bif nrB b then
      bif decide (c ≥ (0 : Int)) then
        bif nrB c then bif decide (d ≥ (0 : Int)) then some (Bo (nrB d), []) else some (Bo false, [])
        else some (Bo false, [])
      else some (Bo false, [])
    else some (Bo false, [])
  else some (Bo false, []) := by kernel_rfl
def tX (s : Bool) (a : Int) : Int := bif s then w64 (and64 a 7 - 3) else n1 a 8796093022208
def tW (s : Bool) (a : Int) : Int := bif s then and64 a 7 else w64 ((u64 a).tmod 8796093022208)
noncomputable def tame2F : Spec := fun args h => match args, h with
  | [.agg [.v (.int .i64 a), .v (.int .i64 b), .v (.int .i64 c), .v (.int .i64 d)], .c (.v (.bool s))], [] => .ret (Rv (tX s a) (tX s b) (tW s c) (tW s d), [])
  | _, _ => .fail
theorem tame2F_ok : SpecOk Try.prog 53 tame2F := by
  refine plain_ok rK1_ok Try.func53 fun args h r he => ?_
  unfold tame2F at he
  split at he
  · rename_i a b c d s
    cases he
    refine tame2_eq.trans ?_
    cases s <;> rfl
  · cases he
theorem iokF_ok : SpecOk Try.prog 60 rokF := by
  refine plain_ok rK1_ok Try.func60 fun args h r he => ?_
  unfold rokF at he
  split at he
  · rename_i a b c d
    cases he
    refine iok_eq.trans ?_
    unfold rokB nrB
    by_cases hc : c ≥ 0
    · by_cases hd : d ≥ 0
      · have h1 : c ≥ -35184372088832 := by omega
        have h2 : d ≥ -35184372088832 := by omega
        simp only [hc, hd, h1, h2, decide_true, cond_true, Bool.true_and, Bool.and_true]
        cases (decide (a ≥ -35184372088832) && decide (a ≤ 35184372088832)) <;> cases (decide (b ≥ -35184372088832) && decide (b ≤ 35184372088832)) <;> cases decide (c ≤ 35184372088832) <;> simp
      · simp [hc, hd]
    · simp [hc]
  · cases he
end Go.Proofs.Ytcpahifgdppkbaa.QAI
