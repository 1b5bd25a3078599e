/- Across a line: how an item stands, how great it is, how far off. -/
import Derived.Test.YtcpahifgdppkbaaY1
import Derived.Test.YtcpahifgdppkbaaX1
set_option linter.unusedVariables false
set_option linter.unusedSimpArgs false
namespace Go.Proofs.Ytcpahifgdppkbaa.QAI
open Go Go.RowKit
set_option maxRecDepth 100000
def slf (a b : Int) : Int := bif b == 0 then a else w64 (b - 1)
def str (a b c d : Int) : Int := mxI 0 (mxI c (bif decide (d ≥ 0) then mnI d (w64 (a - b)) else w64 (a - b)))
def hf (x : Int) : Int := x.fdiv (2 ^ min (Int.toNat 1) IntKind.i64.bits)
def hf2 (n : Int) : Int := bif decide (n.tmod 2 < 0) then w64 (w64 (n.tdiv 2) - 1) else w64 (n.tdiv 2)
def offH (h : Int → Int) (a b : Int) (p q : Bool) (s : Int) (r : Bool) : Int :=
  bif p || q then (bif decide (w64 (a - b) ≤ 0) || !p then 0 else bif q then h (w64 (a - b)) else w64 (a - b))
  else bif s == 2 then h (w64 (a - b)) else bif !(s == 1) == r then w64 (a - b) else 0
theorem slf1 {a b : Int} : (afun (GK [] (fun _ => []) 0) 60 Try.f73 [I64 a, I64 b] []).eval = bif b == 0 then some (I64 a, []) else some (I64 (w64 (b - 1)), []) := by kernel_rfl
theorem slf2 {a b : Int} : (afun (GK [] (fun _ => []) 0) 60 Try.f77 [I64 a, I64 b] []).eval = bif b == 0 then some (I64 a, []) else some (I64 (w64 (b - 1)), []) := by kernel_rfl
theorem str1 {a b c d : Int} : (afun (GK [] (fun _ => []) 0) 60 Try.f71 [I64 a, I64 b, I64 c, I64 d] []).eval =
  bif decide (d ≥ 0) then some (I64 (mxI 0 (mxI c (mnI d (w64 (a - b))))), []) else some (I64 (mxI 0 (mxI c (w64 (a - b)))), []) := by kernel_rfl
noncomputable def sClamp : Spec := afun (GK [] (fun _ => []) 0) 60 Try.f121
noncomputable def sDown : Spec := afun (GK [] (fun _ => []) 0) 60 Try.f155
noncomputable def KZ1 : Known := [(155, sDown)]
theorem KZ1_ok : KnownOk KZ1 := K_cons (known0 K_nil 60 Try.func155) (by kernel_rfl) K_nil
theorem hf2_eq {a : Int} : (afun (GK KZ1 (fun _ => []) 0) 60 Try.f122 [I64 a] []).eval = bif decide (a.tmod 2 < 0) then some (I64 (w64 (w64 (a.tdiv 2) - 1)), []) else some (I64 (w64 (a.tdiv 2)), []) := by kernel_rfl
noncomputable def hf2F : Spec := fun args h => match args, h with
  | [.c (.v (.int .i64 a))], [] => .ret (I64 (hf2 a), [])
  | _, _ => .fail
noncomputable def hfF : Spec := fun args h => match args, h with
  | [.c (.v (.int .i64 a))], [] => .ret (I64 (hf a), [])
  | _, _ => .fail
theorem hf_eq {a : Int} : (afun (GK [] (fun _ => []) 0) 60 Try.f120 [I64 a] []).eval = some (I64 (hf a), []) := by kernel_rfl
theorem hfF_ok : SpecOk Try.prog 120 hfF := by
  refine known' K_nil Try.func120 fun args h r he => ?_
  unfold hfF at he
  split at he
  · cases he
    exact ⟨_, _, _, hf_eq⟩
  · cases he
theorem hf2F_ok : SpecOk Try.prog 122 hf2F := by
  refine known' KZ1_ok Try.func122 fun args h r he => ?_
  unfold hf2F at he
  split at he
  · rename_i a
    cases he
    refine ⟨_, _, _, (hf2_eq (a := a)).trans ?_⟩
    unfold hf2
    cases decide (a.tmod 2 < 0) <;> rfl
  · cases he
noncomputable def KZ2 : Known := [(120, hfF), (121, sClamp), (122, hf2F)]
theorem KZ2_ok : KnownOk KZ2 := K_cons hfF_ok (by kernel_rfl) (K_cons (known0 K_nil 60 Try.func121) (by kernel_rfl) (K_cons hf2F_ok (by kernel_rfl) K_nil))
theorem str2 {a b c d : Int} : (afun (GK KZ2 (fun _ => []) 0) 60 Try.f78 [I64 a, I64 b, I64 c, I64 d] []).eval =
  bif decide (d ≥ 0) then some (I64 (mxI 0 (mxI c (mnI d (w64 (a - b))))), []) else some (I64 (mxI 0 (mxI c (w64 (a - b)))), []) := by kernel_rfl
def offT (h : Int → Int) (a b : Int) (p q : Bool) (s : Int) (r : Bool) : Option (AV × AHeap) :=
  bif p then
    bif decide (w64 (a - b) ≤ 0) then some (I64 0, []) else bif !p then some (I64 0, []) else bif q then some (I64 (h (w64 (a - b))), []) else some (I64 (w64 (a - b)), [])
  else
    bif q then bif decide (w64 (a - b) ≤ 0) then some (I64 0, []) else bif !p then some (I64 0, []) else bif q then some (I64 (h (w64 (a - b))), []) else some (I64 (w64 (a - b)), [])
    else bif s == 2 then some (I64 (h (w64 (a - b))), []) else bif !(s == 1) == r then some (I64 (w64 (a - b)), []) else some (I64 0, [])
theorem off1 {a b : Int} {p q : Bool} {s : Int} {r : Bool} : (afun (GK KZ2 (fun _ => []) 0) 60 Try.f72 [I64 a, I64 b, Bo p, Bo q, I64 s, Bo r] []).eval = offT hf a b p q s r := by kernel_rfl
theorem off2 {a b : Int} {p q : Bool} {s : Int} {r : Bool} : (afun (GK KZ2 (fun _ => []) 0) 60 Try.f79 [I64 a, I64 b, Bo p, Bo q, I64 s, Bo r] []).eval = offT hf2 a b p q s r := by kernel_rfl
theorem offT_eq (h : Int → Int) (a b : Int) (p q : Bool) (s : Int) (r : Bool) : offT h a b p q s r = some (I64 (offH h a b p q s r), []) := by
  unfold offT offH
  cases p <;> cases q <;> simp only [Bool.or_false, Bool.or_true, cond_true, cond_false, Bool.not_true, Bool.not_false] <;>
    cases decide (w64 (a - b) ≤ 0) <;> cases (s == 2) <;> cases (!(s == 1) == r) <;> rfl
noncomputable def slfF : Spec := fun args h => match args, h with
  | [.c (.v (.int .i64 a)), .c (.v (.int .i64 b))], [] => .ret (I64 (slf a b), [])
  | _, _ => .fail
noncomputable def strF : Spec := fun args h => match args, h with
  | [.c (.v (.int .i64 a)), .c (.v (.int .i64 b)), .c (.v (.int .i64 c)), .c (.v (.int .i64 d))], [] => .ret (I64 (str a b c d), [])
  | _, _ => .fail
noncomputable def offF (k : Int → Int) : Spec := fun args h => match args, h with
  | [.c (.v (.int .i64 a)), .c (.v (.int .i64 b)), .c (.v (.bool p)), .c (.v (.bool q)), .c (.v (.int .i64 s)), .c (.v (.bool r))], [] => .ret (I64 (offH k a b p q s r), [])
  | _, _ => .fail
theorem slfF_ok : SpecOk Try.prog 73 slfF := by
  refine known' K_nil Try.func73 fun args h r he => ?_
  unfold slfF at he
  split at he
  · rename_i a b
    cases he
    refine ⟨_, _, _, slf1.trans ?_⟩
    unfold slf
    cases b == 0 <;> rfl
  · cases he
theorem slfF2_ok : SpecOk Try.prog 77 slfF := by
  refine known' K_nil Try.func77 fun args h r he => ?_
  unfold slfF at he
  split at he
  · rename_i a b
    cases he
    refine ⟨_, _, _, slf2.trans ?_⟩
    unfold slf
    cases b == 0 <;> rfl
  · cases he
theorem strF_ok : SpecOk Try.prog 71 strF := by
  refine known' K_nil Try.func71 fun args h r he => ?_
  unfold strF at he
  split at he
  · rename_i a b c d
    cases he
    refine ⟨_, _, _, str1.trans ?_⟩
    unfold str
    cases decide (d ≥ 0) <;> rfl
  · cases he
theorem strF2_ok : SpecOk Try.prog 78 strF := by
  refine known' KZ2_ok Try.func78 fun args h r he => ?_
  unfold strF at he
  split at he
  · rename_i a b c d
    cases he
    refine ⟨_, _, _, str2.trans ?_⟩
    unfold str
    cases decide (d ≥ 0) <;> rfl
  · cases he
theorem offF_ok : SpecOk Try.prog 72 (offF hf) := by
  refine known' KZ2_ok Try.func72 fun args h r he => ?_
  unfold offF at he
  split at he
  · cases he
    exact ⟨_, _, _, off1.trans (offT_eq _ _ _ _ _ _ _)⟩
  · cases he
theorem offF2_ok : SpecOk Try.prog 79 (offF hf2) := by
  refine known' KZ2_ok Try.func79 fun args h r he => ?_
  unfold offF at he
  split at he
  · cases he
    exact ⟨_, _, _, off2.trans (offT_eq _ _ _ _ _ _ _)⟩
  · cases he
noncomputable def KY : Known := [(71, strF), (72, offF hf), (73, slfF), (74, sAwakeX), (75, tameF), (76, linesF), (70, sameF), (77, slfF), (78, strF), (79, offF hf2), (80, rlinesF)]
theorem KY_ok : KnownOk KY :=
  K_cons strF_ok (by kernel_rfl) (K_cons offF_ok (by kernel_rfl) (K_cons slfF_ok (by kernel_rfl) (K_cons awakeX_ok (by kernel_rfl) (K_cons tame_ok (by kernel_rfl) (K_cons lines_ok (by kernel_rfl)
    (K_cons same_ok (by kernel_rfl) (K_cons slfF2_ok (by kernel_rfl) (K_cons strF2_ok (by kernel_rfl) (K_cons offF2_ok (by kernel_rfl) (K_cons rlines_ok (by kernel_rfl) K_nil))))))))))
theorem hf_eq2 {x : Int} (h1 : -9223372036854775808 ≤ x) (h2 : x < 9223372036854775808) : hf x = hf2 x := by
  have e1 : hf x = x / 2 := fdiv2 x
  have e2 : w64 (x.tdiv 2) = x.tdiv 2 := by
    have := Int.tdiv_mul_add_tmod x 2
    rcases Int.le_total 0 x with h | h
    · rw [Int.tdiv_eq_ediv_of_nonneg h]; exact w64_id (by omega) (by omega)
    · have e : x.tdiv 2 = -((-x) / 2) := by
        rw [← Int.tdiv_eq_ediv_of_nonneg (by omega : 0 ≤ -x), Int.neg_tdiv, Int.neg_neg]
      rw [e]; unfold w64; rw [IntKind.wrap_i64]; omega
  have ht := Int.tdiv_mul_add_tmod x 2
  have hm1 := Int.tmod_lt_of_pos x (show (0 : Int) < 2 by decide)
  have hm2 := Int.tmod_lt_of_pos (-x) (show (0 : Int) < 2 by decide)
  rw [Int.neg_tmod] at hm2
  have hs : 0 ≤ x → 0 ≤ x.tmod 2 := fun h => Int.tmod_nonneg 2 h
  have hs2 : x ≤ 0 → x.tmod 2 ≤ 0 := fun h => by
    have := Int.tmod_nonneg 2 (show 0 ≤ -x by omega)
    rw [Int.neg_tmod] at this
    omega
  rw [e1]
  unfold hf2
  rw [e2]
  by_cases h : x.tmod 2 < 0
  · simp only [h, decide_true, cond_true]
    unfold w64; rw [IntKind.wrap_i64]; omega
  · simp only [h, decide_false, cond_false]
    omega
theorem w64_b (x : Int) : -9223372036854775808 ≤ w64 x ∧ w64 x < 9223372036854775808 := by
  unfold w64; rw [IntKind.wrap_i64]; omega
theorem off_eq (a b : Int) (p q : Bool) (s : Int) (r : Bool) : offH hf a b p q s r = offH hf2 a b p q s r := by
  have := w64_b (a - b)
  unfold offH
  rw [hf_eq2 this.1 this.2]
end Go.Proofs.Ytcpahifgdppkbaa.QAI
