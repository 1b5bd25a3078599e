/- Declarations read: digits' and blanks' specs; a number's walk. -/
import Derived.Test.YtcpahifgdppkbaaQWireBack5
set_option linter.unusedVariables false
set_option linter.unusedSimpArgs false
set_option maxRecDepth 100000
namespace Go.Proofs.Ytcpahifgdppkbaa.QAI
section
open Go Go.RowKit
theorem sk_loop {s : ByteArray} {a : Nat} (hs : s.size < 2 ^ 40) (ha : a ≤ s.size) :
    CodeSem skG 0 (.loop (bodyOf Try.f171 0)) (skS s a) (.exit 0, skS s (fstN (fun i => bkc (bt s i)) (s.size - a) a : Nat)) := by
  obtain ⟨h1, h2, h3, h4⟩ := fstN_spec (p := fun i => bkc (bt s i)) (s.size - a) a
  generalize fstN (fun i => bkc (bt s i)) (s.size - a) a = N at h1 h2 h3 h4 ⊢
  have key := loop_of (G := skG) (n0 := 0) (b := bodyOf Try.f171 0) (fun j => skS s ((a + j : Nat) : Int)) (N - a) (e := .exit 0) (Se := skS s ((a + (N - a) : Nat) : Int)) (by simp) ?_ fun j hj => ?_
  · rw [show a + (N - a) = N by omega] at key
    exact key
  · rw [show a + (N - a) = N by omega]
    by_cases hN : N = s.size
    · refine rT_sem skG_ok noLoopsS ((rT_go sk_e1 ?_).trans ?_)
      · try simp only [Int.toNat_natCast, Nat.zero_add]
        repeat' (first | exact AllT.nil | refine AllT.cons ?_ ?_)
        all_goals first | (with_reducible rfl) | (with_reducible assumption) | exact yes_of ⟨rfl, rfl⟩ | exact decide_eq_true (by omega) | exact beq_iff_eq.2 (by omega) | (simp; done) | (simp; omega)
      · try simp only [Int.toNat_natCast, Nat.zero_add]
        rfl
    · obtain ⟨b0, b1⟩ := bt_lt s N
      have hb : bkc (bt s N) = false := h4.resolve_left (by omega)
      have hb' : (!bkc (bt s N)) = true := by rw [hb]; rfl
      refine rT_sem skG_ok noLoopsS ((rT_go sk_e2 ?_).trans ?_)
      · try simp only [Int.toNat_natCast, Nat.zero_add]
        repeat' (first | exact AllT.nil | refine AllT.cons ?_ ?_)
        all_goals first | (with_reducible rfl) | (with_reducible assumption) | exact yes_of ⟨rfl, rfl⟩ | exact decide_eq_true (by omega) | exact beq_iff_eq.2 (by omega) | (simp; done) | (simp; omega)
      · try simp only [Int.toNat_natCast, Nat.zero_add]
        rfl
  · have e3 := succ64 (j := a + j) (by omega)
    obtain ⟨b0, b1⟩ := bt_lt s (a + j : Nat)
    have hb : bkc (bt s (a + j : Nat)) = true := h3 (a + j) (by omega) (by omega)
    refine rT_sem skG_ok noLoopsS ((rT_go sk_go ?_).trans ?_)
    · try simp only [Int.toNat_natCast, Nat.zero_add, e3]
      repeat' (first | exact AllT.nil | refine AllT.cons ?_ ?_)
      all_goals first | (with_reducible rfl) | (with_reducible assumption) | exact yes_of ⟨rfl, rfl⟩ | exact decide_eq_true (by omega) | exact beq_iff_eq.2 (by omega) | (simp; done) | (simp; omega)
    · try simp only [Int.toNat_natCast, Nat.zero_add, e3]
      rfl
def skN (s : ByteArray) (a : Nat) : Nat := fstN (fun i => bkc (bt s i)) (s.size - a) a
theorem skN_b {s : ByteArray} {a : Nat} (ha : a ≤ s.size) : a ≤ skN s a ∧ skN s a ≤ s.size := by
  obtain ⟨h1, h2, _, _⟩ := fstN_spec (p := fun i => bkc (bt s i)) (s.size - a) a
  unfold skN
  omega
noncomputable def skF : Spec := fun args h => match args, h with
  | [.c (.v (.string s)), .c (.v (.int .i64 a))], [] => .need (yes (s.size < 2 ^ 40 ∧ 0 ≤ a ∧ a ≤ s.size)) (.ret (I64 (skN s a.toNat : Nat), []))
  | _, _ => .fail
theorem skF_ok : SpecOk Try.prog 171 skF := by
  refine knownS KPS_ok Try.func171 fun args h r he => ?_
  unfold skF at he
  split at he
  · rename_i s a
    obtain ⟨⟨h1, h2, h3⟩, he⟩ := Tr.eval_ask.1 he
    cases he
    obtain ⟨n, rfl⟩ := Int.eq_ofNat_of_zero_le h2
    exact ⟨_, [], 60, _, tell_ok (sk_loop h1 (by omega)), Tr.go_eval sk_w ⟨yes_of ⟨rfl, rfl⟩, trivial⟩⟩
  · cases he
def dgN (s : ByteArray) (a : Nat) : Nat := fstN (fun i => dgc (bt s i)) (s.size - a) a - a
theorem dgN_b {s : ByteArray} {a : Nat} (ha : a ≤ s.size) : a + dgN s a ≤ s.size := by
  obtain ⟨h1, h2, _, _⟩ := fstN_spec (p := fun i => dgc (bt s i)) (s.size - a) a
  unfold dgN
  omega
theorem dg_loop {s : ByteArray} {a : Nat} (hs : s.size < 2 ^ 40) (ha : a ≤ s.size) :
    CodeSem dgG 0 (.loop (bodyOf Try.f183 0)) (dgS s a 0) (.exit 0, dgS s a (dgN s a : Nat)) := by
  obtain ⟨h1, h2, h3, h4⟩ := fstN_spec (p := fun i => dgc (bt s i)) (s.size - a) a
  unfold dgN
  generalize fstN (fun i => dgc (bt s i)) (s.size - a) a = N at h1 h2 h3 h4 ⊢
  refine loop_of (fun j => dgS s a (j : Int)) (N - a) (by simp) ?_ fun j hj => ?_
  · have w : w64 ((a : Int) + ((N - a : Nat) : Int)) = (N : Int) := by rw [w64_id (by omega) (by omega)]; omega
    by_cases hN : N = s.size
    · refine rT_sem dgG_ok noLoopsS ((rT_go dg_e1 ?_).trans ?_)
      · try simp only [Int.toNat_natCast, Nat.zero_add, w]
        repeat' (first | exact AllT.nil | refine AllT.cons ?_ ?_)
        all_goals first | (with_reducible rfl) | (with_reducible assumption) | exact yes_of ⟨rfl, rfl⟩ | exact decide_eq_true (by omega) | exact beq_iff_eq.2 (by omega) | (simp; done) | (simp; omega)
      · try simp only [Int.toNat_natCast, Nat.zero_add, w]
        rfl
    · obtain ⟨b0, b1⟩ := bt_lt s N
      have hb : dgc (bt s N) = false := h4.resolve_left (by omega)
      unfold dgc at hb
      by_cases h48 : bt s N ≥ 48
      · rw [decide_eq_true h48, Bool.true_and] at hb
        have hb' : (!decide (bt s N ≤ 57)) = true := by rw [hb]; rfl
        refine rT_sem dgG_ok noLoopsS ((rT_go dg_e3 ?_).trans ?_)
        · try simp only [Int.toNat_natCast, Nat.zero_add, w]
          repeat' (first | exact AllT.nil | refine AllT.cons ?_ ?_)
          all_goals first | (with_reducible rfl) | (with_reducible assumption) | exact yes_of ⟨rfl, rfl⟩ | exact decide_eq_true (by omega) | exact beq_iff_eq.2 (by omega) | (simp; done) | (simp; omega)
        · try simp only [Int.toNat_natCast, Nat.zero_add, w]
          rfl
      · refine rT_sem dgG_ok noLoopsS ((rT_go dg_e2 ?_).trans ?_)
        · try simp only [Int.toNat_natCast, Nat.zero_add, w]
          repeat' (first | exact AllT.nil | refine AllT.cons ?_ ?_)
          all_goals first | (with_reducible rfl) | (with_reducible assumption) | exact yes_of ⟨rfl, rfl⟩ | exact decide_eq_true (by omega) | exact beq_iff_eq.2 (by omega) | (simp; done) | (simp; omega)
        · try simp only [Int.toNat_natCast, Nat.zero_add, w]
          rfl
  · have e3 := succ64 (j := j) (by omega)
    have w : w64 ((a : Int) + (j : Int)) = ((a + j : Nat) : Int) := by rw [w64_id (by omega) (by omega)]; omega
    obtain ⟨b0, b1⟩ := bt_lt s (a + j : Nat)
    have hb := h3 (a + j) (by omega) (by omega)
    simp only [dgc, Bool.and_eq_true] at hb
    obtain ⟨hb1, hb2⟩ := hb
    refine rT_sem dgG_ok noLoopsS ((rT_go dg_go ?_).trans ?_)
    · try simp only [Int.toNat_natCast, Nat.zero_add, e3, w]
      repeat' (first | exact AllT.nil | refine AllT.cons ?_ ?_)
      all_goals first | (with_reducible rfl) | (with_reducible assumption) | exact yes_of ⟨rfl, rfl⟩ | exact decide_eq_true (by omega) | exact beq_iff_eq.2 (by omega) | (simp; done) | (simp; omega)
    · try simp only [Int.toNat_natCast, Nat.zero_add, e3, w]
      rfl
noncomputable def dgF : Spec := fun args h => match args, h with
  | [.c (.v (.string s)), .c (.v (.int .i64 a))], [] => .need (yes (s.size < 2 ^ 40 ∧ 0 ≤ a ∧ a ≤ s.size)) (.ret (I64 (dgN s a.toNat : Nat), []))
  | _, _ => .fail
theorem dgF_ok : SpecOk Try.prog 183 dgF := by
  refine knownS nilK Try.func183 fun args h r he => ?_
  unfold dgF at he
  split at he
  · rename_i s a
    obtain ⟨⟨h1, h2, h3⟩, he⟩ := Tr.eval_ask.1 he
    cases he
    obtain ⟨n, rfl⟩ := Int.eq_ofNat_of_zero_le h2
    exact ⟨_, [], 60, _, tell_ok (dg_loop h1 (by omega)), Tr.go_eval dg_w ⟨yes_of ⟨rfl, rfl⟩, trivial⟩⟩
  · cases he
noncomputable def KNU : Known := [(183, dgF)]
theorem KNU_ok : KnownOk KNU := consK dgF_ok (by kernel_rfl) nilK
abbrev nuK1 : List (Nat × Option TypeId) := [(0,none),(2,none),(9,none),(10,none),(11,none),(12,none),(13,none)]
abbrev nuK2 : List (Nat × Option TypeId) := [(0,none),(2,none),(9,none),(10,none),(12,none),(14,none),(15,none)]
abbrev nuK3 : List (Nat × Option TypeId) := [(0,none),(2,none),(9,none),(10,none),(12,none),(16,none)]
noncomputable def numG : Ctx2 := GT KNU (fun k => if k = 10 then nuK1 else if k = 20 then nuK2 else if k = 25 then nuK3 else []) 0 []
theorem numG_ok : XOk numG := GT_ok KNU_ok _ _ _
def nu1 (s : ByteArray) (be : Int) (ng : Bool) (a n v i : Int) : St := ⟨slots 110 [(0, StrA s), (2, I64 be), (9, Bo ng), (10, I64 a), (11, I64 n), (12, I64 v), (13, I64 i)], []⟩
def nu2 (s : ByteArray) (be : Int) (ng : Bool) (a v k i : Int) : St := ⟨slots 110 [(0, StrA s), (2, I64 be), (9, Bo ng), (10, I64 a), (12, I64 v), (14, I64 k), (15, I64 i)], []⟩
def nu3 (s : ByteArray) (be : Int) (ng : Bool) (a v i : Int) : St := ⟨slots 110 [(0, StrA s), (2, I64 be), (9, Bo ng), (10, I64 a), (12, I64 v), (16, I64 i)], []⟩
theorem nu1_go {s : ByteArray} {be : Int} {ng : Bool} {a n v i : Int} : (rT numG nol 0 49 (bodyOf Try.f181 0) nuK1 nuK1 (nu1 s be ng a n v i)).go [] = some ([decide (i < n), decide ((0 : Int) ≤ w64 (a + i)), decide (w64 (a + i) < ((s.size : Nat) : Int))], Ex.normal, { sl := slots 110 [(0, .c (.v (.string s))), (2, I64 be), (9, Bo ng), (10, I64 a), (11, I64 n), (12, I64 (w64 (w64 ((10 : Int) * v) + w64 (IntKind.u8.wrap (bt s (w64 (a + i)) - (48 : Int)))))), (13, I64 (w64 (i + (1 : Int))))], h := [] }) := by kernel_rfl
theorem nu1_e {s : ByteArray} {be : Int} {ng : Bool} {a n v i : Int} : (rT numG nol 0 49 (bodyOf Try.f181 0) nuK1 nuK1 (nu1 s be ng a n v i)).go [false] = some ([!decide (i < n)], Ex.exit 0, { sl := slots 110 [(0, .c (.v (.string s))), (2, I64 be), (9, Bo ng), (10, I64 a), (11, I64 n), (12, I64 v), (13, I64 i)], h := [] }) := by kernel_rfl
theorem nu2_go {s : ByteArray} {be : Int} {ng : Bool} {a v k i : Int} : (rT numG nol 0 41 (bodyOf Try.f181 1) nuK2 nuK2 (nu2 s be ng a v k i)).go [] = some ([decide (i < k), decide ((0 : Int) ≤ w64 (w64 (a + (1 : Int)) + i)), decide (w64 (w64 (a + (1 : Int)) + i) < ((s.size : Nat) : Int))], Ex.normal, { sl := slots 110 [(0, .c (.v (.string s))), (2, I64 be), (9, Bo ng), (10, I64 a), (12, I64 (w64 (w64 ((10 : Int) * v) + w64 (IntKind.u8.wrap (bt s (w64 (w64 (a + (1 : Int)) + i)) - (48 : Int)))))), (14, I64 k), (15, I64 (w64 (i + (1 : Int))))], h := [] }) := by kernel_rfl
theorem nu2_e {s : ByteArray} {be : Int} {ng : Bool} {a v k i : Int} : (rT numG nol 0 41 (bodyOf Try.f181 1) nuK2 nuK2 (nu2 s be ng a v k i)).go [false] = some ([!decide (i < k)], Ex.exit 2, { sl := slots 110 [(0, .c (.v (.string s))), (2, I64 be), (9, Bo ng), (10, I64 a), (12, I64 v), (14, I64 k), (15, I64 i)], h := [] }) := by kernel_rfl
theorem nu3_go {s : ByteArray} {be : Int} {ng : Bool} {a v i : Int} : (rT numG nol 0 45 (bodyOf Try.f181 2) nuK3 nuK3 (nu3 s be ng a v i)).go [] = some ([decide (i < be)], Ex.normal, { sl := slots 110 [(0, .c (.v (.string s))), (2, I64 be), (9, Bo ng), (10, I64 a), (12, I64 (w64 ((10 : Int) * v))), (16, I64 (w64 (i + (1 : Int))))], h := [] }) := by kernel_rfl
theorem nu3_e {s : ByteArray} {be : Int} {ng : Bool} {a v i : Int} : (rT numG nol 0 45 (bodyOf Try.f181 2) nuK3 nuK3 (nu3 s be ng a v i)).go [false] = some ([!decide (i < be)], Ex.exit 4, { sl := slots 110 [(0, .c (.v (.string s))), (2, I64 be), (9, Bo ng), (10, I64 a), (12, I64 v), (16, I64 i)], h := [] }) := by kernel_rfl
end
section
open Go Go.RowKit
theorem np_b1 {s : ByteArray} {ah be v1 v2 v3 z1 z2 z3 : Int} : (lfun numG nol 60 Try.f181 [StrA s, I64 ah, I64 be] []).go [] = some ([decide (((s.size : Nat) : Int) > (0 : Int)), true, true, decide ((0 : Int) < ((s.size : Nat) : Int)), true, true, bt s (0 : Int) == (45 : Int), yes (s.size < 2 ^ 40 ∧ (0 : Int) ≤ (1 : Int) ∧ (1 : Int) ≤ ((s.size : Nat) : Int)), decide (((dgN s 1 : Nat) : Int) < (1 : Int)), true, true, true, true], .tup [I64 0, .c (.v (.string { data := #[] })), Bo false], []) := by kernel_rfl
theorem np_b2 {s : ByteArray} {ah be v1 v2 v3 z1 z2 z3 : Int} : (lfun numG nol 60 Try.f181 [StrA s, I64 ah, I64 be] []).go [true, true, true, true, true, true, true, true, false, false, false, false] = some ([decide (((s.size : Nat) : Int) > (0 : Int)), true, true, decide ((0 : Int) < ((s.size : Nat) : Int)), true, true, bt s (0 : Int) == (45 : Int), yes (s.size < 2 ^ 40 ∧ (0 : Int) ≤ (1 : Int) ∧ (1 : Int) ≤ ((s.size : Nat) : Int)), !decide (((dgN s 1 : Nat) : Int) < (1 : Int)), true, true, true, decide (((dgN s 1 : Nat) : Int) > ah)], .tup [I64 0, .c (.v (.string { data := #[] })), Bo false], []) := by kernel_rfl
theorem np_d1 {s : ByteArray} {ah be v1 v2 v3 z1 z2 z3 : Int} : (lfun numG (byReg 10 (tell (bodyOf Try.f181 0) (nu1 s be (bt s 0 == 45) 1 ((dgN s (1 : Int).toNat : Nat) : Int) 0 0) (.exit 0, (nu1 s be (bt s 0 == 45) 1 ((dgN s (1 : Int).toNat : Nat) : Int) v1 z1))) (tell (bodyOf Try.f181 2) (nu3 s be (bt s 0 == 45) (w64 (1 + ((dgN s (1 : Int).toNat : Nat) : Int))) v1 0) (.exit 4, (nu3 s be (bt s 0 == 45) (w64 (1 + ((dgN s (1 : Int).toNat : Nat) : Int))) v3 z3)))) 60 Try.f181 [StrA s, I64 ah, I64 be] []).go [true, true, true, true, true, true, true, true, false, false, false, false, false, true, false, false, false, false, false, false] = some ([decide (((s.size : Nat) : Int) > (0 : Int)), true, true, decide ((0 : Int) < ((s.size : Nat) : Int)), true, true, bt s (0 : Int) == (45 : Int), yes (s.size < 2 ^ 40 ∧ (0 : Int) ≤ (1 : Int) ∧ (1 : Int) ≤ ((s.size : Nat) : Int)), !decide (((dgN s 1 : Nat) : Int) < (1 : Int)), true, true, true, !decide (((dgN s 1 : Nat) : Int) > ah), yes (wasS (bodyOf Try.f181 0) (nu1 s be (bt s 0 == 45) 1 ((dgN s (1 : Int).toNat : Nat) : Int) 0 0)), !decide (w64 ((1 : Int) + ((dgN s 1 : Nat) : Int)) < ((s.size : Nat) : Int)), true, true, true, true, true, yes (wasS (bodyOf Try.f181 2) (nu3 s be (bt s 0 == 45) (w64 (1 + ((dgN s (1 : Int).toNat : Nat) : Int))) v1 0)), bt s (0 : Int) == (45 : Int), decInt (w64 ((1 : Int) + ((dgN s 1 : Nat) : Int))) (((s.size : Nat) : Int)) s.size], .tup [I64 (w64 ((0 : Int) - v3)), .c (.v (.string (s.extract (w64 ((1 : Int) + ((dgN s 1 : Nat) : Int))).toNat s.size))), Bo true], []) := by kernel_rfl
theorem np_d2 {s : ByteArray} {ah be v1 v2 v3 z1 z2 z3 : Int} : (lfun numG (byReg 10 (tell (bodyOf Try.f181 0) (nu1 s be (bt s 0 == 45) 1 ((dgN s (1 : Int).toNat : Nat) : Int) 0 0) (.exit 0, (nu1 s be (bt s 0 == 45) 1 ((dgN s (1 : Int).toNat : Nat) : Int) v1 z1))) (tell (bodyOf Try.f181 2) (nu3 s be (bt s 0 == 45) (w64 (1 + ((dgN s (1 : Int).toNat : Nat) : Int))) v1 0) (.exit 4, (nu3 s be (bt s 0 == 45) (w64 (1 + ((dgN s (1 : Int).toNat : Nat) : Int))) v3 z3)))) 60 Try.f181 [StrA s, I64 ah, I64 be] []).go [true, true, true, true, true, true, true, true, false, false, false, false, false, true, true, true, true, true, true, true, true, false] = some ([decide (((s.size : Nat) : Int) > (0 : Int)), true, true, decide ((0 : Int) < ((s.size : Nat) : Int)), true, true, bt s (0 : Int) == (45 : Int), yes (s.size < 2 ^ 40 ∧ (0 : Int) ≤ (1 : Int) ∧ (1 : Int) ≤ ((s.size : Nat) : Int)), !decide (((dgN s 1 : Nat) : Int) < (1 : Int)), true, true, true, !decide (((dgN s 1 : Nat) : Int) > ah), yes (wasS (bodyOf Try.f181 0) (nu1 s be (bt s 0 == 45) 1 ((dgN s (1 : Int).toNat : Nat) : Int) 0 0)), decide (w64 ((1 : Int) + ((dgN s 1 : Nat) : Int)) < ((s.size : Nat) : Int)), true, true, decide ((0 : Int) ≤ w64 ((1 : Int) + ((dgN s 1 : Nat) : Int))), decide (w64 ((1 : Int) + ((dgN s 1 : Nat) : Int)) < ((s.size : Nat) : Int)), true, true, !bt s (w64 ((1 : Int) + ((dgN s 1 : Nat) : Int))) == (46 : Int), yes (wasS (bodyOf Try.f181 2) (nu3 s be (bt s 0 == 45) (w64 (1 + ((dgN s (1 : Int).toNat : Nat) : Int))) v1 0)), bt s (0 : Int) == (45 : Int), decInt (w64 ((1 : Int) + ((dgN s 1 : Nat) : Int))) (((s.size : Nat) : Int)) s.size], .tup [I64 (w64 ((0 : Int) - v3)), .c (.v (.string (s.extract (w64 ((1 : Int) + ((dgN s 1 : Nat) : Int))).toNat s.size))), Bo true], []) := by kernel_rfl
theorem np_k1 {s : ByteArray} {ah be v1 v2 v3 z1 z2 z3 : Int} : (lfun numG (byReg 10 (tell (bodyOf Try.f181 0) (nu1 s be (bt s 0 == 45) 1 ((dgN s (1 : Int).toNat : Nat) : Int) 0 0) (.exit 0, (nu1 s be (bt s 0 == 45) 1 ((dgN s (1 : Int).toNat : Nat) : Int) v1 z1))) (tell (bodyOf Try.f181 2) (nu3 s be (bt s 0 == 45) (w64 (1 + ((dgN s (1 : Int).toNat : Nat) : Int))) v1 0) (.exit 4, (nu3 s be (bt s 0 == 45) (w64 (1 + ((dgN s (1 : Int).toNat : Nat) : Int))) v3 z3)))) 60 Try.f181 [StrA s, I64 ah, I64 be] []).go [true, true, true, true, true, true, true, true, false, false, false, false, false] = some ([decide (((s.size : Nat) : Int) > (0 : Int)), true, true, decide ((0 : Int) < ((s.size : Nat) : Int)), true, true, bt s (0 : Int) == (45 : Int), yes (s.size < 2 ^ 40 ∧ (0 : Int) ≤ (1 : Int) ∧ (1 : Int) ≤ ((s.size : Nat) : Int)), !decide (((dgN s 1 : Nat) : Int) < (1 : Int)), true, true, true, !decide (((dgN s 1 : Nat) : Int) > ah), yes (wasS (bodyOf Try.f181 0) (nu1 s be (bt s 0 == 45) 1 ((dgN s (1 : Int).toNat : Nat) : Int) 0 0)), decide (w64 ((1 : Int) + ((dgN s 1 : Nat) : Int)) < ((s.size : Nat) : Int)), true, true, decide ((0 : Int) ≤ w64 ((1 : Int) + ((dgN s 1 : Nat) : Int))), decide (w64 ((1 : Int) + ((dgN s 1 : Nat) : Int)) < ((s.size : Nat) : Int)), true, true, bt s (w64 ((1 : Int) + ((dgN s 1 : Nat) : Int))) == (46 : Int), yes (s.size < 2 ^ 40 ∧ (0 : Int) ≤ w64 (w64 ((1 : Int) + ((dgN s 1 : Nat) : Int)) + (1 : Int)) ∧ w64 (w64 ((1 : Int) + ((dgN s 1 : Nat) : Int)) + (1 : Int)) ≤ ((s.size : Nat) : Int)), decide (((dgN s (w64 (w64 ((1 : Int) + ((dgN s 1 : Nat) : Int)) + (1 : Int))).toNat : Nat) : Int) < (1 : Int)), true, true, true, true], .tup [I64 0, .c (.v (.string { data := #[] })), Bo false], []) := by kernel_rfl
theorem np_k2 {s : ByteArray} {ah be v1 v2 v3 z1 z2 z3 : Int} : (lfun numG (byReg 10 (tell (bodyOf Try.f181 0) (nu1 s be (bt s 0 == 45) 1 ((dgN s (1 : Int).toNat : Nat) : Int) 0 0) (.exit 0, (nu1 s be (bt s 0 == 45) 1 ((dgN s (1 : Int).toNat : Nat) : Int) v1 z1))) (tell (bodyOf Try.f181 2) (nu3 s be (bt s 0 == 45) (w64 (1 + ((dgN s (1 : Int).toNat : Nat) : Int))) v1 0) (.exit 4, (nu3 s be (bt s 0 == 45) (w64 (1 + ((dgN s (1 : Int).toNat : Nat) : Int))) v3 z3)))) 60 Try.f181 [StrA s, I64 ah, I64 be] []).go [true, true, true, true, true, true, true, true, false, false, false, false, false, true, true, true, true, true, true, true, true, true, true, false, false, false, false] = some ([decide (((s.size : Nat) : Int) > (0 : Int)), true, true, decide ((0 : Int) < ((s.size : Nat) : Int)), true, true, bt s (0 : Int) == (45 : Int), yes (s.size < 2 ^ 40 ∧ (0 : Int) ≤ (1 : Int) ∧ (1 : Int) ≤ ((s.size : Nat) : Int)), !decide (((dgN s 1 : Nat) : Int) < (1 : Int)), true, true, true, !decide (((dgN s 1 : Nat) : Int) > ah), yes (wasS (bodyOf Try.f181 0) (nu1 s be (bt s 0 == 45) 1 ((dgN s (1 : Int).toNat : Nat) : Int) 0 0)), decide (w64 ((1 : Int) + ((dgN s 1 : Nat) : Int)) < ((s.size : Nat) : Int)), true, true, decide ((0 : Int) ≤ w64 ((1 : Int) + ((dgN s 1 : Nat) : Int))), decide (w64 ((1 : Int) + ((dgN s 1 : Nat) : Int)) < ((s.size : Nat) : Int)), true, true, bt s (w64 ((1 : Int) + ((dgN s 1 : Nat) : Int))) == (46 : Int), yes (s.size < 2 ^ 40 ∧ (0 : Int) ≤ w64 (w64 ((1 : Int) + ((dgN s 1 : Nat) : Int)) + (1 : Int)) ∧ w64 (w64 ((1 : Int) + ((dgN s 1 : Nat) : Int)) + (1 : Int)) ≤ ((s.size : Nat) : Int)), !decide (((dgN s (w64 (w64 ((1 : Int) + ((dgN s 1 : Nat) : Int)) + (1 : Int))).toNat : Nat) : Int) < (1 : Int)), true, true, true, decide (((dgN s (w64 (w64 ((1 : Int) + ((dgN s 1 : Nat) : Int)) + (1 : Int))).toNat : Nat) : Int) > be)], .tup [I64 0, .c (.v (.string { data := #[] })), Bo false], []) := by kernel_rfl
theorem np_ok {s : ByteArray} {ah be v1 v2 v3 z1 z2 z3 : Int} : (lfun numG (byReg 10 (tell (bodyOf Try.f181 0) (nu1 s be (bt s 0 == 45) 1 ((dgN s (1 : Int).toNat : Nat) : Int) 0 0) (.exit 0, (nu1 s be (bt s 0 == 45) 1 ((dgN s (1 : Int).toNat : Nat) : Int) v1 z1))) (byReg 20 (tell (bodyOf Try.f181 1) (nu2 s be (bt s 0 == 45) (w64 (1 + ((dgN s (1 : Int).toNat : Nat) : Int))) v1 ((dgN s (w64 ((w64 (1 + ((dgN s (1 : Int).toNat : Nat) : Int))) + 1)).toNat : Nat) : Int) 0) (.exit 2, (nu2 s be (bt s 0 == 45) (w64 (1 + ((dgN s (1 : Int).toNat : Nat) : Int))) v2 ((dgN s (w64 ((w64 (1 + ((dgN s (1 : Int).toNat : Nat) : Int))) + 1)).toNat : Nat) : Int) z2))) (tell (bodyOf Try.f181 2) (nu3 s be (bt s 0 == 45) (w64 (w64 ((w64 (1 + ((dgN s (1 : Int).toNat : Nat) : Int))) + 1) + ((dgN s (w64 ((w64 (1 + ((dgN s (1 : Int).toNat : Nat) : Int))) + 1)).toNat : Nat) : Int))) v2 ((dgN s (w64 ((w64 (1 + ((dgN s (1 : Int).toNat : Nat) : Int))) + 1)).toNat : Nat) : Int)) (.exit 4, (nu3 s be (bt s 0 == 45) (w64 (w64 ((w64 (1 + ((dgN s (1 : Int).toNat : Nat) : Int))) + 1) + ((dgN s (w64 ((w64 (1 + ((dgN s (1 : Int).toNat : Nat) : Int))) + 1)).toNat : Nat) : Int))) v3 z3))))) 60 Try.f181 [StrA s, I64 ah, I64 be] []).go [true, true, true, true, true, true, true, true, false, false, false, false, false, true, true, true, true, true, true, true, true, true, true, false, false, false, false, false] = some ([decide (((s.size : Nat) : Int) > (0 : Int)), true, true, decide ((0 : Int) < ((s.size : Nat) : Int)), true, true, bt s (0 : Int) == (45 : Int), yes (s.size < 2 ^ 40 ∧ (0 : Int) ≤ (1 : Int) ∧ (1 : Int) ≤ ((s.size : Nat) : Int)), !decide (((dgN s 1 : Nat) : Int) < (1 : Int)), true, true, true, !decide (((dgN s 1 : Nat) : Int) > ah), yes (wasS (bodyOf Try.f181 0) (nu1 s be (bt s 0 == 45) 1 ((dgN s (1 : Int).toNat : Nat) : Int) 0 0)), decide (w64 ((1 : Int) + ((dgN s 1 : Nat) : Int)) < ((s.size : Nat) : Int)), true, true, decide ((0 : Int) ≤ w64 ((1 : Int) + ((dgN s 1 : Nat) : Int))), decide (w64 ((1 : Int) + ((dgN s 1 : Nat) : Int)) < ((s.size : Nat) : Int)), true, true, bt s (w64 ((1 : Int) + ((dgN s 1 : Nat) : Int))) == (46 : Int), yes (s.size < 2 ^ 40 ∧ (0 : Int) ≤ w64 (w64 ((1 : Int) + ((dgN s 1 : Nat) : Int)) + (1 : Int)) ∧ w64 (w64 ((1 : Int) + ((dgN s 1 : Nat) : Int)) + (1 : Int)) ≤ ((s.size : Nat) : Int)), !decide (((dgN s (w64 (w64 ((1 : Int) + ((dgN s 1 : Nat) : Int)) + (1 : Int))).toNat : Nat) : Int) < (1 : Int)), true, true, true, !decide (((dgN s (w64 (w64 ((1 : Int) + ((dgN s 1 : Nat) : Int)) + (1 : Int))).toNat : Nat) : Int) > be), yes (wasS (bodyOf Try.f181 1) (nu2 s be (bt s 0 == 45) (w64 (1 + ((dgN s (1 : Int).toNat : Nat) : Int))) v1 ((dgN s (w64 ((w64 (1 + ((dgN s (1 : Int).toNat : Nat) : Int))) + 1)).toNat : Nat) : Int) 0)), yes (wasS (bodyOf Try.f181 2) (nu3 s be (bt s 0 == 45) (w64 (w64 ((w64 (1 + ((dgN s (1 : Int).toNat : Nat) : Int))) + 1) + ((dgN s (w64 ((w64 (1 + ((dgN s (1 : Int).toNat : Nat) : Int))) + 1)).toNat : Nat) : Int))) v2 ((dgN s (w64 ((w64 (1 + ((dgN s (1 : Int).toNat : Nat) : Int))) + 1)).toNat : Nat) : Int))), bt s (0 : Int) == (45 : Int), decInt (w64 (w64 (w64 ((1 : Int) + ((dgN s 1 : Nat) : Int)) + (1 : Int)) + ((dgN s (w64 (w64 ((1 : Int) + ((dgN s 1 : Nat) : Int)) + (1 : Int))).toNat : Nat) : Int))) (((s.size : Nat) : Int)) s.size], .tup [I64 (w64 ((0 : Int) - v3)), .c (.v (.string (s.extract (w64 (w64 (w64 ((1 : Int) + ((dgN s 1 : Nat) : Int)) + (1 : Int)) + ((dgN s (w64 (w64 ((1 : Int) + ((dgN s 1 : Nat) : Int)) + (1 : Int))).toNat : Nat) : Int))).toNat s.size))), Bo true], []) := by kernel_rfl
theorem nn_b1 {s : ByteArray} {ah be v1 v2 v3 z1 z2 z3 : Int} : (lfun numG nol 60 Try.f181 [StrA s, I64 ah, I64 be] []).go [true, true, true, true, true, true, false] = some ([decide (((s.size : Nat) : Int) > (0 : Int)), true, true, decide ((0 : Int) < ((s.size : Nat) : Int)), true, true, !bt s (0 : Int) == (45 : Int), yes (s.size < 2 ^ 40 ∧ (0 : Int) ≤ (0 : Int) ∧ (0 : Int) ≤ ((s.size : Nat) : Int)), decide (((dgN s 0 : Nat) : Int) < (1 : Int)), true, true, true, true], .tup [I64 0, .c (.v (.string { data := #[] })), Bo false], []) := by kernel_rfl
theorem nn_b2 {s : ByteArray} {ah be v1 v2 v3 z1 z2 z3 : Int} : (lfun numG nol 60 Try.f181 [StrA s, I64 ah, I64 be] []).go [true, true, true, true, true, true, false, true, false, false, false, false] = some ([decide (((s.size : Nat) : Int) > (0 : Int)), true, true, decide ((0 : Int) < ((s.size : Nat) : Int)), true, true, !bt s (0 : Int) == (45 : Int), yes (s.size < 2 ^ 40 ∧ (0 : Int) ≤ (0 : Int) ∧ (0 : Int) ≤ ((s.size : Nat) : Int)), !decide (((dgN s 0 : Nat) : Int) < (1 : Int)), true, true, true, decide (((dgN s 0 : Nat) : Int) > ah)], .tup [I64 0, .c (.v (.string { data := #[] })), Bo false], []) := by kernel_rfl
theorem nn_d1 {s : ByteArray} {ah be v1 v2 v3 z1 z2 z3 : Int} : (lfun numG (byReg 10 (tell (bodyOf Try.f181 0) (nu1 s be (bt s 0 == 45) 0 ((dgN s (0 : Int).toNat : Nat) : Int) 0 0) (.exit 0, (nu1 s be (bt s 0 == 45) 0 ((dgN s (0 : Int).toNat : Nat) : Int) v1 z1))) (tell (bodyOf Try.f181 2) (nu3 s be (bt s 0 == 45) (w64 (0 + ((dgN s (0 : Int).toNat : Nat) : Int))) v1 0) (.exit 4, (nu3 s be (bt s 0 == 45) (w64 (0 + ((dgN s (0 : Int).toNat : Nat) : Int))) v3 z3)))) 60 Try.f181 [StrA s, I64 ah, I64 be] []).go [true, true, true, true, true, true, false, true, false, false, false, false, false, true, false, false, false, false, false, false, true, false] = some ([decide (((s.size : Nat) : Int) > (0 : Int)), true, true, decide ((0 : Int) < ((s.size : Nat) : Int)), true, true, !bt s (0 : Int) == (45 : Int), yes (s.size < 2 ^ 40 ∧ (0 : Int) ≤ (0 : Int) ∧ (0 : Int) ≤ ((s.size : Nat) : Int)), !decide (((dgN s 0 : Nat) : Int) < (1 : Int)), true, true, true, !decide (((dgN s 0 : Nat) : Int) > ah), yes (wasS (bodyOf Try.f181 0) (nu1 s be (bt s 0 == 45) 0 ((dgN s (0 : Int).toNat : Nat) : Int) 0 0)), !decide (w64 ((0 : Int) + ((dgN s 0 : Nat) : Int)) < ((s.size : Nat) : Int)), true, true, true, true, true, yes (wasS (bodyOf Try.f181 2) (nu3 s be (bt s 0 == 45) (w64 (0 + ((dgN s (0 : Int).toNat : Nat) : Int))) v1 0)), !bt s (0 : Int) == (45 : Int), decInt (w64 ((0 : Int) + ((dgN s 0 : Nat) : Int))) (((s.size : Nat) : Int)) s.size], .tup [I64 v3, .c (.v (.string (s.extract (w64 ((0 : Int) + ((dgN s 0 : Nat) : Int))).toNat s.size))), Bo true], []) := by kernel_rfl
theorem nn_d2 {s : ByteArray} {ah be v1 v2 v3 z1 z2 z3 : Int} : (lfun numG (byReg 10 (tell (bodyOf Try.f181 0) (nu1 s be (bt s 0 == 45) 0 ((dgN s (0 : Int).toNat : Nat) : Int) 0 0) (.exit 0, (nu1 s be (bt s 0 == 45) 0 ((dgN s (0 : Int).toNat : Nat) : Int) v1 z1))) (tell (bodyOf Try.f181 2) (nu3 s be (bt s 0 == 45) (w64 (0 + ((dgN s (0 : Int).toNat : Nat) : Int))) v1 0) (.exit 4, (nu3 s be (bt s 0 == 45) (w64 (0 + ((dgN s (0 : Int).toNat : Nat) : Int))) v3 z3)))) 60 Try.f181 [StrA s, I64 ah, I64 be] []).go [true, true, true, true, true, true, false, true, false, false, false, false, false, true, true, true, true, true, true, true, true, false, true, false] = some ([decide (((s.size : Nat) : Int) > (0 : Int)), true, true, decide ((0 : Int) < ((s.size : Nat) : Int)), true, true, !bt s (0 : Int) == (45 : Int), yes (s.size < 2 ^ 40 ∧ (0 : Int) ≤ (0 : Int) ∧ (0 : Int) ≤ ((s.size : Nat) : Int)), !decide (((dgN s 0 : Nat) : Int) < (1 : Int)), true, true, true, !decide (((dgN s 0 : Nat) : Int) > ah), yes (wasS (bodyOf Try.f181 0) (nu1 s be (bt s 0 == 45) 0 ((dgN s (0 : Int).toNat : Nat) : Int) 0 0)), decide (w64 ((0 : Int) + ((dgN s 0 : Nat) : Int)) < ((s.size : Nat) : Int)), true, true, decide ((0 : Int) ≤ w64 ((0 : Int) + ((dgN s 0 : Nat) : Int))), decide (w64 ((0 : Int) + ((dgN s 0 : Nat) : Int)) < ((s.size : Nat) : Int)), true, true, !bt s (w64 ((0 : Int) + ((dgN s 0 : Nat) : Int))) == (46 : Int), yes (wasS (bodyOf Try.f181 2) (nu3 s be (bt s 0 == 45) (w64 (0 + ((dgN s (0 : Int).toNat : Nat) : Int))) v1 0)), !bt s (0 : Int) == (45 : Int), decInt (w64 ((0 : Int) + ((dgN s 0 : Nat) : Int))) (((s.size : Nat) : Int)) s.size], .tup [I64 v3, .c (.v (.string (s.extract (w64 ((0 : Int) + ((dgN s 0 : Nat) : Int))).toNat s.size))), Bo true], []) := by kernel_rfl
theorem nn_k1 {s : ByteArray} {ah be v1 v2 v3 z1 z2 z3 : Int} : (lfun numG (byReg 10 (tell (bodyOf Try.f181 0) (nu1 s be (bt s 0 == 45) 0 ((dgN s (0 : Int).toNat : Nat) : Int) 0 0) (.exit 0, (nu1 s be (bt s 0 == 45) 0 ((dgN s (0 : Int).toNat : Nat) : Int) v1 z1))) (tell (bodyOf Try.f181 2) (nu3 s be (bt s 0 == 45) (w64 (0 + ((dgN s (0 : Int).toNat : Nat) : Int))) v1 0) (.exit 4, (nu3 s be (bt s 0 == 45) (w64 (0 + ((dgN s (0 : Int).toNat : Nat) : Int))) v3 z3)))) 60 Try.f181 [StrA s, I64 ah, I64 be] []).go [true, true, true, true, true, true, false, true, false, false, false, false, false] = some ([decide (((s.size : Nat) : Int) > (0 : Int)), true, true, decide ((0 : Int) < ((s.size : Nat) : Int)), true, true, !bt s (0 : Int) == (45 : Int), yes (s.size < 2 ^ 40 ∧ (0 : Int) ≤ (0 : Int) ∧ (0 : Int) ≤ ((s.size : Nat) : Int)), !decide (((dgN s 0 : Nat) : Int) < (1 : Int)), true, true, true, !decide (((dgN s 0 : Nat) : Int) > ah), yes (wasS (bodyOf Try.f181 0) (nu1 s be (bt s 0 == 45) 0 ((dgN s (0 : Int).toNat : Nat) : Int) 0 0)), decide (w64 ((0 : Int) + ((dgN s 0 : Nat) : Int)) < ((s.size : Nat) : Int)), true, true, decide ((0 : Int) ≤ w64 ((0 : Int) + ((dgN s 0 : Nat) : Int))), decide (w64 ((0 : Int) + ((dgN s 0 : Nat) : Int)) < ((s.size : Nat) : Int)), true, true, bt s (w64 ((0 : Int) + ((dgN s 0 : Nat) : Int))) == (46 : Int), yes (s.size < 2 ^ 40 ∧ (0 : Int) ≤ w64 (w64 ((0 : Int) + ((dgN s 0 : Nat) : Int)) + (1 : Int)) ∧ w64 (w64 ((0 : Int) + ((dgN s 0 : Nat) : Int)) + (1 : Int)) ≤ ((s.size : Nat) : Int)), decide (((dgN s (w64 (w64 ((0 : Int) + ((dgN s 0 : Nat) : Int)) + (1 : Int))).toNat : Nat) : Int) < (1 : Int)), true, true, true, true], .tup [I64 0, .c (.v (.string { data := #[] })), Bo false], []) := by kernel_rfl
theorem nn_k2 {s : ByteArray} {ah be v1 v2 v3 z1 z2 z3 : Int} : (lfun numG (byReg 10 (tell (bodyOf Try.f181 0) (nu1 s be (bt s 0 == 45) 0 ((dgN s (0 : Int).toNat : Nat) : Int) 0 0) (.exit 0, (nu1 s be (bt s 0 == 45) 0 ((dgN s (0 : Int).toNat : Nat) : Int) v1 z1))) (tell (bodyOf Try.f181 2) (nu3 s be (bt s 0 == 45) (w64 (0 + ((dgN s (0 : Int).toNat : Nat) : Int))) v1 0) (.exit 4, (nu3 s be (bt s 0 == 45) (w64 (0 + ((dgN s (0 : Int).toNat : Nat) : Int))) v3 z3)))) 60 Try.f181 [StrA s, I64 ah, I64 be] []).go [true, true, true, true, true, true, false, true, false, false, false, false, false, true, true, true, true, true, true, true, true, true, true, false, false, false, false] = some ([decide (((s.size : Nat) : Int) > (0 : Int)), true, true, decide ((0 : Int) < ((s.size : Nat) : Int)), true, true, !bt s (0 : Int) == (45 : Int), yes (s.size < 2 ^ 40 ∧ (0 : Int) ≤ (0 : Int) ∧ (0 : Int) ≤ ((s.size : Nat) : Int)), !decide (((dgN s 0 : Nat) : Int) < (1 : Int)), true, true, true, !decide (((dgN s 0 : Nat) : Int) > ah), yes (wasS (bodyOf Try.f181 0) (nu1 s be (bt s 0 == 45) 0 ((dgN s (0 : Int).toNat : Nat) : Int) 0 0)), decide (w64 ((0 : Int) + ((dgN s 0 : Nat) : Int)) < ((s.size : Nat) : Int)), true, true, decide ((0 : Int) ≤ w64 ((0 : Int) + ((dgN s 0 : Nat) : Int))), decide (w64 ((0 : Int) + ((dgN s 0 : Nat) : Int)) < ((s.size : Nat) : Int)), true, true, bt s (w64 ((0 : Int) + ((dgN s 0 : Nat) : Int))) == (46 : Int), yes (s.size < 2 ^ 40 ∧ (0 : Int) ≤ w64 (w64 ((0 : Int) + ((dgN s 0 : Nat) : Int)) + (1 : Int)) ∧ w64 (w64 ((0 : Int) + ((dgN s 0 : Nat) : Int)) + (1 : Int)) ≤ ((s.size : Nat) : Int)), !decide (((dgN s (w64 (w64 ((0 : Int) + ((dgN s 0 : Nat) : Int)) + (1 : Int))).toNat : Nat) : Int) < (1 : Int)), true, true, true, decide (((dgN s (w64 (w64 ((0 : Int) + ((dgN s 0 : Nat) : Int)) + (1 : Int))).toNat : Nat) : Int) > be)], .tup [I64 0, .c (.v (.string { data := #[] })), Bo false], []) := by kernel_rfl
theorem nn_ok {s : ByteArray} {ah be v1 v2 v3 z1 z2 z3 : Int} : (lfun numG (byReg 10 (tell (bodyOf Try.f181 0) (nu1 s be (bt s 0 == 45) 0 ((dgN s (0 : Int).toNat : Nat) : Int) 0 0) (.exit 0, (nu1 s be (bt s 0 == 45) 0 ((dgN s (0 : Int).toNat : Nat) : Int) v1 z1))) (byReg 20 (tell (bodyOf Try.f181 1) (nu2 s be (bt s 0 == 45) (w64 (0 + ((dgN s (0 : Int).toNat : Nat) : Int))) v1 ((dgN s (w64 ((w64 (0 + ((dgN s (0 : Int).toNat : Nat) : Int))) + 1)).toNat : Nat) : Int) 0) (.exit 2, (nu2 s be (bt s 0 == 45) (w64 (0 + ((dgN s (0 : Int).toNat : Nat) : Int))) v2 ((dgN s (w64 ((w64 (0 + ((dgN s (0 : Int).toNat : Nat) : Int))) + 1)).toNat : Nat) : Int) z2))) (tell (bodyOf Try.f181 2) (nu3 s be (bt s 0 == 45) (w64 (w64 ((w64 (0 + ((dgN s (0 : Int).toNat : Nat) : Int))) + 1) + ((dgN s (w64 ((w64 (0 + ((dgN s (0 : Int).toNat : Nat) : Int))) + 1)).toNat : Nat) : Int))) v2 ((dgN s (w64 ((w64 (0 + ((dgN s (0 : Int).toNat : Nat) : Int))) + 1)).toNat : Nat) : Int)) (.exit 4, (nu3 s be (bt s 0 == 45) (w64 (w64 ((w64 (0 + ((dgN s (0 : Int).toNat : Nat) : Int))) + 1) + ((dgN s (w64 ((w64 (0 + ((dgN s (0 : Int).toNat : Nat) : Int))) + 1)).toNat : Nat) : Int))) v3 z3))))) 60 Try.f181 [StrA s, I64 ah, I64 be] []).go [true, true, true, true, true, true, false, true, false, false, false, false, false, true, true, true, true, true, true, true, true, true, true, false, false, false, false, false, true, true, false] = some ([decide (((s.size : Nat) : Int) > (0 : Int)), true, true, decide ((0 : Int) < ((s.size : Nat) : Int)), true, true, !bt s (0 : Int) == (45 : Int), yes (s.size < 2 ^ 40 ∧ (0 : Int) ≤ (0 : Int) ∧ (0 : Int) ≤ ((s.size : Nat) : Int)), !decide (((dgN s 0 : Nat) : Int) < (1 : Int)), true, true, true, !decide (((dgN s 0 : Nat) : Int) > ah), yes (wasS (bodyOf Try.f181 0) (nu1 s be (bt s 0 == 45) 0 ((dgN s (0 : Int).toNat : Nat) : Int) 0 0)), decide (w64 ((0 : Int) + ((dgN s 0 : Nat) : Int)) < ((s.size : Nat) : Int)), true, true, decide ((0 : Int) ≤ w64 ((0 : Int) + ((dgN s 0 : Nat) : Int))), decide (w64 ((0 : Int) + ((dgN s 0 : Nat) : Int)) < ((s.size : Nat) : Int)), true, true, bt s (w64 ((0 : Int) + ((dgN s 0 : Nat) : Int))) == (46 : Int), yes (s.size < 2 ^ 40 ∧ (0 : Int) ≤ w64 (w64 ((0 : Int) + ((dgN s 0 : Nat) : Int)) + (1 : Int)) ∧ w64 (w64 ((0 : Int) + ((dgN s 0 : Nat) : Int)) + (1 : Int)) ≤ ((s.size : Nat) : Int)), !decide (((dgN s (w64 (w64 ((0 : Int) + ((dgN s 0 : Nat) : Int)) + (1 : Int))).toNat : Nat) : Int) < (1 : Int)), true, true, true, !decide (((dgN s (w64 (w64 ((0 : Int) + ((dgN s 0 : Nat) : Int)) + (1 : Int))).toNat : Nat) : Int) > be), yes (wasS (bodyOf Try.f181 1) (nu2 s be (bt s 0 == 45) (w64 (0 + ((dgN s (0 : Int).toNat : Nat) : Int))) v1 ((dgN s (w64 ((w64 (0 + ((dgN s (0 : Int).toNat : Nat) : Int))) + 1)).toNat : Nat) : Int) 0)), yes (wasS (bodyOf Try.f181 2) (nu3 s be (bt s 0 == 45) (w64 (w64 ((w64 (0 + ((dgN s (0 : Int).toNat : Nat) : Int))) + 1) + ((dgN s (w64 ((w64 (0 + ((dgN s (0 : Int).toNat : Nat) : Int))) + 1)).toNat : Nat) : Int))) v2 ((dgN s (w64 ((w64 (0 + ((dgN s (0 : Int).toNat : Nat) : Int))) + 1)).toNat : Nat) : Int))), !bt s (0 : Int) == (45 : Int), decInt (w64 (w64 (w64 ((0 : Int) + ((dgN s 0 : Nat) : Int)) + (1 : Int)) + ((dgN s (w64 (w64 ((0 : Int) + ((dgN s 0 : Nat) : Int)) + (1 : Int))).toNat : Nat) : Int))) (((s.size : Nat) : Int)) s.size], .tup [I64 v3, .c (.v (.string (s.extract (w64 (w64 (w64 ((0 : Int) + ((dgN s 0 : Nat) : Int)) + (1 : Int)) + ((dgN s (w64 (w64 ((0 : Int) + ((dgN s 0 : Nat) : Int)) + (1 : Int))).toNat : Nat) : Int))).toNat s.size))), Bo true], []) := by kernel_rfl
theorem nz {s : ByteArray} {ah be v1 v2 v3 z1 z2 z3 : Int} : (lfun numG nol 60 Try.f181 [StrA s, I64 ah, I64 be] []).go [false, false, false, false, false] = some ([!decide (((s.size : Nat) : Int) > (0 : Int)), true, true, true, true, yes (s.size < 2 ^ 40 ∧ (0 : Int) ≤ (0 : Int) ∧ (0 : Int) ≤ ((s.size : Nat) : Int)), decide (((dgN s 0 : Nat) : Int) < (1 : Int)), true, true, true, true], .tup [I64 0, .c (.v (.string { data := #[] })), Bo false], []) := by kernel_rfl
end
section
open Go Go.RowKit
theorem CodeSem.of_eq' {G : Ctx2} {n0 : Nat} {c : Code} {S S' : St} {r : Ex × St} (e : S = S') (h : CodeSem G n0 c S r) : CodeSem G n0 c S' r := e ▸ h
end
section
open Go Go.RowKit
theorem nu1_loop {s : ByteArray} {be : Int} {ng : Bool} {a n : Nat} (hs : s.size < 2 ^ 40) (ha : a + n ≤ s.size) : ∀ d i v, i + d = n → ∃ v', LoopR numG 0 (bodyOf Try.f181 0) (nu1 s be ng a n v (i : Nat)) (.exit 0, nu1 s be ng a n v' n)
  | 0, i, v, h => ⟨v, by
    rw [show i = n by omega]
    exact LoopR.stop (by simp) (rT_sem numG_ok noLoopsS (rT_go nu1_e ⟨by simp, trivial⟩))⟩
  | d + 1, i, v, h => by
    have e3 := succ64 (j := i) (by omega)
    have w : w64 ((a : Int) + (i : Int)) = ((a + i : Nat) : Int) := by rw [w64_id (by omega) (by omega)]; omega
    obtain ⟨b0, b1⟩ := bt_lt s (a + i : Nat)
    obtain ⟨v', hv⟩ := nu1_loop (be := be) (ng := ng) hs ha d (i + 1) _ (by omega)
    refine ⟨v', LoopR.next ?_ hv⟩
    refine rT_sem numG_ok noLoopsS ((rT_go nu1_go ?_).trans ?_)
    · try simp only [Int.toNat_natCast, Nat.zero_add, e3, w]
      repeat' (first | exact AllT.nil | refine AllT.cons ?_ ?_)
      all_goals first | (with_reducible rfl) | (with_reducible assumption) | exact yes_of ⟨rfl, rfl⟩ | exact decide_eq_true (by omega) | exact beq_iff_eq.2 (by omega) | (simp; done) | (simp; omega)
    · try simp only [Int.toNat_natCast, Nat.zero_add, e3, w]
      rfl
theorem nu2_loop {s : ByteArray} {be : Int} {ng : Bool} {a n : Nat} (hs : s.size < 2 ^ 40) (ha : a + 1 + n ≤ s.size) : ∀ d i v, i + d = n → ∃ v', LoopR numG 0 (bodyOf Try.f181 1) (nu2 s be ng a v n (i : Nat)) (.exit 2, nu2 s be ng a v' n n)
  | 0, i, v, h => ⟨v, by
    rw [show i = n by omega]
    exact LoopR.stop (by simp) (rT_sem numG_ok noLoopsS (rT_go nu2_e ⟨by simp, trivial⟩))⟩
  | d + 1, i, v, h => by
    have e3 := succ64 (j := i) (by omega)
    have w0 : w64 ((a : Int) + 1) = ((a + 1 : Nat) : Int) := succ64 (by omega)
    have w : w64 (((a + 1 : Nat) : Int) + (i : Int)) = ((a + 1 + i : Nat) : Int) := by rw [w64_id (by omega) (by omega)]; omega
    obtain ⟨b0, b1⟩ := bt_lt s (a + 1 + i : Nat)
    obtain ⟨v', hv⟩ := nu2_loop (be := be) (ng := ng) hs ha d (i + 1) _ (by omega)
    refine ⟨v', LoopR.next ?_ hv⟩
    refine rT_sem numG_ok noLoopsS ((rT_go nu2_go ?_).trans ?_)
    · try simp only [Int.toNat_natCast, Nat.zero_add, e3, w0, w]
      repeat' (first | exact AllT.nil | refine AllT.cons ?_ ?_)
      all_goals first | (with_reducible rfl) | (with_reducible assumption) | exact yes_of ⟨rfl, rfl⟩ | exact decide_eq_true (by omega) | exact beq_iff_eq.2 (by omega) | (simp; done) | (simp; omega)
    · try simp only [Int.toNat_natCast, Nat.zero_add, e3, w0, w]
      rfl
theorem nu3_loop {s : ByteArray} {be : Nat} {ng : Bool} {a : Int} (hb : be ≤ 10) : ∀ d i v, i + d = be → ∃ v', LoopR numG 0 (bodyOf Try.f181 2) (nu3 s be ng a v (i : Nat)) (.exit 4, nu3 s be ng a v' be)
  | 0, i, v, h => ⟨v, by
    rw [show i = be by omega]
    exact LoopR.stop (by simp) (rT_sem numG_ok noLoopsS (rT_go nu3_e ⟨by simp, trivial⟩))⟩
  | d + 1, i, v, h => by
    have e3 := succ64 (j := i) (by omega)
    obtain ⟨v', hv⟩ := nu3_loop (s := s) (ng := ng) (a := a) hb d (i + 1) _ (by omega)
    refine ⟨v', LoopR.next ?_ hv⟩
    refine rT_sem numG_ok noLoopsS ((rT_go nu3_go ?_).trans ?_)
    · try simp only [Int.toNat_natCast, Nat.zero_add, e3]
      repeat' (first | exact AllT.nil | refine AllT.cons ?_ ?_)
      all_goals first | (with_reducible rfl) | (with_reducible assumption) | exact yes_of ⟨rfl, rfl⟩ | exact decide_eq_true (by omega) | exact beq_iff_eq.2 (by omega) | (simp; done) | (simp; omega)
    · try simp only [Int.toNat_natCast, Nat.zero_add, e3]
      rfl
def NuRes (s : ByteArray) (ah be : Int) (r : Int × ByteArray × Bool) : Prop := r.2.1.size ≤ s.size ∧ ∃ ℓ, LoopsSem numG 0 ℓ ∧ (lfun numG ℓ 60 Try.f181 [StrA s, I64 ah, I64 be] []).eval = some (.tup [I64 r.1, StrA r.2.1, Bo r.2.2], [])
theorem ext_size (s : ByteArray) (a b : Nat) : (s.extract a b).size ≤ s.size := by
  simp only [ByteArray.size_extract]; omega
theorem np_ex {s : ByteArray} {ah : Int} {be : Nat} (hs : s.size < 2 ^ 40) (hb : be ≤ 10) (hz : 0 < s.size) (hc : (bt s 0 == 45) = true) : ∃ r, NuRes s ah be r := by
  have hd := dgN_b (s := s) (a := 1) (by omega)
  by_cases c1 : ((dgN s 1 : Nat) : Int) < 1
  · refine ⟨(0, ⟨#[]⟩, false), Nat.zero_le _, nol, noLoopsS, (Tr.go_eval (np_b1 (v1 := 0) (v2 := 0) (v3 := 0) (z1 := 0) (z2 := 0) (z3 := 0)) ?_).trans rfl⟩
    repeat' (first | exact AllT.nil | refine AllT.cons ?_ ?_)
    all_goals first | (with_reducible rfl) | (with_reducible assumption) | exact yes_of ⟨rfl, rfl⟩ | exact yes_of ⟨hs, by omega, by omega⟩ | exact decide_eq_true (by omega) | (rw [decide_eq_false (by omega)]; rfl) | exact beq_iff_eq.2 (by omega) | (simp; done) | (simp; omega)
  by_cases c2 : ((dgN s 1 : Nat) : Int) > ah
  · refine ⟨(0, ⟨#[]⟩, false), Nat.zero_le _, nol, noLoopsS, (Tr.go_eval (np_b2 (v1 := 0) (v2 := 0) (v3 := 0) (z1 := 0) (z2 := 0) (z3 := 0)) ?_).trans rfl⟩
    repeat' (first | exact AllT.nil | refine AllT.cons ?_ ?_)
    all_goals first | (with_reducible rfl) | (with_reducible assumption) | exact yes_of ⟨rfl, rfl⟩ | exact yes_of ⟨hs, by omega, by omega⟩ | exact decide_eq_true (by omega) | (rw [decide_eq_false (by omega)]; rfl) | exact beq_iff_eq.2 (by omega) | (simp; done) | (simp; omega)
  obtain ⟨v1, l1⟩ := nu1_loop (s := s) (be := be) (ng := bt s 0 == 45) (a := 1) (n := dgN s 1) hs (by omega) (dgN s 1) 0 0 (by omega)
  have w1 : w64 ((1 : Int) + ((dgN s 1 : Nat) : Int)) = ((1 + dgN s 1 : Nat) : Int) := by rw [w64_id (by omega) (by omega)]; omega
  have w2 : w64 (((1 + dgN s 1 : Nat) : Int) + 1) = ((1 + dgN s 1 + 1 : Nat) : Int) := succ64 (by omega)
  by_cases c3 : 1 + dgN s 1 < s.size
  · by_cases c4 : bt s ((1 + dgN s 1 : Nat) : Int) = 46
    · have hk := dgN_b (s := s) (a := 1 + dgN s 1 + 1) (by omega)
      obtain ⟨v3, l3⟩ := nu3_loop (s := s) (be := be) (ng := bt s 0 == 45) (a := w64 ((1 : Int) + ((dgN s 1 : Nat) : Int))) hb be 0 v1 (by omega)
      by_cases c5 : ((dgN s (1 + dgN s 1 + 1) : Nat) : Int) < 1
      · refine ⟨(0, ⟨#[]⟩, false), Nat.zero_le _, _, byReg_sem (r := 10) (tell_ok l1.sem) (tell_ok l3.sem), (Tr.go_eval (np_k1 (v1 := v1) (v2 := 0) (v3 := v3) (z1 := (dgN s 1 : Nat)) (z2 := 0) (z3 := be)) ?_).trans rfl⟩
        simp only [Int.toNat_natCast, w1, w2]
        repeat' (first | exact AllT.nil | refine AllT.cons ?_ ?_)
        all_goals first | (with_reducible rfl) | (with_reducible assumption) | exact yes_of ⟨rfl, rfl⟩ | exact yes_of ⟨hs, by omega, by omega⟩ | exact decide_eq_true (by omega) | (rw [decide_eq_false (by omega)]; rfl) | exact beq_iff_eq.2 (by omega) | (simp; done) | (simp; omega)
      by_cases c6 : ((dgN s (1 + dgN s 1 + 1) : Nat) : Int) > be
      · refine ⟨(0, ⟨#[]⟩, false), Nat.zero_le _, _, byReg_sem (r := 10) (tell_ok l1.sem) (tell_ok l3.sem), (Tr.go_eval (np_k2 (v1 := v1) (v2 := 0) (v3 := v3) (z1 := (dgN s 1 : Nat)) (z2 := 0) (z3 := be)) ?_).trans rfl⟩
        simp only [Int.toNat_natCast, w1, w2]
        repeat' (first | exact AllT.nil | refine AllT.cons ?_ ?_)
        all_goals first | (with_reducible rfl) | (with_reducible assumption) | exact yes_of ⟨rfl, rfl⟩ | exact yes_of ⟨hs, by omega, by omega⟩ | exact decide_eq_true (by omega) | (rw [decide_eq_false (by omega)]; rfl) | exact beq_iff_eq.2 (by omega) | (simp; done) | (simp; omega)
      clear l3
      obtain ⟨v2, l2⟩ := nu2_loop (s := s) (be := be) (ng := bt s 0 == 45) (a := 1 + dgN s 1) (n := dgN s (1 + dgN s 1 + 1)) hs (by omega) (dgN s (1 + dgN s 1 + 1)) 0 v1 (by omega)
      have w3 : w64 (((1 + dgN s 1 + 1 : Nat) : Int) + ((dgN s (1 + dgN s 1 + 1) : Nat) : Int)) = ((1 + dgN s 1 + 1 + dgN s (1 + dgN s 1 + 1) : Nat) : Int) := by rw [w64_id (by omega) (by omega)]; omega
      obtain ⟨v4, l4⟩ := nu3_loop (s := s) (be := be) (ng := bt s 0 == 45) (a := ((1 + dgN s 1 + 1 + dgN s (1 + dgN s 1 + 1) : Nat) : Int)) hb (be - dgN s (1 + dgN s 1 + 1)) (dgN s (1 + dgN s 1 + 1)) v2 (by omega)
      have l2' := CodeSem.of_eq' (S' := nu2 s be (bt s 0 == 45) (w64 ((1 : Int) + ((dgN s (1 : Int).toNat : Nat) : Int))) v1 ((dgN s (w64 (w64 ((1 : Int) + ((dgN s (1 : Int).toNat : Nat) : Int)) + 1)).toNat : Nat) : Int) 0) (by
        have e : dgN s (1 : Int).toNat = dgN s 1 := rfl
        rw [e, w1, w2, Int.toNat_natCast]; rfl) l2.sem
      have l4' := CodeSem.of_eq' (S' := nu3 s be (bt s 0 == 45) (w64 (w64 (w64 ((1 : Int) + ((dgN s (1 : Int).toNat : Nat) : Int)) + 1) + ((dgN s (w64 (w64 ((1 : Int) + ((dgN s (1 : Int).toNat : Nat) : Int)) + 1)).toNat : Nat) : Int))) v2 ((dgN s (w64 (w64 ((1 : Int) + ((dgN s (1 : Int).toNat : Nat) : Int)) + 1)).toNat : Nat) : Int)) (by
        have e : dgN s (1 : Int).toNat = dgN s 1 := rfl
        rw [e, w1, w2, Int.toNat_natCast, w3]) l4.sem
      have hw := np_ok (s := s) (ah := ah) (be := be) (v1 := v1) (v2 := v2) (v3 := v4) (z1 := (dgN s 1 : Nat)) (z2 := (dgN s (1 + dgN s 1 + 1) : Nat)) (z3 := be)
      have ee : dgN s (1 : Int).toNat = dgN s 1 := rfl
      simp only [ee, w1, w2, w3, Int.toNat_natCast] at hw l2' l4'
      refine ⟨(_, _, _), ?_, _, byReg_sem (r := 10) (tell_ok l1.sem) (byReg_sem (r := 20) (tell_ok l2') (tell_ok l4')), (Tr.go_eval hw ?_).trans rfl⟩
      · exact ext_size _ _ _
      · repeat' (first | exact AllT.nil | refine AllT.cons ?_ ?_)
        all_goals first | (with_reducible rfl) | (with_reducible assumption) | exact yes_of ⟨rfl, rfl⟩ | (unfold decInt; simp only [Bool.and_eq_true, decide_eq_true_eq]; omega) | exact yes_of ⟨hs, by omega, by omega⟩ | exact decide_eq_true (by omega) | (rw [decide_eq_false (by omega)]; rfl) | exact beq_iff_eq.2 (by omega) | (simp; done) | (simp; omega)
    · have c4' : (!(bt s ((1 + dgN s 1 : Nat) : Int) == 46)) = true := by simpa using c4
      obtain ⟨v3, l3⟩ := nu3_loop (s := s) (be := be) (ng := bt s 0 == 45) (a := w64 ((1 : Int) + ((dgN s 1 : Nat) : Int))) hb be 0 v1 (by omega)
      refine ⟨(_, _, _), ?_, _, byReg_sem (r := 10) (tell_ok l1.sem) (tell_ok l3.sem), (Tr.go_eval (np_d2 (v1 := v1) (v2 := 0) (v3 := v3) (z1 := (dgN s 1 : Nat)) (z2 := 0) (z3 := be)) ?_).trans rfl⟩
      · exact ext_size _ _ _
      · simp only [Int.toNat_natCast, w1]
        repeat' (first | exact AllT.nil | refine AllT.cons ?_ ?_)
        all_goals first | (with_reducible rfl) | (with_reducible assumption) | exact yes_of ⟨rfl, rfl⟩ | (unfold decInt; simp only [Bool.and_eq_true, decide_eq_true_eq]; omega) | exact yes_of ⟨hs, by omega, by omega⟩ | exact decide_eq_true (by omega) | (rw [decide_eq_false (by omega)]; rfl) | exact beq_iff_eq.2 (by omega) | (simp; done) | (simp; omega)
  · obtain ⟨v3, l3⟩ := nu3_loop (s := s) (be := be) (ng := bt s 0 == 45) (a := w64 ((1 : Int) + ((dgN s 1 : Nat) : Int))) hb be 0 v1 (by omega)
    refine ⟨(_, _, _), ?_, _, byReg_sem (r := 10) (tell_ok l1.sem) (tell_ok l3.sem), (Tr.go_eval (np_d1 (v1 := v1) (v2 := 0) (v3 := v3) (z1 := (dgN s 1 : Nat)) (z2 := 0) (z3 := be)) ?_).trans rfl⟩
    · exact ext_size _ _ _
    · simp only [Int.toNat_natCast, w1]
      repeat' (first | exact AllT.nil | refine AllT.cons ?_ ?_)
      all_goals first | (with_reducible rfl) | (with_reducible assumption) | exact yes_of ⟨rfl, rfl⟩ | (unfold decInt; simp only [Bool.and_eq_true, decide_eq_true_eq]; omega) | exact yes_of ⟨hs, by omega, by omega⟩ | exact decide_eq_true (by omega) | (rw [decide_eq_false (by omega)]; rfl) | exact beq_iff_eq.2 (by omega) | (simp; done) | (simp; omega)
theorem nn_ex {s : ByteArray} {ah : Int} {be : Nat} (hs : s.size < 2 ^ 40) (hb : be ≤ 10) (hz : 0 < s.size) (hc : (!(bt s 0 == 45)) = true) : ∃ r, NuRes s ah be r := by
  have hd := dgN_b (s := s) (a := 0) (by omega)
  by_cases c1 : ((dgN s 0 : Nat) : Int) < 1
  · refine ⟨(0, ⟨#[]⟩, false), Nat.zero_le _, nol, noLoopsS, (Tr.go_eval (nn_b1 (v1 := 0) (v2 := 0) (v3 := 0) (z1 := 0) (z2 := 0) (z3 := 0)) ?_).trans rfl⟩
    repeat' (first | exact AllT.nil | refine AllT.cons ?_ ?_)
    all_goals first | (with_reducible rfl) | (with_reducible assumption) | exact yes_of ⟨rfl, rfl⟩ | exact yes_of ⟨hs, by omega, by omega⟩ | exact decide_eq_true (by omega) | (rw [decide_eq_false (by omega)]; rfl) | exact beq_iff_eq.2 (by omega) | (simp; done) | (simp; omega)
  by_cases c2 : ((dgN s 0 : Nat) : Int) > ah
  · refine ⟨(0, ⟨#[]⟩, false), Nat.zero_le _, nol, noLoopsS, (Tr.go_eval (nn_b2 (v1 := 0) (v2 := 0) (v3 := 0) (z1 := 0) (z2 := 0) (z3 := 0)) ?_).trans rfl⟩
    repeat' (first | exact AllT.nil | refine AllT.cons ?_ ?_)
    all_goals first | (with_reducible rfl) | (with_reducible assumption) | exact yes_of ⟨rfl, rfl⟩ | exact yes_of ⟨hs, by omega, by omega⟩ | exact decide_eq_true (by omega) | (rw [decide_eq_false (by omega)]; rfl) | exact beq_iff_eq.2 (by omega) | (simp; done) | (simp; omega)
  obtain ⟨v1, l1⟩ := nu1_loop (s := s) (be := be) (ng := bt s 0 == 45) (a := 0) (n := dgN s 0) hs (by omega) (dgN s 0) 0 0 (by omega)
  have w1 : w64 ((0 : Int) + ((dgN s 0 : Nat) : Int)) = ((0 + dgN s 0 : Nat) : Int) := by rw [w64_id (by omega) (by omega)]; omega
  have w2 : w64 (((0 + dgN s 0 : Nat) : Int) + 1) = ((0 + dgN s 0 + 1 : Nat) : Int) := succ64 (by omega)
  by_cases c3 : 0 + dgN s 0 < s.size
  · by_cases c4 : bt s ((0 + dgN s 0 : Nat) : Int) = 46
    · have hk := dgN_b (s := s) (a := 0 + dgN s 0 + 1) (by omega)
      obtain ⟨v3, l3⟩ := nu3_loop (s := s) (be := be) (ng := bt s 0 == 45) (a := w64 ((0 : Int) + ((dgN s 0 : Nat) : Int))) hb be 0 v1 (by omega)
      by_cases c5 : ((dgN s (0 + dgN s 0 + 1) : Nat) : Int) < 1
      · refine ⟨(0, ⟨#[]⟩, false), Nat.zero_le _, _, byReg_sem (r := 10) (tell_ok l1.sem) (tell_ok l3.sem), (Tr.go_eval (nn_k1 (v1 := v1) (v2 := 0) (v3 := v3) (z1 := (dgN s 0 : Nat)) (z2 := 0) (z3 := be)) ?_).trans rfl⟩
        simp only [Int.toNat_natCast, w1, w2]
        repeat' (first | exact AllT.nil | refine AllT.cons ?_ ?_)
        all_goals first | (with_reducible rfl) | (with_reducible assumption) | exact yes_of ⟨rfl, rfl⟩ | exact yes_of ⟨hs, by omega, by omega⟩ | exact decide_eq_true (by omega) | (rw [decide_eq_false (by omega)]; rfl) | exact beq_iff_eq.2 (by omega) | (simp; done) | (simp; omega)
      by_cases c6 : ((dgN s (0 + dgN s 0 + 1) : Nat) : Int) > be
      · refine ⟨(0, ⟨#[]⟩, false), Nat.zero_le _, _, byReg_sem (r := 10) (tell_ok l1.sem) (tell_ok l3.sem), (Tr.go_eval (nn_k2 (v1 := v1) (v2 := 0) (v3 := v3) (z1 := (dgN s 0 : Nat)) (z2 := 0) (z3 := be)) ?_).trans rfl⟩
        simp only [Int.toNat_natCast, w1, w2]
        repeat' (first | exact AllT.nil | refine AllT.cons ?_ ?_)
        all_goals first | (with_reducible rfl) | (with_reducible assumption) | exact yes_of ⟨rfl, rfl⟩ | exact yes_of ⟨hs, by omega, by omega⟩ | exact decide_eq_true (by omega) | (rw [decide_eq_false (by omega)]; rfl) | exact beq_iff_eq.2 (by omega) | (simp; done) | (simp; omega)
      clear l3
      obtain ⟨v2, l2⟩ := nu2_loop (s := s) (be := be) (ng := bt s 0 == 45) (a := 0 + dgN s 0) (n := dgN s (0 + dgN s 0 + 1)) hs (by omega) (dgN s (0 + dgN s 0 + 1)) 0 v1 (by omega)
      have w3 : w64 (((0 + dgN s 0 + 1 : Nat) : Int) + ((dgN s (0 + dgN s 0 + 1) : Nat) : Int)) = ((0 + dgN s 0 + 1 + dgN s (0 + dgN s 0 + 1) : Nat) : Int) := by rw [w64_id (by omega) (by omega)]; omega
      obtain ⟨v4, l4⟩ := nu3_loop (s := s) (be := be) (ng := bt s 0 == 45) (a := ((0 + dgN s 0 + 1 + dgN s (0 + dgN s 0 + 1) : Nat) : Int)) hb (be - dgN s (0 + dgN s 0 + 1)) (dgN s (0 + dgN s 0 + 1)) v2 (by omega)
      have l2' := CodeSem.of_eq' (S' := nu2 s be (bt s 0 == 45) (w64 ((0 : Int) + ((dgN s (0 : Int).toNat : Nat) : Int))) v1 ((dgN s (w64 (w64 ((0 : Int) + ((dgN s (0 : Int).toNat : Nat) : Int)) + 1)).toNat : Nat) : Int) 0) (by
        have e : dgN s (0 : Int).toNat = dgN s 0 := rfl
        rw [e, w1, w2, Int.toNat_natCast]; rfl) l2.sem
      have l4' := CodeSem.of_eq' (S' := nu3 s be (bt s 0 == 45) (w64 (w64 (w64 ((0 : Int) + ((dgN s (0 : Int).toNat : Nat) : Int)) + 1) + ((dgN s (w64 (w64 ((0 : Int) + ((dgN s (0 : Int).toNat : Nat) : Int)) + 1)).toNat : Nat) : Int))) v2 ((dgN s (w64 (w64 ((0 : Int) + ((dgN s (0 : Int).toNat : Nat) : Int)) + 1)).toNat : Nat) : Int)) (by
        have e : dgN s (0 : Int).toNat = dgN s 0 := rfl
        rw [e, w1, w2, Int.toNat_natCast, w3]) l4.sem
      have hw := nn_ok (s := s) (ah := ah) (be := be) (v1 := v1) (v2 := v2) (v3 := v4) (z1 := (dgN s 0 : Nat)) (z2 := (dgN s (0 + dgN s 0 + 1) : Nat)) (z3 := be)
      have ee : dgN s (0 : Int).toNat = dgN s 0 := rfl
      simp only [ee, w1, w2, w3, Int.toNat_natCast] at hw l2' l4'
      refine ⟨(_, _, _), ?_, _, byReg_sem (r := 10) (tell_ok l1.sem) (byReg_sem (r := 20) (tell_ok l2') (tell_ok l4')), (Tr.go_eval hw ?_).trans rfl⟩
      · exact ext_size _ _ _
      · repeat' (first | exact AllT.nil | refine AllT.cons ?_ ?_)
        all_goals first | (with_reducible rfl) | (with_reducible assumption) | exact yes_of ⟨rfl, rfl⟩ | (unfold decInt; simp only [Bool.and_eq_true, decide_eq_true_eq]; omega) | exact yes_of ⟨hs, by omega, by omega⟩ | exact decide_eq_true (by omega) | (rw [decide_eq_false (by omega)]; rfl) | exact beq_iff_eq.2 (by omega) | (simp; done) | (simp; omega)
    · have c4' : (!(bt s ((0 + dgN s 0 : Nat) : Int) == 46)) = true := by simpa using c4
      obtain ⟨v3, l3⟩ := nu3_loop (s := s) (be := be) (ng := bt s 0 == 45) (a := w64 ((0 : Int) + ((dgN s 0 : Nat) : Int))) hb be 0 v1 (by omega)
      refine ⟨(_, _, _), ?_, _, byReg_sem (r := 10) (tell_ok l1.sem) (tell_ok l3.sem), (Tr.go_eval (nn_d2 (v1 := v1) (v2 := 0) (v3 := v3) (z1 := (dgN s 0 : Nat)) (z2 := 0) (z3 := be)) ?_).trans rfl⟩
      · exact ext_size _ _ _
      · simp only [Int.toNat_natCast, w1]
        repeat' (first | exact AllT.nil | refine AllT.cons ?_ ?_)
        all_goals first | (with_reducible rfl) | (with_reducible assumption) | exact yes_of ⟨rfl, rfl⟩ | (unfold decInt; simp only [Bool.and_eq_true, decide_eq_true_eq]; omega) | exact yes_of ⟨hs, by omega, by omega⟩ | exact decide_eq_true (by omega) | (rw [decide_eq_false (by omega)]; rfl) | exact beq_iff_eq.2 (by omega) | (simp; done) | (simp; omega)
  · obtain ⟨v3, l3⟩ := nu3_loop (s := s) (be := be) (ng := bt s 0 == 45) (a := w64 ((0 : Int) + ((dgN s 0 : Nat) : Int))) hb be 0 v1 (by omega)
    refine ⟨(_, _, _), ?_, _, byReg_sem (r := 10) (tell_ok l1.sem) (tell_ok l3.sem), (Tr.go_eval (nn_d1 (v1 := v1) (v2 := 0) (v3 := v3) (z1 := (dgN s 0 : Nat)) (z2 := 0) (z3 := be)) ?_).trans rfl⟩
    · exact ext_size _ _ _
    · simp only [Int.toNat_natCast, w1]
      repeat' (first | exact AllT.nil | refine AllT.cons ?_ ?_)
      all_goals first | (with_reducible rfl) | (with_reducible assumption) | exact yes_of ⟨rfl, rfl⟩ | (unfold decInt; simp only [Bool.and_eq_true, decide_eq_true_eq]; omega) | exact yes_of ⟨hs, by omega, by omega⟩ | exact decide_eq_true (by omega) | (rw [decide_eq_false (by omega)]; rfl) | exact beq_iff_eq.2 (by omega) | (simp; done) | (simp; omega)
theorem nu_ex {s : ByteArray} {ah : Int} {be : Nat} (hs : s.size < 2 ^ 40) (hb : be ≤ 10) : ∃ r, NuRes s ah be r := by
  rcases Nat.eq_zero_or_pos s.size with hz | hz
  · have hd := dgN_b (s := s) (a := 0) (by omega)
    refine ⟨(0, ⟨#[]⟩, false), Nat.zero_le _, nol, noLoopsS, (Tr.go_eval (nz (v1 := 0) (v2 := 0) (v3 := 0) (z1 := 0) (z2 := 0) (z3 := 0)) ?_).trans rfl⟩
    repeat' (first | exact AllT.nil | refine AllT.cons ?_ ?_)
    all_goals first | (with_reducible rfl) | (with_reducible assumption) | exact yes_of ⟨rfl, rfl⟩ | exact yes_of ⟨hs, by omega, by omega⟩ | exact decide_eq_true (by omega) | (rw [decide_eq_false (by omega)]; rfl) | exact beq_iff_eq.2 (by omega) | (simp; done) | (simp; omega)
  · cases hc : (bt s 0 == 45)
    · exact nn_ex hs hb hz (by rw [hc]; rfl)
    · exact np_ex hs hb hz hc
open Classical in
noncomputable def nuR (s : ByteArray) (ah be : Int) : Int × ByteArray × Bool := if h : ∃ r, NuRes s ah be r then Classical.choose h else (0, ⟨#[]⟩, false)
theorem nuR_ok {s : ByteArray} {ah : Int} {be : Nat} (hs : s.size < 2 ^ 40) (hb : be ≤ 10) : NuRes s ah be (nuR s ah be) := by
  have h := nu_ex (ah := ah) hs hb
  unfold nuR
  rw [dif_pos h]
  exact Classical.choose_spec h
noncomputable def nuF : Spec := fun args h => match args, h with
  | [.c (.v (.string s)), .c (.v (.int .i64 ah)), .c (.v (.int .i64 be))], [] => .need (yes (s.size < 2 ^ 40 ∧ 0 ≤ be ∧ be ≤ 10)) (.ret (.tup [I64 (nuR s ah be).1, StrA (nuR s ah be).2.1, Bo (nuR s ah be).2.2], []))
  | _, _ => .fail
theorem nuF_ok : SpecOk Try.prog 181 nuF := by
  refine knownS KNU_ok Try.func181 fun args h r he => ?_
  unfold nuF at he
  split at he
  · rename_i s ah be
    obtain ⟨⟨h1, h2, h3⟩, he⟩ := Tr.eval_ask.1 he
    cases he
    obtain ⟨n, rfl⟩ := Int.eq_ofNat_of_zero_le h2
    obtain ⟨_, ℓ, hl, hw⟩ := nuR_ok (ah := ah) h1 (show n ≤ 10 by omega)
    exact ⟨_, [], 60, ℓ, hl, hw⟩
  · cases he
end
section
open Go Go.RowKit
theorem bif_ex {α β : Type} {c : Bool} {A B : Option α} {f : β → Option α} (h1 : ∃ v, A = f v) (h2 : ∃ v, B = f v) : ∃ v, (bif c then A else B) = f v := by cases c <;> assumption
noncomputable def KPH : Known := [(150, afun (GK [] (fun _ => []) 0) 60 Try.f150)]
theorem KPH_ok : KnownOk KPH := consK (known0 nilK 60 Try.func150) (by kernel_rfl) nilK
noncomputable def KPX0 : Known := [(150, afun (GK [] (fun _ => []) 0) 60 Try.f150), (155, afun (GK [] (fun _ => []) 0) 60 Try.f155), (184, afun (GK KPH (fun _ => []) 0) 60 Try.f184)]
theorem KPX0_ok : KnownOk KPX0 := consK (known0 nilK 60 Try.func150) (by kernel_rfl) (consK (known0 nilK 60 Try.func155) (by kernel_rfl) (consK (known0 KPH_ok 60 Try.func184) (by kernel_rfl) nilK))
noncomputable def px0G : Ctx2 := GT KPX0 (fun _ => []) 0 []
theorem px_nf {t : Int} : (lfun px0G nol 60 Try.f182 [I64 t] []).eval = bif decide ((w64 (w64 ((64 : Int) * mnI (1000000000000 : Int) (mxI (-1000000000000 : Int) t)) + (500 : Int))).tmod 1000 < (0 : Int)) then some (I64 (mnI (1073741824 : Int) (mxI (-1073741824 : Int) (w64 (w64 ((w64 (w64 ((64 : Int) * mnI (1000000000000 : Int) (mxI (-1000000000000 : Int) t)) + (500 : Int))).tdiv (1000 : Int)) - (1 : Int))))), []) else some (I64 (mnI (1073741824 : Int) (mxI (-1073741824 : Int) (w64 ((w64 (w64 ((64 : Int) * mnI (1000000000000 : Int) (mxI (-1000000000000 : Int) t)) + (500 : Int))).tdiv (1000 : Int))))), []) := by kernel_rfl
theorem px_ex (t : Int) : ∃ v, (lfun px0G nol 60 Try.f182 [I64 t] []).eval = some (I64 v, []) := by
  rw [px_nf]
  repeat' (first | exact ⟨_, rfl⟩ | refine bif_ex ?_ ?_)
noncomputable def pxR (t : Int) : Int := Classical.choose (px_ex t)
noncomputable def px1F : Spec := fun args h => match args, h with
  | [.c (.v (.int .i64 t))], [] => .ret (I64 (pxR t), [])
  | _, _ => .fail
theorem px1F_ok : SpecOk Try.prog 182 px1F := by
  refine knownS KPX0_ok Try.func182 fun args h r he => ?_
  unfold px1F at he
  split at he
  · cases he
    exact ⟨fun _ => [], [], 60, nol, noLoopsS, Classical.choose_spec (px_ex _)⟩
  · cases he
noncomputable def KPX : Known := [(181, nuF), (182, px1F)]
theorem KPX_ok : KnownOk KPX := consK nuF_ok (by kernel_rfl) (consK px1F_ok (by kernel_rfl) nilK)
noncomputable def pxG : Ctx2 := GT KPX (fun _ => []) 0 []
theorem pix_nf {s : ByteArray} : (lfun pxG nol 60 Try.f179 [StrA s] []).eval = bif s.toList == (⟨#[48]⟩ : ByteArray).toList then some (.tup [I64 0, Bo true], []) else bif yes (s.size < 2 ^ 40 ∧ (0 : Int) ≤ (3 : Int) ∧ (3 : Int) ≤ (10 : Int)) then bif (nuR s (5 : Int) (3 : Int)).snd.snd then some (.tup [I64 (pxR (nuR s (5 : Int) (3 : Int)).fst), Bo ((nuR s (5 : Int) (3 : Int)).snd.fst.toList == (⟨#[112, 120]⟩ : ByteArray).toList)], []) else some (.tup [I64 (pxR (nuR s (5 : Int) (3 : Int)).fst), Bo false], []) else none := by kernel_rfl
theorem who_nf {s : ByteArray} {lo hi : Int} : (lfun pxG nol 60 Try.f178 [StrA s, I64 lo, I64 hi] []).eval = bif yes (s.size < 2 ^ 40 ∧ (0 : Int) ≤ (0 : Int) ∧ (0 : Int) ≤ (10 : Int)) then bif !(nuR s (4 : Int) (0 : Int)).snd.snd then some (.tup [I64 0, Bo false], []) else bif !(nuR s (4 : Int) (0 : Int)).snd.fst.toList == (⟨#[]⟩ : ByteArray).toList then some (.tup [I64 0, Bo false], []) else bif decide ((nuR s (4 : Int) (0 : Int)).fst < lo) then some (.tup [I64 0, Bo false], []) else bif decide ((nuR s (4 : Int) (0 : Int)).fst > hi) then some (.tup [I64 0, Bo false], []) else some (.tup [I64 (nuR s (4 : Int) (0 : Int)).fst, Bo true], []) else none := by kernel_rfl
theorem pix_ex {s : ByteArray} (hs : s.size < 2 ^ 40) : ∃ v : Int × Bool, (lfun pxG nol 60 Try.f179 [StrA s] []).eval = some (.tup [I64 v.1, Bo v.2], []) := by
  have hy : yes (s.size < 2 ^ 40 ∧ (0 : Int) ≤ (3 : Int) ∧ (3 : Int) ≤ (10 : Int)) = true := yes_of ⟨hs, by omega, by omega⟩
  rw [pix_nf, hy]
  simp only [cond_true]
  repeat' (first | exact ⟨(_, _), rfl⟩ | refine bif_ex ?_ ?_)
theorem who_ex {s : ByteArray} (hs : s.size < 2 ^ 40) (lo hi : Int) : ∃ v : Int × Bool, (lfun pxG nol 60 Try.f178 [StrA s, I64 lo, I64 hi] []).eval = some (.tup [I64 v.1, Bo v.2], []) := by
  have hy : yes (s.size < 2 ^ 40 ∧ (0 : Int) ≤ (0 : Int) ∧ (0 : Int) ≤ (10 : Int)) = true := yes_of ⟨hs, by omega, by omega⟩
  rw [who_nf, hy]
  simp only [cond_true]
  repeat' (first | exact ⟨(_, _), rfl⟩ | refine bif_ex ?_ ?_)
open Classical in
noncomputable def pixR (s : ByteArray) : Int × Bool := if h : s.size < 2 ^ 40 then Classical.choose (pix_ex h) else (0, false)
open Classical in
noncomputable def whoR (s : ByteArray) (lo hi : Int) : Int × Bool := if h : s.size < 2 ^ 40 then Classical.choose (who_ex h lo hi) else (0, false)
noncomputable def pixF : Spec := fun args h => match args, h with
  | [.c (.v (.string s))], [] => .need (yes (s.size < 2 ^ 40)) (.ret (.tup [I64 (pixR s).1, Bo (pixR s).2], []))
  | _, _ => .fail
theorem pixF_ok : SpecOk Try.prog 179 pixF := by
  refine knownS KPX_ok Try.func179 fun args h r he => ?_
  unfold pixF at he
  split at he
  · rename_i s
    obtain ⟨h1, he⟩ := Tr.eval_ask.1 he
    cases he
    refine ⟨fun _ => [], [], 60, nol, noLoopsS, ?_⟩
    unfold pixR
    rw [dif_pos h1]
    exact Classical.choose_spec (pix_ex h1)
  · cases he
noncomputable def whoF : Spec := fun args h => match args, h with
  | [.c (.v (.string s)), .c (.v (.int .i64 lo)), .c (.v (.int .i64 hi))], [] => .need (yes (s.size < 2 ^ 40)) (.ret (.tup [I64 (whoR s lo hi).1, Bo (whoR s lo hi).2], []))
  | _, _ => .fail
theorem whoF_ok : SpecOk Try.prog 178 whoF := by
  refine knownS KPX_ok Try.func178 fun args h r he => ?_
  unfold whoF at he
  split at he
  · rename_i s lo hi
    obtain ⟨h1, he⟩ := Tr.eval_ask.1 he
    cases he
    refine ⟨fun _ => [], [], 60, nol, noLoopsS, ?_⟩
    unfold whoR
    rw [dif_pos h1]
    exact Classical.choose_spec (who_ex h1 lo hi)
  · cases he
noncomputable def KPL : Known := [(181, nuF), (179, pixF)]
theorem KPL_ok : KnownOk KPL := consK nuF_ok (by kernel_rfl) (consK pixF_ok (by kernel_rfl) nilK)
noncomputable def pleG : Ctx2 := GT KPL (fun _ => []) 0 []
theorem len_nf {s : ByteArray} : (lfun pleG nol 60 Try.f180 [StrA s] []).eval = bif yes (s.size < 2 ^ 40) then bif (pixR s).snd then some (.tup [.agg [i64 1, i64 (pixR s).fst], Bo true], []) else bif yes (s.size < 2 ^ 40 ∧ (0 : Int) ≤ (2 : Int) ∧ (2 : Int) ≤ (10 : Int)) then bif !(nuR s (4 : Int) (2 : Int)).snd.snd then some (.tup [.agg [i64 0, i64 0], Bo false], []) else bif !(nuR s (4 : Int) (2 : Int)).snd.fst.toList == (⟨#[37]⟩ : ByteArray).toList then some (.tup [.agg [i64 0, i64 0], Bo false], []) else some (.tup [.agg [i64 2, i64 (nuR s (4 : Int) (2 : Int)).fst], Bo true], []) else none else none := by kernel_rfl
theorem len_ex {s : ByteArray} (hs : s.size < 2 ^ 40) : ∃ v : Int × Int × Bool, (lfun pleG nol 60 Try.f180 [StrA s] []).eval = some (.tup [.agg [i64 v.1, i64 v.2.1], Bo v.2.2], []) := by
  have hy : yes (s.size < 2 ^ 40 ∧ (0 : Int) ≤ (2 : Int) ∧ (2 : Int) ≤ (10 : Int)) = true := yes_of ⟨hs, by omega, by omega⟩
  have hy2 : yes (s.size < 2 ^ 40) = true := yes_of hs
  rw [len_nf, hy, hy2]
  simp only [cond_true]
  repeat' (first | exact ⟨(1, (pixR s).1, true), rfl⟩ | exact ⟨(2, (nuR s 4 2).1, true), rfl⟩ | exact ⟨(0, 0, false), rfl⟩ | refine bif_ex ?_ ?_)
open Classical in
noncomputable def lenRR (s : ByteArray) : Int × Int × Bool := if h : s.size < 2 ^ 40 then Classical.choose (len_ex h) else (0, 0, false)
noncomputable def lenF : Spec := fun args h => match args, h with
  | [.c (.v (.string s))], [] => .need (yes (s.size < 2 ^ 40)) (.ret (.tup [.agg [i64 (lenRR s).1, i64 (lenRR s).2.1], Bo (lenRR s).2.2], []))
  | _, _ => .fail
theorem lenF_ok : SpecOk Try.prog 180 lenF := by
  refine knownS KPL_ok Try.func180 fun args h r he => ?_
  unfold lenF at he
  split at he
  · rename_i s
    obtain ⟨h1, he⟩ := Tr.eval_ask.1 he
    cases he
    refine ⟨fun _ => [], [], 60, nol, noLoopsS, ?_⟩
    unfold lenRR
    rw [dif_pos h1]
    exact Classical.choose_spec (len_ex h1)
  · cases he
end
section
open Go Go.RowKit
noncomputable def KVA : Known := [(177, afun (GK [] (fun _ => []) 0) 60 Try.f177), (178, whoF), (179, pixF), (180, lenF)]
theorem KVA_ok : KnownOk KVA := consK (known0 nilK 60 Try.func177) (by kernel_rfl) (consK whoF_ok (by kernel_rfl) (consK pixF_ok (by kernel_rfl) (consK lenF_ok (by kernel_rfl) nilK)))
noncomputable def vaG : Ctx2 := GK KVA (fun k => if k = 4 then [(0,none),(1,none),(4,none),(6,none),(7,none),(8,none)] else []) 8
theorem va_1 {s : ByteArray} : (afun vaG 60 Try.f174 [I64 1, StrA s] []).eval = bif ([(⟨#[98, 108, 111, 99, 107]⟩ : ByteArray), (⟨#[105, 110, 108, 105, 110, 101]⟩ : ByteArray), (⟨#[102, 108, 101, 120]⟩ : ByteArray), (⟨#[110, 111, 110, 101]⟩ : ByteArray)].getD 0 (⟨#[]⟩ : ByteArray)).toList == s.toList then some (.tup [.agg [i64 1, i64 0, i64 0, i64 0], Bo true], []) else bif ([(⟨#[98, 108, 111, 99, 107]⟩ : ByteArray), { data := #[105, 110, 108, 105, 110, 101] }, (⟨#[102, 108, 101, 120]⟩ : ByteArray), (⟨#[110, 111, 110, 101]⟩ : ByteArray)].getD 1 (⟨#[]⟩ : ByteArray)).toList == s.toList then some (.tup [.agg [i64 1, i64 (w64 ((0 : Int) + (1 : Int))), i64 0, i64 0], Bo true], []) else bif ([(⟨#[98, 108, 111, 99, 107]⟩ : ByteArray), { data := #[105, 110, 108, 105, 110, 101] }, (⟨#[102, 108, 101, 120]⟩ : ByteArray), (⟨#[110, 111, 110, 101]⟩ : ByteArray)].getD 2 (⟨#[]⟩ : ByteArray)).toList == s.toList then some (.tup [.agg [i64 1, i64 (w64 (w64 ((0 : Int) + (1 : Int)) + (1 : Int))), i64 0, i64 0], Bo true], []) else bif ([(⟨#[98, 108, 111, 99, 107]⟩ : ByteArray), { data := #[105, 110, 108, 105, 110, 101] }, (⟨#[102, 108, 101, 120]⟩ : ByteArray), (⟨#[110, 111, 110, 101]⟩ : ByteArray)].getD 3 (⟨#[]⟩ : ByteArray)).toList == s.toList then some (.tup [.agg [i64 1, i64 (w64 (w64 (w64 ((0 : Int) + (1 : Int)) + (1 : Int)) + (1 : Int))), i64 0, i64 0], Bo true], []) else some (.tup [.agg [i64 0, i64 0, i64 0, i64 0], Bo false], []) := by kernel_rfl
theorem va_2 {s : ByteArray} : (afun vaG 60 Try.f174 [I64 2, StrA s] []).eval = bif s.toList == (⟨#[97, 117, 116, 111]⟩ : ByteArray).toList then some (.tup [.agg [i64 2, i64 0, i64 0, i64 0], Bo true], []) else bif yes (s.size < 2 ^ 40) then bif (lenRR s).snd.snd then bif decide ((lenRR s).snd.fst ≥ (0 : Int)) then some (.tup [.agg [i64 2, i64 0, i64 (lenRR s).fst, i64 (lenRR s).snd.fst], Bo true], []) else some (.tup [.agg [i64 0, i64 0, i64 0, i64 0], Bo false], []) else some (.tup [.agg [i64 0, i64 0, i64 0, i64 0], Bo false], []) else none := by kernel_rfl
theorem va_3 {s : ByteArray} : (afun vaG 60 Try.f174 [I64 3, StrA s] []).eval = bif s.toList == (⟨#[97, 117, 116, 111]⟩ : ByteArray).toList then some (.tup [.agg [i64 3, i64 0, i64 0, i64 0], Bo true], []) else bif yes (s.size < 2 ^ 40) then bif (lenRR s).snd.snd then bif decide ((lenRR s).snd.fst ≥ (0 : Int)) then some (.tup [.agg [i64 3, i64 0, i64 (lenRR s).fst, i64 (lenRR s).snd.fst], Bo true], []) else some (.tup [.agg [i64 0, i64 0, i64 0, i64 0], Bo false], []) else some (.tup [.agg [i64 0, i64 0, i64 0, i64 0], Bo false], []) else none := by kernel_rfl
theorem va_4 {s : ByteArray} : (afun vaG 60 Try.f174 [I64 4, StrA s] []).eval = bif yes (s.size < 2 ^ 40) then bif (lenRR s).snd.snd then bif decide ((lenRR s).snd.fst ≥ (0 : Int)) then some (.tup [.agg [i64 4, i64 0, i64 (lenRR s).fst, i64 (lenRR s).snd.fst], Bo true], []) else some (.tup [.agg [i64 0, i64 0, i64 0, i64 0], Bo false], []) else some (.tup [.agg [i64 0, i64 0, i64 0, i64 0], Bo false], []) else none := by kernel_rfl
theorem va_5 {s : ByteArray} : (afun vaG 60 Try.f174 [I64 5, StrA s] []).eval = bif yes (s.size < 2 ^ 40) then bif (lenRR s).snd.snd then bif decide ((lenRR s).snd.fst ≥ (0 : Int)) then some (.tup [.agg [i64 5, i64 0, i64 (lenRR s).fst, i64 (lenRR s).snd.fst], Bo true], []) else some (.tup [.agg [i64 0, i64 0, i64 0, i64 0], Bo false], []) else some (.tup [.agg [i64 0, i64 0, i64 0, i64 0], Bo false], []) else none := by kernel_rfl
theorem va_6 {s : ByteArray} : (afun vaG 60 Try.f174 [I64 6, StrA s] []).eval = bif s.toList == (⟨#[110, 111, 110, 101]⟩ : ByteArray).toList then some (.tup [.agg [i64 6, i64 0, i64 0, i64 0], Bo true], []) else bif yes (s.size < 2 ^ 40) then bif (lenRR s).snd.snd then bif decide ((lenRR s).snd.fst ≥ (0 : Int)) then some (.tup [.agg [i64 6, i64 0, i64 (lenRR s).fst, i64 (lenRR s).snd.fst], Bo true], []) else some (.tup [.agg [i64 0, i64 0, i64 0, i64 0], Bo false], []) else some (.tup [.agg [i64 0, i64 0, i64 0, i64 0], Bo false], []) else none := by kernel_rfl
theorem va_7 {s : ByteArray} : (afun vaG 60 Try.f174 [I64 7, StrA s] []).eval = bif s.toList == (⟨#[110, 111, 110, 101]⟩ : ByteArray).toList then some (.tup [.agg [i64 7, i64 0, i64 0, i64 0], Bo true], []) else bif yes (s.size < 2 ^ 40) then bif (lenRR s).snd.snd then bif decide ((lenRR s).snd.fst ≥ (0 : Int)) then some (.tup [.agg [i64 7, i64 0, i64 (lenRR s).fst, i64 (lenRR s).snd.fst], Bo true], []) else some (.tup [.agg [i64 0, i64 0, i64 0, i64 0], Bo false], []) else some (.tup [.agg [i64 0, i64 0, i64 0, i64 0], Bo false], []) else none := by kernel_rfl
theorem va_8 {s : ByteArray} : (afun vaG 60 Try.f174 [I64 8, StrA s] []).eval = bif s.toList == (⟨#[97, 117, 116, 111]⟩ : ByteArray).toList then some (.tup [.agg [i64 8, i64 0, i64 0, i64 0], Bo true], []) else bif yes (s.size < 2 ^ 40) then bif (lenRR s).snd.snd then bif decide ((lenRR s).snd.fst ≥ (0 : Int)) then some (.tup [.agg [i64 8, i64 0, i64 (lenRR s).fst, i64 (lenRR s).snd.fst], Bo true], []) else some (.tup [.agg [i64 8, i64 0, i64 (lenRR s).fst, i64 (lenRR s).snd.fst], Bo true], []) else some (.tup [.agg [i64 0, i64 0, i64 0, i64 0], Bo false], []) else none := by kernel_rfl
theorem va_9 {s : ByteArray} : (afun vaG 60 Try.f174 [I64 9, StrA s] []).eval = bif s.toList == (⟨#[97, 117, 116, 111]⟩ : ByteArray).toList then some (.tup [.agg [i64 9, i64 0, i64 0, i64 0], Bo true], []) else bif yes (s.size < 2 ^ 40) then bif (lenRR s).snd.snd then bif decide ((lenRR s).snd.fst ≥ (0 : Int)) then some (.tup [.agg [i64 9, i64 0, i64 (lenRR s).fst, i64 (lenRR s).snd.fst], Bo true], []) else some (.tup [.agg [i64 9, i64 0, i64 (lenRR s).fst, i64 (lenRR s).snd.fst], Bo true], []) else some (.tup [.agg [i64 0, i64 0, i64 0, i64 0], Bo false], []) else none := by kernel_rfl
theorem va_10 {s : ByteArray} : (afun vaG 60 Try.f174 [I64 10, StrA s] []).eval = bif s.toList == (⟨#[97, 117, 116, 111]⟩ : ByteArray).toList then some (.tup [.agg [i64 10, i64 0, i64 0, i64 0], Bo true], []) else bif yes (s.size < 2 ^ 40) then bif (lenRR s).snd.snd then bif decide ((lenRR s).snd.fst ≥ (0 : Int)) then some (.tup [.agg [i64 10, i64 0, i64 (lenRR s).fst, i64 (lenRR s).snd.fst], Bo true], []) else some (.tup [.agg [i64 10, i64 0, i64 (lenRR s).fst, i64 (lenRR s).snd.fst], Bo true], []) else some (.tup [.agg [i64 0, i64 0, i64 0, i64 0], Bo false], []) else none := by kernel_rfl
theorem va_11 {s : ByteArray} : (afun vaG 60 Try.f174 [I64 11, StrA s] []).eval = bif s.toList == (⟨#[97, 117, 116, 111]⟩ : ByteArray).toList then some (.tup [.agg [i64 11, i64 0, i64 0, i64 0], Bo true], []) else bif yes (s.size < 2 ^ 40) then bif (lenRR s).snd.snd then bif decide ((lenRR s).snd.fst ≥ (0 : Int)) then some (.tup [.agg [i64 11, i64 0, i64 (lenRR s).fst, i64 (lenRR s).snd.fst], Bo true], []) else some (.tup [.agg [i64 11, i64 0, i64 (lenRR s).fst, i64 (lenRR s).snd.fst], Bo true], []) else some (.tup [.agg [i64 0, i64 0, i64 0, i64 0], Bo false], []) else none := by kernel_rfl
theorem va_12 {s : ByteArray} : (afun vaG 60 Try.f174 [I64 12, StrA s] []).eval = bif yes (s.size < 2 ^ 40) then bif (pixR s).snd then bif !decide ((pixR s).fst ≥ (0 : Int)) then some (.tup [.agg [i64 0, i64 0, i64 0, i64 0], Bo false], []) else some (.tup [.agg [i64 12, i64 0, i64 1, i64 (pixR s).fst], Bo true], []) else some (.tup [.agg [i64 0, i64 0, i64 0, i64 0], Bo false], []) else none := by kernel_rfl
theorem va_13 {s : ByteArray} : (afun vaG 60 Try.f174 [I64 13, StrA s] []).eval = bif yes (s.size < 2 ^ 40) then bif (pixR s).snd then bif !decide ((pixR s).fst ≥ (0 : Int)) then some (.tup [.agg [i64 0, i64 0, i64 0, i64 0], Bo false], []) else some (.tup [.agg [i64 13, i64 0, i64 1, i64 (pixR s).fst], Bo true], []) else some (.tup [.agg [i64 0, i64 0, i64 0, i64 0], Bo false], []) else none := by kernel_rfl
theorem va_14 {s : ByteArray} : (afun vaG 60 Try.f174 [I64 14, StrA s] []).eval = bif yes (s.size < 2 ^ 40) then bif (pixR s).snd then bif !decide ((pixR s).fst ≥ (0 : Int)) then some (.tup [.agg [i64 0, i64 0, i64 0, i64 0], Bo false], []) else some (.tup [.agg [i64 14, i64 0, i64 1, i64 (pixR s).fst], Bo true], []) else some (.tup [.agg [i64 0, i64 0, i64 0, i64 0], Bo false], []) else none := by kernel_rfl
theorem va_15 {s : ByteArray} : (afun vaG 60 Try.f174 [I64 15, StrA s] []).eval = bif yes (s.size < 2 ^ 40) then bif (pixR s).snd then bif !decide ((pixR s).fst ≥ (0 : Int)) then some (.tup [.agg [i64 0, i64 0, i64 0, i64 0], Bo false], []) else some (.tup [.agg [i64 15, i64 0, i64 1, i64 (pixR s).fst], Bo true], []) else some (.tup [.agg [i64 0, i64 0, i64 0, i64 0], Bo false], []) else none := by kernel_rfl
theorem va_16 {s : ByteArray} : (afun vaG 60 Try.f174 [I64 16, StrA s] []).eval = bif yes (s.size < 2 ^ 40) then bif (pixR s).snd then bif !decide ((pixR s).fst ≥ (0 : Int)) then some (.tup [.agg [i64 0, i64 0, i64 0, i64 0], Bo false], []) else some (.tup [.agg [i64 16, i64 0, i64 1, i64 (pixR s).fst], Bo true], []) else some (.tup [.agg [i64 0, i64 0, i64 0, i64 0], Bo false], []) else none := by kernel_rfl
theorem va_17 {s : ByteArray} : (afun vaG 60 Try.f174 [I64 17, StrA s] []).eval = bif yes (s.size < 2 ^ 40) then bif (pixR s).snd then bif !decide ((pixR s).fst ≥ (0 : Int)) then some (.tup [.agg [i64 0, i64 0, i64 0, i64 0], Bo false], []) else some (.tup [.agg [i64 17, i64 0, i64 1, i64 (pixR s).fst], Bo true], []) else some (.tup [.agg [i64 0, i64 0, i64 0, i64 0], Bo false], []) else none := by kernel_rfl
theorem va_18 {s : ByteArray} : (afun vaG 60 Try.f174 [I64 18, StrA s] []).eval = bif yes (s.size < 2 ^ 40) then bif (pixR s).snd then bif !decide ((pixR s).fst ≥ (0 : Int)) then some (.tup [.agg [i64 0, i64 0, i64 0, i64 0], Bo false], []) else some (.tup [.agg [i64 18, i64 0, i64 1, i64 (pixR s).fst], Bo true], []) else some (.tup [.agg [i64 0, i64 0, i64 0, i64 0], Bo false], []) else none := by kernel_rfl
theorem va_19 {s : ByteArray} : (afun vaG 60 Try.f174 [I64 19, StrA s] []).eval = bif yes (s.size < 2 ^ 40) then bif (pixR s).snd then bif !decide ((pixR s).fst ≥ (0 : Int)) then some (.tup [.agg [i64 0, i64 0, i64 0, i64 0], Bo false], []) else some (.tup [.agg [i64 19, i64 0, i64 1, i64 (pixR s).fst], Bo true], []) else some (.tup [.agg [i64 0, i64 0, i64 0, i64 0], Bo false], []) else none := by kernel_rfl
theorem va_20 {s : ByteArray} : (afun vaG 60 Try.f174 [I64 20, StrA s] []).eval = bif ([(⟨#[114, 111, 119]⟩ : ByteArray), { data := #[114, 111, 119, 45, 114, 101, 118, 101, 114, 115, 101] }, (⟨#[99, 111, 108, 117, 109, 110]⟩ : ByteArray), { data := #[99, 111, 108, 117, 109, 110, 45, 114, 101, 118, 101, 114, 115, 101] }].getD 0 (⟨#[]⟩ : ByteArray)).toList == s.toList then some (.tup [.agg [i64 20, i64 0, i64 0, i64 0], Bo true], []) else bif ([(⟨#[114, 111, 119]⟩ : ByteArray), { data := #[114, 111, 119, 45, 114, 101, 118, 101, 114, 115, 101] }, { data := #[99, 111, 108, 117, 109, 110] }, { data := #[99, 111, 108, 117, 109, 110, 45, 114, 101, 118, 101, 114, 115, 101] }].getD 1 (⟨#[]⟩ : ByteArray)).toList == s.toList then some (.tup [.agg [i64 20, i64 (w64 ((0 : Int) + (1 : Int))), i64 0, i64 0], Bo true], []) else bif ([(⟨#[114, 111, 119]⟩ : ByteArray), { data := #[114, 111, 119, 45, 114, 101, 118, 101, 114, 115, 101] }, { data := #[99, 111, 108, 117, 109, 110] }, { data := #[99, 111, 108, 117, 109, 110, 45, 114, 101, 118, 101, 114, 115, 101] }].getD 2 (⟨#[]⟩ : ByteArray)).toList == s.toList then some (.tup [.agg [i64 20, i64 (w64 (w64 ((0 : Int) + (1 : Int)) + (1 : Int))), i64 0, i64 0], Bo true], []) else bif ([(⟨#[114, 111, 119]⟩ : ByteArray), { data := #[114, 111, 119, 45, 114, 101, 118, 101, 114, 115, 101] }, { data := #[99, 111, 108, 117, 109, 110] }, { data := #[99, 111, 108, 117, 109, 110, 45, 114, 101, 118, 101, 114, 115, 101] }].getD 3 (⟨#[]⟩ : ByteArray)).toList == s.toList then some (.tup [.agg [i64 20, i64 (w64 (w64 (w64 ((0 : Int) + (1 : Int)) + (1 : Int)) + (1 : Int))), i64 0, i64 0], Bo true], []) else some (.tup [.agg [i64 0, i64 0, i64 0, i64 0], Bo false], []) := by kernel_rfl
theorem va_21 {s : ByteArray} : (afun vaG 60 Try.f174 [I64 21, StrA s] []).eval = bif ([(⟨#[110, 111, 119, 114, 97, 112]⟩ : ByteArray), (⟨#[119, 114, 97, 112]⟩ : ByteArray), { data := #[119, 114, 97, 112, 45, 114, 101, 118, 101, 114, 115, 101] }].getD 0 (⟨#[]⟩ : ByteArray)).toList == s.toList then some (.tup [.agg [i64 21, i64 0, i64 0, i64 0], Bo true], []) else bif ([(⟨#[110, 111, 119, 114, 97, 112]⟩ : ByteArray), (⟨#[119, 114, 97, 112]⟩ : ByteArray), { data := #[119, 114, 97, 112, 45, 114, 101, 118, 101, 114, 115, 101] }].getD 1 (⟨#[]⟩ : ByteArray)).toList == s.toList then some (.tup [.agg [i64 21, i64 (w64 ((0 : Int) + (1 : Int))), i64 0, i64 0], Bo true], []) else bif ([(⟨#[110, 111, 119, 114, 97, 112]⟩ : ByteArray), (⟨#[119, 114, 97, 112]⟩ : ByteArray), { data := #[119, 114, 97, 112, 45, 114, 101, 118, 101, 114, 115, 101] }].getD 2 (⟨#[]⟩ : ByteArray)).toList == s.toList then some (.tup [.agg [i64 21, i64 (w64 (w64 ((0 : Int) + (1 : Int)) + (1 : Int))), i64 0, i64 0], Bo true], []) else some (.tup [.agg [i64 0, i64 0, i64 0, i64 0], Bo false], []) := by kernel_rfl
theorem va_22 {s : ByteArray} : (afun vaG 60 Try.f174 [I64 22, StrA s] []).eval = bif s.toList == (⟨#[97, 117, 116, 111]⟩ : ByteArray).toList then some (.tup [.agg [i64 22, i64 0, i64 0, i64 0], Bo true], []) else bif yes (s.size < 2 ^ 40) then bif (lenRR s).snd.snd then bif decide ((lenRR s).snd.fst ≥ (0 : Int)) then some (.tup [.agg [i64 22, i64 0, i64 (lenRR s).fst, i64 (lenRR s).snd.fst], Bo true], []) else some (.tup [.agg [i64 0, i64 0, i64 0, i64 0], Bo false], []) else some (.tup [.agg [i64 0, i64 0, i64 0, i64 0], Bo false], []) else none := by kernel_rfl
theorem va_23 {s : ByteArray} : (afun vaG 60 Try.f174 [I64 23, StrA s] []).eval = bif yes (s.size < 2 ^ 40) then bif !(whoR s (0 : Int) (100 : Int)).snd then some (.tup [.agg [i64 0, i64 0, i64 0, i64 0], Bo false], []) else some (.tup [.agg [i64 23, i64 (whoR s (0 : Int) (100 : Int)).fst, i64 0, i64 0], Bo true], []) else none := by kernel_rfl
theorem va_24 {s : ByteArray} : (afun vaG 60 Try.f174 [I64 24, StrA s] []).eval = bif yes (s.size < 2 ^ 40) then bif !(whoR s (0 : Int) (100 : Int)).snd then some (.tup [.agg [i64 0, i64 0, i64 0, i64 0], Bo false], []) else some (.tup [.agg [i64 24, i64 (whoR s (0 : Int) (100 : Int)).fst, i64 0, i64 0], Bo true], []) else none := by kernel_rfl
theorem va_25 {s : ByteArray} : (afun vaG 60 Try.f174 [I64 25, StrA s] []).eval = bif yes (s.size < 2 ^ 40) then bif !(whoR s (-1000 : Int) (1000 : Int)).snd then some (.tup [.agg [i64 0, i64 0, i64 0, i64 0], Bo false], []) else some (.tup [.agg [i64 25, i64 (whoR s (-1000 : Int) (1000 : Int)).fst, i64 0, i64 0], Bo true], []) else none := by kernel_rfl
theorem va_26 {s : ByteArray} : (afun vaG 60 Try.f174 [I64 26, StrA s] []).eval = bif ([(⟨#[115, 116, 97, 114, 116]⟩ : ByteArray), (⟨#[101, 110, 100]⟩ : ByteArray), (⟨#[99, 101, 110, 116, 101, 114]⟩ : ByteArray), { data := #[98, 101, 116, 119, 101, 101, 110] }, { data := #[97, 114, 111, 117, 110, 100] }].getD 0 (⟨#[]⟩ : ByteArray)).toList == s.toList then some (.tup [.agg [i64 26, i64 0, i64 0, i64 0], Bo true], []) else bif ([(⟨#[115, 116, 97, 114, 116]⟩ : ByteArray), (⟨#[101, 110, 100]⟩ : ByteArray), { data := #[99, 101, 110, 116, 101, 114] }, { data := #[98, 101, 116, 119, 101, 101, 110] }, { data := #[97, 114, 111, 117, 110, 100] }].getD 1 (⟨#[]⟩ : ByteArray)).toList == s.toList then some (.tup [.agg [i64 26, i64 (w64 ((0 : Int) + (1 : Int))), i64 0, i64 0], Bo true], []) else bif ([(⟨#[115, 116, 97, 114, 116]⟩ : ByteArray), (⟨#[101, 110, 100]⟩ : ByteArray), { data := #[99, 101, 110, 116, 101, 114] }, { data := #[98, 101, 116, 119, 101, 101, 110] }, { data := #[97, 114, 111, 117, 110, 100] }].getD 2 (⟨#[]⟩ : ByteArray)).toList == s.toList then some (.tup [.agg [i64 26, i64 (w64 (w64 ((0 : Int) + (1 : Int)) + (1 : Int))), i64 0, i64 0], Bo true], []) else bif ([(⟨#[115, 116, 97, 114, 116]⟩ : ByteArray), (⟨#[101, 110, 100]⟩ : ByteArray), { data := #[99, 101, 110, 116, 101, 114] }, { data := #[98, 101, 116, 119, 101, 101, 110] }, { data := #[97, 114, 111, 117, 110, 100] }].getD 3 (⟨#[]⟩ : ByteArray)).toList == s.toList then some (.tup [.agg [i64 26, i64 (w64 (w64 (w64 ((0 : Int) + (1 : Int)) + (1 : Int)) + (1 : Int))), i64 0, i64 0], Bo true], []) else bif ([(⟨#[115, 116, 97, 114, 116]⟩ : ByteArray), (⟨#[101, 110, 100]⟩ : ByteArray), { data := #[99, 101, 110, 116, 101, 114] }, { data := #[98, 101, 116, 119, 101, 101, 110] }, { data := #[97, 114, 111, 117, 110, 100] }].getD 4 (⟨#[]⟩ : ByteArray)).toList == s.toList then some (.tup [.agg [i64 26, i64 (w64 (w64 (w64 (w64 ((0 : Int) + (1 : Int)) + (1 : Int)) + (1 : Int)) + (1 : Int))), i64 0, i64 0], Bo true], []) else some (.tup [.agg [i64 0, i64 0, i64 0, i64 0], Bo false], []) := by kernel_rfl
theorem va_27 {s : ByteArray} : (afun vaG 60 Try.f174 [I64 27, StrA s] []).eval = bif ([(⟨#[115, 116, 97, 114, 116]⟩ : ByteArray), (⟨#[101, 110, 100]⟩ : ByteArray), (⟨#[99, 101, 110, 116, 101, 114]⟩ : ByteArray), { data := #[115, 116, 114, 101, 116, 99, 104] }].getD 0 (⟨#[]⟩ : ByteArray)).toList == s.toList then some (.tup [.agg [i64 27, i64 0, i64 0, i64 0], Bo true], []) else bif ([(⟨#[115, 116, 97, 114, 116]⟩ : ByteArray), (⟨#[101, 110, 100]⟩ : ByteArray), { data := #[99, 101, 110, 116, 101, 114] }, { data := #[115, 116, 114, 101, 116, 99, 104] }].getD 1 (⟨#[]⟩ : ByteArray)).toList == s.toList then some (.tup [.agg [i64 27, i64 (w64 ((0 : Int) + (1 : Int))), i64 0, i64 0], Bo true], []) else bif ([(⟨#[115, 116, 97, 114, 116]⟩ : ByteArray), (⟨#[101, 110, 100]⟩ : ByteArray), { data := #[99, 101, 110, 116, 101, 114] }, { data := #[115, 116, 114, 101, 116, 99, 104] }].getD 2 (⟨#[]⟩ : ByteArray)).toList == s.toList then some (.tup [.agg [i64 27, i64 (w64 (w64 ((0 : Int) + (1 : Int)) + (1 : Int))), i64 0, i64 0], Bo true], []) else bif ([(⟨#[115, 116, 97, 114, 116]⟩ : ByteArray), (⟨#[101, 110, 100]⟩ : ByteArray), { data := #[99, 101, 110, 116, 101, 114] }, { data := #[115, 116, 114, 101, 116, 99, 104] }].getD 3 (⟨#[]⟩ : ByteArray)).toList == s.toList then some (.tup [.agg [i64 27, i64 (w64 (w64 (w64 ((0 : Int) + (1 : Int)) + (1 : Int)) + (1 : Int))), i64 0, i64 0], Bo true], []) else some (.tup [.agg [i64 0, i64 0, i64 0, i64 0], Bo false], []) := by kernel_rfl
theorem va_28 {s : ByteArray} : (afun vaG 60 Try.f174 [I64 28, StrA s] []).eval = bif ([(⟨#[97, 117, 116, 111]⟩ : ByteArray), (⟨#[115, 116, 97, 114, 116]⟩ : ByteArray), (⟨#[101, 110, 100]⟩ : ByteArray), (⟨#[99, 101, 110, 116, 101, 114]⟩ : ByteArray), { data := #[115, 116, 114, 101, 116, 99, 104] }].getD 0 (⟨#[]⟩ : ByteArray)).toList == s.toList then some (.tup [.agg [i64 28, i64 0, i64 0, i64 0], Bo true], []) else bif ([(⟨#[97, 117, 116, 111]⟩ : ByteArray), (⟨#[115, 116, 97, 114, 116]⟩ : ByteArray), (⟨#[101, 110, 100]⟩ : ByteArray), { data := #[99, 101, 110, 116, 101, 114] }, { data := #[115, 116, 114, 101, 116, 99, 104] }].getD 1 (⟨#[]⟩ : ByteArray)).toList == s.toList then some (.tup [.agg [i64 28, i64 (w64 ((0 : Int) + (1 : Int))), i64 0, i64 0], Bo true], []) else bif ([(⟨#[97, 117, 116, 111]⟩ : ByteArray), (⟨#[115, 116, 97, 114, 116]⟩ : ByteArray), (⟨#[101, 110, 100]⟩ : ByteArray), { data := #[99, 101, 110, 116, 101, 114] }, { data := #[115, 116, 114, 101, 116, 99, 104] }].getD 2 (⟨#[]⟩ : ByteArray)).toList == s.toList then some (.tup [.agg [i64 28, i64 (w64 (w64 ((0 : Int) + (1 : Int)) + (1 : Int))), i64 0, i64 0], Bo true], []) else bif ([(⟨#[97, 117, 116, 111]⟩ : ByteArray), (⟨#[115, 116, 97, 114, 116]⟩ : ByteArray), (⟨#[101, 110, 100]⟩ : ByteArray), { data := #[99, 101, 110, 116, 101, 114] }, { data := #[115, 116, 114, 101, 116, 99, 104] }].getD 3 (⟨#[]⟩ : ByteArray)).toList == s.toList then some (.tup [.agg [i64 28, i64 (w64 (w64 (w64 ((0 : Int) + (1 : Int)) + (1 : Int)) + (1 : Int))), i64 0, i64 0], Bo true], []) else bif ([(⟨#[97, 117, 116, 111]⟩ : ByteArray), (⟨#[115, 116, 97, 114, 116]⟩ : ByteArray), (⟨#[101, 110, 100]⟩ : ByteArray), { data := #[99, 101, 110, 116, 101, 114] }, { data := #[115, 116, 114, 101, 116, 99, 104] }].getD 4 (⟨#[]⟩ : ByteArray)).toList == s.toList then some (.tup [.agg [i64 28, i64 (w64 (w64 (w64 (w64 ((0 : Int) + (1 : Int)) + (1 : Int)) + (1 : Int)) + (1 : Int))), i64 0, i64 0], Bo true], []) else some (.tup [.agg [i64 0, i64 0, i64 0, i64 0], Bo false], []) := by kernel_rfl
theorem va_29 {s : ByteArray} : (afun vaG 60 Try.f174 [I64 29, StrA s] []).eval = bif ([(⟨#[108, 101, 102, 116]⟩ : ByteArray), (⟨#[114, 105, 103, 104, 116]⟩ : ByteArray), { data := #[99, 101, 110, 116, 101, 114] }].getD 0 (⟨#[]⟩ : ByteArray)).toList == s.toList then some (.tup [.agg [i64 29, i64 0, i64 0, i64 0], Bo true], []) else bif ([(⟨#[108, 101, 102, 116]⟩ : ByteArray), (⟨#[114, 105, 103, 104, 116]⟩ : ByteArray), { data := #[99, 101, 110, 116, 101, 114] }].getD 1 (⟨#[]⟩ : ByteArray)).toList == s.toList then some (.tup [.agg [i64 29, i64 (w64 ((0 : Int) + (1 : Int))), i64 0, i64 0], Bo true], []) else bif ([(⟨#[108, 101, 102, 116]⟩ : ByteArray), (⟨#[114, 105, 103, 104, 116]⟩ : ByteArray), { data := #[99, 101, 110, 116, 101, 114] }].getD 2 (⟨#[]⟩ : ByteArray)).toList == s.toList then some (.tup [.agg [i64 29, i64 (w64 (w64 ((0 : Int) + (1 : Int)) + (1 : Int))), i64 0, i64 0], Bo true], []) else some (.tup [.agg [i64 0, i64 0, i64 0, i64 0], Bo false], []) := by kernel_rfl
theorem va_30 {s : ByteArray} : (afun vaG 60 Try.f174 [I64 30, StrA s] []).eval = bif ([(⟨#[110, 111, 114, 109, 97, 108]⟩ : ByteArray), (⟨#[110, 111, 119, 114, 97, 112]⟩ : ByteArray), (⟨#[112, 114, 101]⟩ : ByteArray)].getD 0 (⟨#[]⟩ : ByteArray)).toList == s.toList then some (.tup [.agg [i64 30, i64 0, i64 0, i64 0], Bo true], []) else bif ([(⟨#[110, 111, 114, 109, 97, 108]⟩ : ByteArray), { data := #[110, 111, 119, 114, 97, 112] }, (⟨#[112, 114, 101]⟩ : ByteArray)].getD 1 (⟨#[]⟩ : ByteArray)).toList == s.toList then some (.tup [.agg [i64 30, i64 (w64 ((0 : Int) + (1 : Int))), i64 0, i64 0], Bo true], []) else bif ([(⟨#[110, 111, 114, 109, 97, 108]⟩ : ByteArray), { data := #[110, 111, 119, 114, 97, 112] }, (⟨#[112, 114, 101]⟩ : ByteArray)].getD 2 (⟨#[]⟩ : ByteArray)).toList == s.toList then some (.tup [.agg [i64 30, i64 (w64 (w64 ((0 : Int) + (1 : Int)) + (1 : Int))), i64 0, i64 0], Bo true], []) else some (.tup [.agg [i64 0, i64 0, i64 0, i64 0], Bo false], []) := by kernel_rfl
theorem va_31 {s : ByteArray} : (afun vaG 60 Try.f174 [I64 31, StrA s] []).eval = bif yes (s.size < 2 ^ 40) then bif (pixR s).snd then bif !decide ((pixR s).fst ≥ (0 : Int)) then some (.tup [.agg [i64 0, i64 0, i64 0, i64 0], Bo false], []) else some (.tup [.agg [i64 31, i64 0, i64 1, i64 (pixR s).fst], Bo true], []) else some (.tup [.agg [i64 0, i64 0, i64 0, i64 0], Bo false], []) else none := by kernel_rfl
theorem va_32 {s : ByteArray} : (afun vaG 60 Try.f174 [I64 32, StrA s] []).eval = bif ([{ data := #[118, 105, 115, 105, 98, 108, 101] }, { data := #[104, 105, 100, 100, 101, 110] }].getD 0 (⟨#[]⟩ : ByteArray)).toList == s.toList then some (.tup [.agg [i64 32, i64 0, i64 0, i64 0], Bo true], []) else bif ([{ data := #[118, 105, 115, 105, 98, 108, 101] }, { data := #[104, 105, 100, 100, 101, 110] }].getD 1 (⟨#[]⟩ : ByteArray)).toList == s.toList then some (.tup [.agg [i64 32, i64 (w64 ((0 : Int) + (1 : Int))), i64 0, i64 0], Bo true], []) else some (.tup [.agg [i64 0, i64 0, i64 0, i64 0], Bo false], []) := by kernel_rfl
end
section
open Go Go.RowKit
theorem bif5 {α : Type} {c : Bool} {A B : Option α} {f : Int → Int → Int → Int → Bool → Option α} (h1 : ∃ a b x y o, A = f a b x y o) (h2 : ∃ a b x y o, B = f a b x y o) : ∃ a b x y o, (bif c then A else B) = f a b x y o := by cases c <;> assumption
theorem va_ex {s : ByteArray} (hs : s.size < 2 ^ 40) {p : Int} (h1 : 1 ≤ p) (h2 : p ≤ 32) : ∃ a b x y o, (afun vaG 60 Try.f174 [I64 p, StrA s] []).eval = some (.tup [.agg [i64 a, i64 b, i64 x, i64 y], Bo o], []) := by
  have hy : yes (s.size < 2 ^ 40) = true := yes_of hs
  have : p = 1 ∨ p = 2 ∨ p = 3 ∨ p = 4 ∨ p = 5 ∨ p = 6 ∨ p = 7 ∨ p = 8 ∨ p = 9 ∨ p = 10 ∨ p = 11 ∨ p = 12 ∨ p = 13 ∨ p = 14 ∨ p = 15 ∨ p = 16 ∨ p = 17 ∨ p = 18 ∨ p = 19 ∨ p = 20 ∨ p = 21 ∨ p = 22 ∨ p = 23 ∨ p = 24 ∨ p = 25 ∨ p = 26 ∨ p = 27 ∨ p = 28 ∨ p = 29 ∨ p = 30 ∨ p = 31 ∨ p = 32 := by omega
  rcases this with rfl | rfl | rfl | rfl | rfl | rfl | rfl | rfl | rfl | rfl | rfl | rfl | rfl | rfl | rfl | rfl | rfl | rfl | rfl | rfl | rfl | rfl | rfl | rfl | rfl | rfl | rfl | rfl | rfl | rfl | rfl | rfl
  · rw [va_1]
    try simp only [hy, cond_true]
    repeat' (first | exact ⟨_, _, _, _, _, rfl⟩ | refine bif5 ?_ ?_)
  · rw [va_2]
    try simp only [hy, cond_true]
    repeat' (first | exact ⟨_, _, _, _, _, rfl⟩ | refine bif5 ?_ ?_)
  · rw [va_3]
    try simp only [hy, cond_true]
    repeat' (first | exact ⟨_, _, _, _, _, rfl⟩ | refine bif5 ?_ ?_)
  · rw [va_4]
    try simp only [hy, cond_true]
    repeat' (first | exact ⟨_, _, _, _, _, rfl⟩ | refine bif5 ?_ ?_)
  · rw [va_5]
    try simp only [hy, cond_true]
    repeat' (first | exact ⟨_, _, _, _, _, rfl⟩ | refine bif5 ?_ ?_)
  · rw [va_6]
    try simp only [hy, cond_true]
    repeat' (first | exact ⟨_, _, _, _, _, rfl⟩ | refine bif5 ?_ ?_)
  · rw [va_7]
    try simp only [hy, cond_true]
    repeat' (first | exact ⟨_, _, _, _, _, rfl⟩ | refine bif5 ?_ ?_)
  · rw [va_8]
    try simp only [hy, cond_true]
    repeat' (first | exact ⟨_, _, _, _, _, rfl⟩ | refine bif5 ?_ ?_)
  · rw [va_9]
    try simp only [hy, cond_true]
    repeat' (first | exact ⟨_, _, _, _, _, rfl⟩ | refine bif5 ?_ ?_)
  · rw [va_10]
    try simp only [hy, cond_true]
    repeat' (first | exact ⟨_, _, _, _, _, rfl⟩ | refine bif5 ?_ ?_)
  · rw [va_11]
    try simp only [hy, cond_true]
    repeat' (first | exact ⟨_, _, _, _, _, rfl⟩ | refine bif5 ?_ ?_)
  · rw [va_12]
    try simp only [hy, cond_true]
    repeat' (first | exact ⟨_, _, _, _, _, rfl⟩ | refine bif5 ?_ ?_)
  · rw [va_13]
    try simp only [hy, cond_true]
    repeat' (first | exact ⟨_, _, _, _, _, rfl⟩ | refine bif5 ?_ ?_)
  · rw [va_14]
    try simp only [hy, cond_true]
    repeat' (first | exact ⟨_, _, _, _, _, rfl⟩ | refine bif5 ?_ ?_)
  · rw [va_15]
    try simp only [hy, cond_true]
    repeat' (first | exact ⟨_, _, _, _, _, rfl⟩ | refine bif5 ?_ ?_)
  · rw [va_16]
    try simp only [hy, cond_true]
    repeat' (first | exact ⟨_, _, _, _, _, rfl⟩ | refine bif5 ?_ ?_)
  · rw [va_17]
    try simp only [hy, cond_true]
    repeat' (first | exact ⟨_, _, _, _, _, rfl⟩ | refine bif5 ?_ ?_)
  · rw [va_18]
    try simp only [hy, cond_true]
    repeat' (first | exact ⟨_, _, _, _, _, rfl⟩ | refine bif5 ?_ ?_)
  · rw [va_19]
    try simp only [hy, cond_true]
    repeat' (first | exact ⟨_, _, _, _, _, rfl⟩ | refine bif5 ?_ ?_)
  · rw [va_20]
    try simp only [hy, cond_true]
    repeat' (first | exact ⟨_, _, _, _, _, rfl⟩ | refine bif5 ?_ ?_)
  · rw [va_21]
    try simp only [hy, cond_true]
    repeat' (first | exact ⟨_, _, _, _, _, rfl⟩ | refine bif5 ?_ ?_)
  · rw [va_22]
    try simp only [hy, cond_true]
    repeat' (first | exact ⟨_, _, _, _, _, rfl⟩ | refine bif5 ?_ ?_)
  · rw [va_23]
    try simp only [hy, cond_true]
    repeat' (first | exact ⟨_, _, _, _, _, rfl⟩ | refine bif5 ?_ ?_)
  · rw [va_24]
    try simp only [hy, cond_true]
    repeat' (first | exact ⟨_, _, _, _, _, rfl⟩ | refine bif5 ?_ ?_)
  · rw [va_25]
    try simp only [hy, cond_true]
    repeat' (first | exact ⟨_, _, _, _, _, rfl⟩ | refine bif5 ?_ ?_)
  · rw [va_26]
    try simp only [hy, cond_true]
    repeat' (first | exact ⟨_, _, _, _, _, rfl⟩ | refine bif5 ?_ ?_)
  · rw [va_27]
    try simp only [hy, cond_true]
    repeat' (first | exact ⟨_, _, _, _, _, rfl⟩ | refine bif5 ?_ ?_)
  · rw [va_28]
    try simp only [hy, cond_true]
    repeat' (first | exact ⟨_, _, _, _, _, rfl⟩ | refine bif5 ?_ ?_)
  · rw [va_29]
    try simp only [hy, cond_true]
    repeat' (first | exact ⟨_, _, _, _, _, rfl⟩ | refine bif5 ?_ ?_)
  · rw [va_30]
    try simp only [hy, cond_true]
    repeat' (first | exact ⟨_, _, _, _, _, rfl⟩ | refine bif5 ?_ ?_)
  · rw [va_31]
    try simp only [hy, cond_true]
    repeat' (first | exact ⟨_, _, _, _, _, rfl⟩ | refine bif5 ?_ ?_)
  · rw [va_32]
    try simp only [hy, cond_true]
    repeat' (first | exact ⟨_, _, _, _, _, rfl⟩ | refine bif5 ?_ ?_)
structure ValR where
  a : Int
  b : Int
  x : Int
  y : Int
  o : Bool
theorem va_ex' {s : ByteArray} (hs : s.size < 2 ^ 40) {p : Int} (h1 : 1 ≤ p) (h2 : p ≤ 32) : ∃ v : ValR, (afun vaG 60 Try.f174 [I64 p, StrA s] []).eval = some (.tup [.agg [i64 v.a, i64 v.b, i64 v.x, i64 v.y], Bo v.o], []) := by
  obtain ⟨a, b, x, y, o, h⟩ := va_ex hs h1 h2
  exact ⟨⟨a, b, x, y, o⟩, h⟩
open Classical in
noncomputable def valR (p : Int) (s : ByteArray) : ValR := if h : s.size < 2 ^ 40 ∧ 1 ≤ p ∧ p ≤ 32 then Classical.choose (va_ex' h.1 h.2.1 h.2.2) else ⟨0, 0, 0, 0, false⟩
noncomputable def valF : Spec := fun args h => match args, h with
  | [.c (.v (.int .i64 p)), .c (.v (.string s))], [] => .need (yes (s.size < 2 ^ 40 ∧ 1 ≤ p ∧ p ≤ 32)) (.ret (.tup [.agg [i64 (valR p s).a, i64 (valR p s).b, i64 (valR p s).x, i64 (valR p s).y], Bo (valR p s).o], []))
  | _, _ => .fail
theorem valF_ok : SpecOk Try.prog 174 valF := by
  refine known' KVA_ok Try.func174 fun args h r he => ?_
  unfold valF at he
  split at he
  · rename_i p s
    obtain ⟨h1, he⟩ := Tr.eval_ask.1 he
    cases he
    refine ⟨fun k => if k = 4 then [(0,none),(1,none),(4,none),(6,none),(7,none),(8,none)] else [], 8, 60, ?_⟩
    unfold valR
    rw [dif_pos h1]
    exact Classical.choose_spec (va_ex' h1.1 h1.2.1 h1.2.2)
  · cases he
noncomputable def KPR : Known := [(170, afun (GK [] (fun _ => []) 0) 60 Try.f170), (171, skF), (172, c8F nmc), (173, c8F vlc), (174, valF)]
theorem KPR_ok : KnownOk KPR := consK (known0 nilK 60 Try.func170) (by kernel_rfl) (consK skF_ok (by kernel_rfl) (consK nmc_ok (by kernel_rfl) (consK vlc_ok (by kernel_rfl) (consK valF_ok (by kernel_rfl) nilK))))
theorem nam_nf : (lfun niG nol 60 Try.f170 [] []).eval = some (.c (.sl 0 0 33), [some ⟨9, true, .lst 1 [[.v (.string (⟨#[]⟩ : ByteArray))], [.v (.string { data := #[100, 105, 115, 112, 108, 97, 121] })], [.v (.string (⟨#[119, 105, 100, 116, 104]⟩ : ByteArray))], [.v (.string { data := #[104, 101, 105, 103, 104, 116] })], [.v (.string { data := #[109, 105, 110, 45, 119, 105, 100, 116, 104] })], [.v (.string { data := #[109, 105, 110, 45, 104, 101, 105, 103, 104, 116] })], [.v (.string { data := #[109, 97, 120, 45, 119, 105, 100, 116, 104] })], [.v (.string { data := #[109, 97, 120, 45, 104, 101, 105, 103, 104, 116] })], [.v (.string { data := #[109, 97, 114, 103, 105, 110, 45, 116, 111, 112] })], [.v (.string { data := #[109, 97, 114, 103, 105, 110, 45, 114, 105, 103, 104, 116] })], [.v (.string { data := #[109, 97, 114, 103, 105, 110, 45, 98, 111, 116, 116, 111, 109] })], [.v (.string { data := #[109, 97, 114, 103, 105, 110, 45, 108, 101, 102, 116] })], [.v (.string { data := #[112, 97, 100, 100, 105, 110, 103, 45, 116, 111, 112] })], [.v (.string { data := #[112, 97, 100, 100, 105, 110, 103, 45, 114, 105, 103, 104, 116] })], [.v (.string { data := #[112, 97, 100, 100, 105, 110, 103, 45, 98, 111, 116, 116, 111, 109] })], [.v (.string { data := #[112, 97, 100, 100, 105, 110, 103, 45, 108, 101, 102, 116] })], [.v (.string { data := #[98, 111, 114, 100, 101, 114, 45, 116, 111, 112] })], [.v (.string { data := #[98, 111, 114, 100, 101, 114, 45, 114, 105, 103, 104, 116] })], [.v (.string { data := #[98, 111, 114, 100, 101, 114, 45, 98, 111, 116, 116, 111, 109] })], [.v (.string { data := #[98, 111, 114, 100, 101, 114, 45, 108, 101, 102, 116] })], [.v (.string { data := #[102, 108, 101, 120, 45, 100, 105, 114, 101, 99, 116, 105, 111, 110] })], [.v (.string { data := #[102, 108, 101, 120, 45, 119, 114, 97, 112] })], [.v (.string { data := #[102, 108, 101, 120, 45, 98, 97, 115, 105, 115] })], [.v (.string { data := #[102, 108, 101, 120, 45, 103, 114, 111, 119] })], [.v (.string { data := #[102, 108, 101, 120, 45, 115, 104, 114, 105, 110, 107] })], [.v (.string (⟨#[111, 114, 100, 101, 114]⟩ : ByteArray))], [.v (.string { data := #[106, 117, 115, 116, 105, 102, 121, 45, 99, 111, 110, 116, 101, 110, 116] })], [.v (.string { data := #[97, 108, 105, 103, 110, 45, 105, 116, 101, 109, 115] })], [.v (.string { data := #[97, 108, 105, 103, 110, 45, 115, 101, 108, 102] })], [.v (.string { data := #[116, 101, 120, 116, 45, 97, 108, 105, 103, 110] })], [.v (.string { data := #[119, 104, 105, 116, 101, 45, 115, 112, 97, 99, 101] })], [.v (.string { data := #[108, 105, 110, 101, 45, 104, 101, 105, 103, 104, 116] })], [.v (.string { data := #[111, 118, 101, 114, 102, 108, 111, 119] })]] [.v (.string (⟨#[]⟩ : ByteArray))]⟩]) := by kernel_rfl
end
end Go.Proofs.Ytcpahifgdppkbaa.QAI
