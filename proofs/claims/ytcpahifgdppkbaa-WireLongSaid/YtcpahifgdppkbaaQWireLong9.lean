/- Ops of numbers: a declaration's text has at most a hundred bytes; One's spec. -/
import Derived.Test.YtcpahifgdppkbaaQWireLong8
set_option linter.unusedVariables false
set_option linter.unusedSimpArgs false
set_option maxRecDepth 100000
namespace Go.Proofs.Ytcpahifgdppkbaa.QAI
section
open Go Go.RowKit
set_option maxHeartbeats 4000000
def Sm (k : Nat) (s : ByteArray) : Prop := s.size ≤ k
theorem sm_app {a b : Nat} {A B : ByteArray} (h1 : Sm a A) (h2 : Sm b B) : Sm (a + b) (A ++ B) := by
  unfold Sm at *; rw [ByteArray.size_append]; omega
theorem sm_le {a b : Nat} {A : ByteArray} (h : Sm a A) (hb : a ≤ b) : Sm b A := Nat.le_trans h hb
theorem sm_lit {s : ByteArray} (h : s.size ≤ 24) : Sm 24 s := h
theorem sm_max {a b : Nat} {A B : ByteArray} (h1 : Sm a A) (h2 : Sm b B) (h : a + b ≤ 100000) : decide (((A.size + B.size : Nat) : Int) ≤ IntKind.i64.max) = true := by
  have e : IntKind.i64.max = 9223372036854775807 := rfl
  unfold Sm at *; rw [e]; exact decide_eq_true (by omega)
theorem sm_n {k i : Nat} : Sm k (([] : List ByteArray).getD i (⟨#[]⟩ : ByteArray)) := Nat.zero_le _
theorem sm_c {k i : Nat} {s : ByteArray} {l : List ByteArray} (h : Sm k s) (h2 : ∀ j, Sm k (l.getD j (⟨#[]⟩ : ByteArray))) : Sm k ((s :: l).getD i (⟨#[]⟩ : ByteArray)) := by
  cases i with
  | zero => exact h
  | succ j => exact h2 j
theorem sm_t {k : Nat} : ∀ (l : List ByteArray), l.all (fun s => decide (s.size ≤ k)) = true → ∀ i, Sm k (l.getD i (⟨#[]⟩ : ByteArray))
  | [], _, i => sm_n
  | s :: l, h, i => by
    simp only [List.all_cons, Bool.and_eq_true, decide_eq_true_eq] at h
    exact sm_c h.1 (sm_t l h.2)
theorem sm_nmS (i : Nat) : Sm 24 (nmS.getD i (⟨#[]⟩ : ByteArray)) := sm_t nmS (by decide) i
theorem sm_oT0 (i : Nat) : Sm 24 (oT0.getD i (⟨#[]⟩ : ByteArray)) := sm_t oT0 (by decide) i
theorem sm_oT1 (i : Nat) : Sm 24 (oT1.getD i (⟨#[]⟩ : ByteArray)) := sm_t oT1 (by decide) i
theorem sm_oT2 (i : Nat) : Sm 24 (oT2.getD i (⟨#[]⟩ : ByteArray)) := sm_t oT2 (by decide) i
theorem sm_oT3 (i : Nat) : Sm 24 (oT3.getD i (⟨#[]⟩ : ByteArray)) := sm_t oT3 (by decide) i
theorem sm_oT4 (i : Nat) : Sm 24 (oT4.getD i (⟨#[]⟩ : ByteArray)) := sm_t oT4 (by decide) i
theorem sm_oT5 (i : Nat) : Sm 24 (oT5.getD i (⟨#[]⟩ : ByteArray)) := sm_t oT5 (by decide) i
theorem sm_oT6 (i : Nat) : Sm 24 (oT6.getD i (⟨#[]⟩ : ByteArray)) := sm_t oT6 (by decide) i
theorem sm_oT7 (i : Nat) : Sm 24 (oT7.getD i (⟨#[]⟩ : ByteArray)) := sm_t oT7 (by decide) i
theorem sm_oT8 (i : Nat) : Sm 24 (oT8.getD i (⟨#[]⟩ : ByteArray)) := sm_t oT8 (by decide) i
theorem sm_oT9 (i : Nat) : Sm 24 (oT9.getD i (⟨#[]⟩ : ByteArray)) := sm_t oT9 (by decide) i
theorem sm_oT10 (i : Nat) : Sm 24 (oT10.getD i (⟨#[]⟩ : ByteArray)) := sm_t oT10 (by decide) i
theorem sm_oT11 (i : Nat) : Sm 24 (oT11.getD i (⟨#[]⟩ : ByteArray)) := sm_t oT11 (by decide) i
theorem sm_oT12 (i : Nat) : Sm 24 (oT12.getD i (⟨#[]⟩ : ByteArray)) := sm_t oT12 (by decide) i
theorem sm_oT13 (i : Nat) : Sm 24 (oT13.getD i (⟨#[]⟩ : ByteArray)) := sm_t oT13 (by decide) i
theorem sm_oT14 (i : Nat) : Sm 24 (oT14.getD i (⟨#[]⟩ : ByteArray)) := sm_t oT14 (by decide) i
theorem m7 (a : Int) : 0 ≤ and64 a 7 ∧ and64 a 7 < 8 := by rw [and_mask 3 (by decide) a 7 rfl]; omega
theorem m3 (a : Int) : 0 ≤ and64 a 3 ∧ and64 a 3 < 4 := by rw [and_mask 2 (by decide) a 3 rfl]; omega
theorem m1 (a : Int) : 0 ≤ and64 a 1 ∧ and64 a 1 < 2 := by rw [and_mask 1 (by decide) a 1 rfl]; omega
theorem m255 (a : Int) : 0 ≤ and64 a 255 ∧ and64 a 255 < 256 := by rw [and_mask 8 (by decide) a 255 rfl]; omega
theorem tm (a m : Int) (h : 0 ≤ a) (hm : 0 < m) : 0 ≤ a.tmod m ∧ a.tmod m < m := ⟨Int.tmod_nonneg m h, Int.tmod_lt_of_pos a hm⟩
theorem mP (n : Int) : 1 ≤ w64 ((and64 n 255).tmod 33 + 1) ∧ w64 ((and64 n 255).tmod 33 + 1) ≤ 33 := by
  have h := tm (and64 n 255) 33 (m255 n).1 (by decide)
  rw [w64_id (by omega) (by omega)]; omega
theorem k7a (a : Int) : decide ((0 : Int) ≤ and64 a (7 : Int)) = true := by have := m7 a; exact decide_eq_true (by omega)
theorem k7b (a : Int) : decide (and64 a (7 : Int) < ((8 : Nat) : Int)) = true := by have := m7 a; exact decide_eq_true (by omega)
theorem k7c (a : Int) : decide (0 + (and64 a (7 : Int)).toNat < 8) = true := by have := m7 a; exact decide_eq_true (by omega)
theorem k3a (a : Int) : decide ((0 : Int) ≤ and64 a (3 : Int)) = true := by have := m3 a; exact decide_eq_true (by omega)
theorem k3b (a : Int) : decide (and64 a (3 : Int) < ((4 : Nat) : Int)) = true := by have := m3 a; exact decide_eq_true (by omega)
theorem k3c (a : Int) : decide (0 + (and64 a (3 : Int)).toNat < 4) = true := by have := m3 a; exact decide_eq_true (by omega)
theorem k1a (a : Int) : decide ((0 : Int) ≤ and64 a (1 : Int)) = true := by have := m1 a; exact decide_eq_true (by omega)
theorem k1b (a : Int) : decide (and64 a (1 : Int) < ((2 : Nat) : Int)) = true := by have := m1 a; exact decide_eq_true (by omega)
theorem k1c (a : Int) : decide (0 + (and64 a (1 : Int)).toNat < 2) = true := by have := m1 a; exact decide_eq_true (by omega)
theorem t3a (a : Int) : decide ((0 : Int) ≤ (and64 a (255 : Int)).tmod (3 : Int)) = true := by have := tm (and64 a 255) 3 (m255 a).1 (by decide); exact decide_eq_true (by omega)
theorem t3b (a : Int) : decide ((and64 a (255 : Int)).tmod (3 : Int) < ((3 : Nat) : Int)) = true := by have := tm (and64 a 255) 3 (m255 a).1 (by decide); exact decide_eq_true (by omega)
theorem t3c (a : Int) : decide (0 + ((and64 a (255 : Int)).tmod (3 : Int)).toNat < 3) = true := by have := tm (and64 a 255) 3 (m255 a).1 (by decide); exact decide_eq_true (by omega)
theorem t5a (a : Int) : decide ((0 : Int) ≤ (and64 a (255 : Int)).tmod (5 : Int)) = true := by have := tm (and64 a 255) 5 (m255 a).1 (by decide); exact decide_eq_true (by omega)
theorem t5b (a : Int) : decide ((and64 a (255 : Int)).tmod (5 : Int) < ((5 : Nat) : Int)) = true := by have := tm (and64 a 255) 5 (m255 a).1 (by decide); exact decide_eq_true (by omega)
theorem t5c (a : Int) : decide (0 + ((and64 a (255 : Int)).tmod (5 : Int)).toNat < 5) = true := by have := tm (and64 a 255) 5 (m255 a).1 (by decide); exact decide_eq_true (by omega)
class Tru (b : Bool) : Prop where
  tru : b = true
instance ik7a (a : Int) : Tru (decide ((0 : Int) ≤ and64 a (7 : Int))) := ⟨k7a a⟩
instance ik7b (a : Int) : Tru (decide (and64 a (7 : Int) < ((8 : Nat) : Int))) := ⟨k7b a⟩
instance ik7c (a : Int) : Tru (decide (0 + (and64 a (7 : Int)).toNat < 8)) := ⟨k7c a⟩
instance ik3a (a : Int) : Tru (decide ((0 : Int) ≤ and64 a (3 : Int))) := ⟨k3a a⟩
instance ik3b (a : Int) : Tru (decide (and64 a (3 : Int) < ((4 : Nat) : Int))) := ⟨k3b a⟩
instance ik3c (a : Int) : Tru (decide (0 + (and64 a (3 : Int)).toNat < 4)) := ⟨k3c a⟩
instance ik1a (a : Int) : Tru (decide ((0 : Int) ≤ and64 a (1 : Int))) := ⟨k1a a⟩
instance ik1b (a : Int) : Tru (decide (and64 a (1 : Int) < ((2 : Nat) : Int))) := ⟨k1b a⟩
instance ik1c (a : Int) : Tru (decide (0 + (and64 a (1 : Int)).toNat < 2)) := ⟨k1c a⟩
instance it3a (a : Int) : Tru (decide ((0 : Int) ≤ (and64 a (255 : Int)).tmod (3 : Int))) := ⟨t3a a⟩
instance it3b (a : Int) : Tru (decide ((and64 a (255 : Int)).tmod (3 : Int) < ((3 : Nat) : Int))) := ⟨t3b a⟩
instance it3c (a : Int) : Tru (decide (0 + ((and64 a (255 : Int)).tmod (3 : Int)).toNat < 3)) := ⟨t3c a⟩
instance it5a (a : Int) : Tru (decide ((0 : Int) ≤ (and64 a (255 : Int)).tmod (5 : Int))) := ⟨t5a a⟩
instance it5b (a : Int) : Tru (decide ((and64 a (255 : Int)).tmod (5 : Int) < ((5 : Nat) : Int))) := ⟨t5b a⟩
instance it5c (a : Int) : Tru (decide (0 + ((and64 a (255 : Int)).tmod (5 : Int)).toNat < 5)) := ⟨t5c a⟩
class IsSm (k : outParam Nat) (s : ByteArray) : Prop where
  sm : Sm k s
class IsSmL (k : outParam Nat) (l : List ByteArray) : Prop where
  sm : ∀ j, Sm k (l.getD j (⟨#[]⟩ : ByteArray))
instance (priority := 1) iS0 (s : ByteArray) : IsSm s.size s := ⟨Nat.le_refl _⟩
instance iSL0 : IsSmL 0 [] := ⟨fun _ => sm_n⟩
instance iSL1 {a b : Nat} {s : ByteArray} {l : List ByteArray} [h1 : IsSm a s] [h2 : IsSmL b l] : IsSmL (max a b) (s :: l) := ⟨fun _ => sm_c (sm_le h1.sm (Nat.le_max_left _ _)) fun j => sm_le (h2.sm j) (Nat.le_max_right _ _)⟩
instance iS1 {k i : Nat} {l : List ByteArray} [h : IsSmL k l] : IsSm k (l.getD i (⟨#[]⟩ : ByteArray)) := ⟨h.sm i⟩
instance iS2 {a b : Nat} {A B : ByteArray} [h1 : IsSm a A] [h2 : IsSm b B] : IsSm (a + b) (A ++ B) := ⟨sm_app h1.sm h2.sm⟩
instance inmS : IsSmL 24 nmS := ⟨sm_nmS⟩
instance ioT0 : IsSmL 24 oT0 := ⟨sm_oT0⟩
instance ioT1 : IsSmL 24 oT1 := ⟨sm_oT1⟩
instance ioT2 : IsSmL 24 oT2 := ⟨sm_oT2⟩
instance ioT3 : IsSmL 24 oT3 := ⟨sm_oT3⟩
instance ioT4 : IsSmL 24 oT4 := ⟨sm_oT4⟩
instance ioT5 : IsSmL 24 oT5 := ⟨sm_oT5⟩
instance ioT6 : IsSmL 24 oT6 := ⟨sm_oT6⟩
instance ioT7 : IsSmL 24 oT7 := ⟨sm_oT7⟩
instance ioT8 : IsSmL 24 oT8 := ⟨sm_oT8⟩
instance ioT9 : IsSmL 24 oT9 := ⟨sm_oT9⟩
instance ioT10 : IsSmL 24 oT10 := ⟨sm_oT10⟩
instance ioT11 : IsSmL 24 oT11 := ⟨sm_oT11⟩
instance ioT12 : IsSmL 24 oT12 := ⟨sm_oT12⟩
instance ioT13 : IsSmL 24 oT13 := ⟨sm_oT13⟩
instance ioT14 : IsSmL 24 oT14 := ⟨sm_oT14⟩
def OnRes (n : Int) (s : ByteArray) : Prop := Sm 100 s ∧ (lfun onG nol 60 Try.f167 [I64 n] []).eval = some (StrA s, [])
theorem one_1 {n : Int} (hP : w64 ((and64 n (255 : Int)).tmod (33 : Int) + (1 : Int)) = 1) : ∃ s, OnRes n s := by
  cases ht : (and64 (n.fdiv ((2 : Int) ^ min 24 IntKind.i64.bits)) (31 : Int) == (7 : Int))
  · have ht' : (!(and64 (n.fdiv ((2 : Int) ^ min 24 IntKind.i64.bits)) (31 : Int) == (7 : Int))) = true := by rw [ht]; rfl
    refine ⟨_, ?_, (Tr.go_eval on_af ?_).trans rfl⟩
    · exact sm_le IsSm.sm (by decide)
    · (repeat' (first | exact AllT.nil | refine AllT.cons ?_ ?_)); all_goals first | (with_reducible rfl) | (with_reducible assumption) | exact Tru.tru | (rw [hP]; rfl) | exact sm_max IsSm.sm IsSm.sm (by decide)
  · refine ⟨_, ?_, (Tr.go_eval on_at ?_).trans rfl⟩
    · exact sm_le IsSm.sm (by decide)
    · (repeat' (first | exact AllT.nil | refine AllT.cons ?_ ?_)); all_goals first | (with_reducible rfl) | (with_reducible assumption) | exact Tru.tru | (rw [hP]; rfl) | exact sm_max IsSm.sm IsSm.sm (by decide)
theorem one_2 {n : Int} (hP : w64 ((and64 n (255 : Int)).tmod (33 : Int) + (1 : Int)) = 2) : ∃ s, OnRes n s := by
  cases ht : (and64 (n.fdiv ((2 : Int) ^ min 24 IntKind.i64.bits)) (31 : Int) == (7 : Int))
  · have ht' : (!(and64 (n.fdiv ((2 : Int) ^ min 24 IntKind.i64.bits)) (31 : Int) == (7 : Int))) = true := by rw [ht]; rfl
    refine ⟨_, ?_, (Tr.go_eval on_bf ?_).trans rfl⟩
    · exact sm_le IsSm.sm (by decide)
    · (repeat' (first | exact AllT.nil | refine AllT.cons ?_ ?_)); all_goals first | (with_reducible rfl) | (with_reducible assumption) | exact Tru.tru | (rw [hP]; rfl) | exact sm_max IsSm.sm IsSm.sm (by decide)
  · refine ⟨_, ?_, (Tr.go_eval on_bt ?_).trans rfl⟩
    · exact sm_le IsSm.sm (by decide)
    · (repeat' (first | exact AllT.nil | refine AllT.cons ?_ ?_)); all_goals first | (with_reducible rfl) | (with_reducible assumption) | exact Tru.tru | (rw [hP]; rfl) | exact sm_max IsSm.sm IsSm.sm (by decide)
theorem one_3 {n : Int} (hP : w64 ((and64 n (255 : Int)).tmod (33 : Int) + (1 : Int)) = 3) : ∃ s, OnRes n s := by
  cases ht : (and64 (n.fdiv ((2 : Int) ^ min 24 IntKind.i64.bits)) (31 : Int) == (7 : Int))
  · have ht' : (!(and64 (n.fdiv ((2 : Int) ^ min 24 IntKind.i64.bits)) (31 : Int) == (7 : Int))) = true := by rw [ht]; rfl
    refine ⟨_, ?_, (Tr.go_eval on_bf ?_).trans rfl⟩
    · exact sm_le IsSm.sm (by decide)
    · (repeat' (first | exact AllT.nil | refine AllT.cons ?_ ?_)); all_goals first | (with_reducible rfl) | (with_reducible assumption) | exact Tru.tru | (rw [hP]; rfl) | exact sm_max IsSm.sm IsSm.sm (by decide)
  · refine ⟨_, ?_, (Tr.go_eval on_bt ?_).trans rfl⟩
    · exact sm_le IsSm.sm (by decide)
    · (repeat' (first | exact AllT.nil | refine AllT.cons ?_ ?_)); all_goals first | (with_reducible rfl) | (with_reducible assumption) | exact Tru.tru | (rw [hP]; rfl) | exact sm_max IsSm.sm IsSm.sm (by decide)
theorem one_4 {n : Int} (hP : w64 ((and64 n (255 : Int)).tmod (33 : Int) + (1 : Int)) = 4) : ∃ s, OnRes n s := by
  cases ht : (and64 (n.fdiv ((2 : Int) ^ min 24 IntKind.i64.bits)) (31 : Int) == (7 : Int))
  · have ht' : (!(and64 (n.fdiv ((2 : Int) ^ min 24 IntKind.i64.bits)) (31 : Int) == (7 : Int))) = true := by rw [ht]; rfl
    refine ⟨_, ?_, (Tr.go_eval on_bf ?_).trans rfl⟩
    · exact sm_le IsSm.sm (by decide)
    · (repeat' (first | exact AllT.nil | refine AllT.cons ?_ ?_)); all_goals first | (with_reducible rfl) | (with_reducible assumption) | exact Tru.tru | (rw [hP]; rfl) | exact sm_max IsSm.sm IsSm.sm (by decide)
  · refine ⟨_, ?_, (Tr.go_eval on_bt ?_).trans rfl⟩
    · exact sm_le IsSm.sm (by decide)
    · (repeat' (first | exact AllT.nil | refine AllT.cons ?_ ?_)); all_goals first | (with_reducible rfl) | (with_reducible assumption) | exact Tru.tru | (rw [hP]; rfl) | exact sm_max IsSm.sm IsSm.sm (by decide)
theorem one_5 {n : Int} (hP : w64 ((and64 n (255 : Int)).tmod (33 : Int) + (1 : Int)) = 5) : ∃ s, OnRes n s := by
  cases ht : (and64 (n.fdiv ((2 : Int) ^ min 24 IntKind.i64.bits)) (31 : Int) == (7 : Int))
  · have ht' : (!(and64 (n.fdiv ((2 : Int) ^ min 24 IntKind.i64.bits)) (31 : Int) == (7 : Int))) = true := by rw [ht]; rfl
    refine ⟨_, ?_, (Tr.go_eval on_bf ?_).trans rfl⟩
    · exact sm_le IsSm.sm (by decide)
    · (repeat' (first | exact AllT.nil | refine AllT.cons ?_ ?_)); all_goals first | (with_reducible rfl) | (with_reducible assumption) | exact Tru.tru | (rw [hP]; rfl) | exact sm_max IsSm.sm IsSm.sm (by decide)
  · refine ⟨_, ?_, (Tr.go_eval on_bt ?_).trans rfl⟩
    · exact sm_le IsSm.sm (by decide)
    · (repeat' (first | exact AllT.nil | refine AllT.cons ?_ ?_)); all_goals first | (with_reducible rfl) | (with_reducible assumption) | exact Tru.tru | (rw [hP]; rfl) | exact sm_max IsSm.sm IsSm.sm (by decide)
theorem one_6 {n : Int} (hP : w64 ((and64 n (255 : Int)).tmod (33 : Int) + (1 : Int)) = 6) : ∃ s, OnRes n s := by
  cases ht : (and64 (n.fdiv ((2 : Int) ^ min 24 IntKind.i64.bits)) (31 : Int) == (7 : Int))
  · have ht' : (!(and64 (n.fdiv ((2 : Int) ^ min 24 IntKind.i64.bits)) (31 : Int) == (7 : Int))) = true := by rw [ht]; rfl
    refine ⟨_, ?_, (Tr.go_eval on_bf ?_).trans rfl⟩
    · exact sm_le IsSm.sm (by decide)
    · (repeat' (first | exact AllT.nil | refine AllT.cons ?_ ?_)); all_goals first | (with_reducible rfl) | (with_reducible assumption) | exact Tru.tru | (rw [hP]; rfl) | exact sm_max IsSm.sm IsSm.sm (by decide)
  · refine ⟨_, ?_, (Tr.go_eval on_bt ?_).trans rfl⟩
    · exact sm_le IsSm.sm (by decide)
    · (repeat' (first | exact AllT.nil | refine AllT.cons ?_ ?_)); all_goals first | (with_reducible rfl) | (with_reducible assumption) | exact Tru.tru | (rw [hP]; rfl) | exact sm_max IsSm.sm IsSm.sm (by decide)
theorem one_7 {n : Int} (hP : w64 ((and64 n (255 : Int)).tmod (33 : Int) + (1 : Int)) = 7) : ∃ s, OnRes n s := by
  cases ht : (and64 (n.fdiv ((2 : Int) ^ min 24 IntKind.i64.bits)) (31 : Int) == (7 : Int))
  · have ht' : (!(and64 (n.fdiv ((2 : Int) ^ min 24 IntKind.i64.bits)) (31 : Int) == (7 : Int))) = true := by rw [ht]; rfl
    refine ⟨_, ?_, (Tr.go_eval on_bf ?_).trans rfl⟩
    · exact sm_le IsSm.sm (by decide)
    · (repeat' (first | exact AllT.nil | refine AllT.cons ?_ ?_)); all_goals first | (with_reducible rfl) | (with_reducible assumption) | exact Tru.tru | (rw [hP]; rfl) | exact sm_max IsSm.sm IsSm.sm (by decide)
  · refine ⟨_, ?_, (Tr.go_eval on_bt ?_).trans rfl⟩
    · exact sm_le IsSm.sm (by decide)
    · (repeat' (first | exact AllT.nil | refine AllT.cons ?_ ?_)); all_goals first | (with_reducible rfl) | (with_reducible assumption) | exact Tru.tru | (rw [hP]; rfl) | exact sm_max IsSm.sm IsSm.sm (by decide)
theorem one_8 {n : Int} (hP : w64 ((and64 n (255 : Int)).tmod (33 : Int) + (1 : Int)) = 8) : ∃ s, OnRes n s := by
  cases ht : (and64 (n.fdiv ((2 : Int) ^ min 24 IntKind.i64.bits)) (31 : Int) == (7 : Int))
  · have ht' : (!(and64 (n.fdiv ((2 : Int) ^ min 24 IntKind.i64.bits)) (31 : Int) == (7 : Int))) = true := by rw [ht]; rfl
    refine ⟨_, ?_, (Tr.go_eval on_cf ?_).trans rfl⟩
    · exact sm_le IsSm.sm (by decide)
    · (repeat' (first | exact AllT.nil | refine AllT.cons ?_ ?_)); all_goals first | (with_reducible rfl) | (with_reducible assumption) | exact Tru.tru | (rw [hP]; rfl) | exact sm_max IsSm.sm IsSm.sm (by decide)
  · refine ⟨_, ?_, (Tr.go_eval on_ct ?_).trans rfl⟩
    · exact sm_le IsSm.sm (by decide)
    · (repeat' (first | exact AllT.nil | refine AllT.cons ?_ ?_)); all_goals first | (with_reducible rfl) | (with_reducible assumption) | exact Tru.tru | (rw [hP]; rfl) | exact sm_max IsSm.sm IsSm.sm (by decide)
theorem one_9 {n : Int} (hP : w64 ((and64 n (255 : Int)).tmod (33 : Int) + (1 : Int)) = 9) : ∃ s, OnRes n s := by
  cases ht : (and64 (n.fdiv ((2 : Int) ^ min 24 IntKind.i64.bits)) (31 : Int) == (7 : Int))
  · have ht' : (!(and64 (n.fdiv ((2 : Int) ^ min 24 IntKind.i64.bits)) (31 : Int) == (7 : Int))) = true := by rw [ht]; rfl
    refine ⟨_, ?_, (Tr.go_eval on_cf ?_).trans rfl⟩
    · exact sm_le IsSm.sm (by decide)
    · (repeat' (first | exact AllT.nil | refine AllT.cons ?_ ?_)); all_goals first | (with_reducible rfl) | (with_reducible assumption) | exact Tru.tru | (rw [hP]; rfl) | exact sm_max IsSm.sm IsSm.sm (by decide)
  · refine ⟨_, ?_, (Tr.go_eval on_ct ?_).trans rfl⟩
    · exact sm_le IsSm.sm (by decide)
    · (repeat' (first | exact AllT.nil | refine AllT.cons ?_ ?_)); all_goals first | (with_reducible rfl) | (with_reducible assumption) | exact Tru.tru | (rw [hP]; rfl) | exact sm_max IsSm.sm IsSm.sm (by decide)
theorem one_10 {n : Int} (hP : w64 ((and64 n (255 : Int)).tmod (33 : Int) + (1 : Int)) = 10) : ∃ s, OnRes n s := by
  cases ht : (and64 (n.fdiv ((2 : Int) ^ min 24 IntKind.i64.bits)) (31 : Int) == (7 : Int))
  · have ht' : (!(and64 (n.fdiv ((2 : Int) ^ min 24 IntKind.i64.bits)) (31 : Int) == (7 : Int))) = true := by rw [ht]; rfl
    refine ⟨_, ?_, (Tr.go_eval on_cf ?_).trans rfl⟩
    · exact sm_le IsSm.sm (by decide)
    · (repeat' (first | exact AllT.nil | refine AllT.cons ?_ ?_)); all_goals first | (with_reducible rfl) | (with_reducible assumption) | exact Tru.tru | (rw [hP]; rfl) | exact sm_max IsSm.sm IsSm.sm (by decide)
  · refine ⟨_, ?_, (Tr.go_eval on_ct ?_).trans rfl⟩
    · exact sm_le IsSm.sm (by decide)
    · (repeat' (first | exact AllT.nil | refine AllT.cons ?_ ?_)); all_goals first | (with_reducible rfl) | (with_reducible assumption) | exact Tru.tru | (rw [hP]; rfl) | exact sm_max IsSm.sm IsSm.sm (by decide)
theorem one_11 {n : Int} (hP : w64 ((and64 n (255 : Int)).tmod (33 : Int) + (1 : Int)) = 11) : ∃ s, OnRes n s := by
  cases ht : (and64 (n.fdiv ((2 : Int) ^ min 24 IntKind.i64.bits)) (31 : Int) == (7 : Int))
  · have ht' : (!(and64 (n.fdiv ((2 : Int) ^ min 24 IntKind.i64.bits)) (31 : Int) == (7 : Int))) = true := by rw [ht]; rfl
    refine ⟨_, ?_, (Tr.go_eval on_cf ?_).trans rfl⟩
    · exact sm_le IsSm.sm (by decide)
    · (repeat' (first | exact AllT.nil | refine AllT.cons ?_ ?_)); all_goals first | (with_reducible rfl) | (with_reducible assumption) | exact Tru.tru | (rw [hP]; rfl) | exact sm_max IsSm.sm IsSm.sm (by decide)
  · refine ⟨_, ?_, (Tr.go_eval on_ct ?_).trans rfl⟩
    · exact sm_le IsSm.sm (by decide)
    · (repeat' (first | exact AllT.nil | refine AllT.cons ?_ ?_)); all_goals first | (with_reducible rfl) | (with_reducible assumption) | exact Tru.tru | (rw [hP]; rfl) | exact sm_max IsSm.sm IsSm.sm (by decide)
theorem one_12 {n : Int} (hP : w64 ((and64 n (255 : Int)).tmod (33 : Int) + (1 : Int)) = 12) : ∃ s, OnRes n s := by
  cases ht : (and64 (n.fdiv ((2 : Int) ^ min 24 IntKind.i64.bits)) (31 : Int) == (7 : Int))
  · have ht' : (!(and64 (n.fdiv ((2 : Int) ^ min 24 IntKind.i64.bits)) (31 : Int) == (7 : Int))) = true := by rw [ht]; rfl
    refine ⟨_, ?_, (Tr.go_eval on_df ?_).trans rfl⟩
    · exact sm_le IsSm.sm (by decide)
    · (repeat' (first | exact AllT.nil | refine AllT.cons ?_ ?_)); all_goals first | (with_reducible rfl) | (with_reducible assumption) | exact Tru.tru | (rw [hP]; rfl) | exact sm_max IsSm.sm IsSm.sm (by decide)
  · refine ⟨_, ?_, (Tr.go_eval on_dt ?_).trans rfl⟩
    · exact sm_le IsSm.sm (by decide)
    · (repeat' (first | exact AllT.nil | refine AllT.cons ?_ ?_)); all_goals first | (with_reducible rfl) | (with_reducible assumption) | exact Tru.tru | (rw [hP]; rfl) | exact sm_max IsSm.sm IsSm.sm (by decide)
theorem one_13 {n : Int} (hP : w64 ((and64 n (255 : Int)).tmod (33 : Int) + (1 : Int)) = 13) : ∃ s, OnRes n s := by
  cases ht : (and64 (n.fdiv ((2 : Int) ^ min 24 IntKind.i64.bits)) (31 : Int) == (7 : Int))
  · have ht' : (!(and64 (n.fdiv ((2 : Int) ^ min 24 IntKind.i64.bits)) (31 : Int) == (7 : Int))) = true := by rw [ht]; rfl
    refine ⟨_, ?_, (Tr.go_eval on_df ?_).trans rfl⟩
    · exact sm_le IsSm.sm (by decide)
    · (repeat' (first | exact AllT.nil | refine AllT.cons ?_ ?_)); all_goals first | (with_reducible rfl) | (with_reducible assumption) | exact Tru.tru | (rw [hP]; rfl) | exact sm_max IsSm.sm IsSm.sm (by decide)
  · refine ⟨_, ?_, (Tr.go_eval on_dt ?_).trans rfl⟩
    · exact sm_le IsSm.sm (by decide)
    · (repeat' (first | exact AllT.nil | refine AllT.cons ?_ ?_)); all_goals first | (with_reducible rfl) | (with_reducible assumption) | exact Tru.tru | (rw [hP]; rfl) | exact sm_max IsSm.sm IsSm.sm (by decide)
theorem one_14 {n : Int} (hP : w64 ((and64 n (255 : Int)).tmod (33 : Int) + (1 : Int)) = 14) : ∃ s, OnRes n s := by
  cases ht : (and64 (n.fdiv ((2 : Int) ^ min 24 IntKind.i64.bits)) (31 : Int) == (7 : Int))
  · have ht' : (!(and64 (n.fdiv ((2 : Int) ^ min 24 IntKind.i64.bits)) (31 : Int) == (7 : Int))) = true := by rw [ht]; rfl
    refine ⟨_, ?_, (Tr.go_eval on_df ?_).trans rfl⟩
    · exact sm_le IsSm.sm (by decide)
    · (repeat' (first | exact AllT.nil | refine AllT.cons ?_ ?_)); all_goals first | (with_reducible rfl) | (with_reducible assumption) | exact Tru.tru | (rw [hP]; rfl) | exact sm_max IsSm.sm IsSm.sm (by decide)
  · refine ⟨_, ?_, (Tr.go_eval on_dt ?_).trans rfl⟩
    · exact sm_le IsSm.sm (by decide)
    · (repeat' (first | exact AllT.nil | refine AllT.cons ?_ ?_)); all_goals first | (with_reducible rfl) | (with_reducible assumption) | exact Tru.tru | (rw [hP]; rfl) | exact sm_max IsSm.sm IsSm.sm (by decide)
theorem one_15 {n : Int} (hP : w64 ((and64 n (255 : Int)).tmod (33 : Int) + (1 : Int)) = 15) : ∃ s, OnRes n s := by
  cases ht : (and64 (n.fdiv ((2 : Int) ^ min 24 IntKind.i64.bits)) (31 : Int) == (7 : Int))
  · have ht' : (!(and64 (n.fdiv ((2 : Int) ^ min 24 IntKind.i64.bits)) (31 : Int) == (7 : Int))) = true := by rw [ht]; rfl
    refine ⟨_, ?_, (Tr.go_eval on_df ?_).trans rfl⟩
    · exact sm_le IsSm.sm (by decide)
    · (repeat' (first | exact AllT.nil | refine AllT.cons ?_ ?_)); all_goals first | (with_reducible rfl) | (with_reducible assumption) | exact Tru.tru | (rw [hP]; rfl) | exact sm_max IsSm.sm IsSm.sm (by decide)
  · refine ⟨_, ?_, (Tr.go_eval on_dt ?_).trans rfl⟩
    · exact sm_le IsSm.sm (by decide)
    · (repeat' (first | exact AllT.nil | refine AllT.cons ?_ ?_)); all_goals first | (with_reducible rfl) | (with_reducible assumption) | exact Tru.tru | (rw [hP]; rfl) | exact sm_max IsSm.sm IsSm.sm (by decide)
theorem one_16 {n : Int} (hP : w64 ((and64 n (255 : Int)).tmod (33 : Int) + (1 : Int)) = 16) : ∃ s, OnRes n s := by
  cases ht : (and64 (n.fdiv ((2 : Int) ^ min 24 IntKind.i64.bits)) (31 : Int) == (7 : Int))
  · have ht' : (!(and64 (n.fdiv ((2 : Int) ^ min 24 IntKind.i64.bits)) (31 : Int) == (7 : Int))) = true := by rw [ht]; rfl
    refine ⟨_, ?_, (Tr.go_eval on_df ?_).trans rfl⟩
    · exact sm_le IsSm.sm (by decide)
    · (repeat' (first | exact AllT.nil | refine AllT.cons ?_ ?_)); all_goals first | (with_reducible rfl) | (with_reducible assumption) | exact Tru.tru | (rw [hP]; rfl) | exact sm_max IsSm.sm IsSm.sm (by decide)
  · refine ⟨_, ?_, (Tr.go_eval on_dt ?_).trans rfl⟩
    · exact sm_le IsSm.sm (by decide)
    · (repeat' (first | exact AllT.nil | refine AllT.cons ?_ ?_)); all_goals first | (with_reducible rfl) | (with_reducible assumption) | exact Tru.tru | (rw [hP]; rfl) | exact sm_max IsSm.sm IsSm.sm (by decide)
theorem one_17 {n : Int} (hP : w64 ((and64 n (255 : Int)).tmod (33 : Int) + (1 : Int)) = 17) : ∃ s, OnRes n s := by
  cases ht : (and64 (n.fdiv ((2 : Int) ^ min 24 IntKind.i64.bits)) (31 : Int) == (7 : Int))
  · have ht' : (!(and64 (n.fdiv ((2 : Int) ^ min 24 IntKind.i64.bits)) (31 : Int) == (7 : Int))) = true := by rw [ht]; rfl
    refine ⟨_, ?_, (Tr.go_eval on_df ?_).trans rfl⟩
    · exact sm_le IsSm.sm (by decide)
    · (repeat' (first | exact AllT.nil | refine AllT.cons ?_ ?_)); all_goals first | (with_reducible rfl) | (with_reducible assumption) | exact Tru.tru | (rw [hP]; rfl) | exact sm_max IsSm.sm IsSm.sm (by decide)
  · refine ⟨_, ?_, (Tr.go_eval on_dt ?_).trans rfl⟩
    · exact sm_le IsSm.sm (by decide)
    · (repeat' (first | exact AllT.nil | refine AllT.cons ?_ ?_)); all_goals first | (with_reducible rfl) | (with_reducible assumption) | exact Tru.tru | (rw [hP]; rfl) | exact sm_max IsSm.sm IsSm.sm (by decide)
theorem one_18 {n : Int} (hP : w64 ((and64 n (255 : Int)).tmod (33 : Int) + (1 : Int)) = 18) : ∃ s, OnRes n s := by
  cases ht : (and64 (n.fdiv ((2 : Int) ^ min 24 IntKind.i64.bits)) (31 : Int) == (7 : Int))
  · have ht' : (!(and64 (n.fdiv ((2 : Int) ^ min 24 IntKind.i64.bits)) (31 : Int) == (7 : Int))) = true := by rw [ht]; rfl
    refine ⟨_, ?_, (Tr.go_eval on_df ?_).trans rfl⟩
    · exact sm_le IsSm.sm (by decide)
    · (repeat' (first | exact AllT.nil | refine AllT.cons ?_ ?_)); all_goals first | (with_reducible rfl) | (with_reducible assumption) | exact Tru.tru | (rw [hP]; rfl) | exact sm_max IsSm.sm IsSm.sm (by decide)
  · refine ⟨_, ?_, (Tr.go_eval on_dt ?_).trans rfl⟩
    · exact sm_le IsSm.sm (by decide)
    · (repeat' (first | exact AllT.nil | refine AllT.cons ?_ ?_)); all_goals first | (with_reducible rfl) | (with_reducible assumption) | exact Tru.tru | (rw [hP]; rfl) | exact sm_max IsSm.sm IsSm.sm (by decide)
theorem one_19 {n : Int} (hP : w64 ((and64 n (255 : Int)).tmod (33 : Int) + (1 : Int)) = 19) : ∃ s, OnRes n s := by
  cases ht : (and64 (n.fdiv ((2 : Int) ^ min 24 IntKind.i64.bits)) (31 : Int) == (7 : Int))
  · have ht' : (!(and64 (n.fdiv ((2 : Int) ^ min 24 IntKind.i64.bits)) (31 : Int) == (7 : Int))) = true := by rw [ht]; rfl
    refine ⟨_, ?_, (Tr.go_eval on_df ?_).trans rfl⟩
    · exact sm_le IsSm.sm (by decide)
    · (repeat' (first | exact AllT.nil | refine AllT.cons ?_ ?_)); all_goals first | (with_reducible rfl) | (with_reducible assumption) | exact Tru.tru | (rw [hP]; rfl) | exact sm_max IsSm.sm IsSm.sm (by decide)
  · refine ⟨_, ?_, (Tr.go_eval on_dt ?_).trans rfl⟩
    · exact sm_le IsSm.sm (by decide)
    · (repeat' (first | exact AllT.nil | refine AllT.cons ?_ ?_)); all_goals first | (with_reducible rfl) | (with_reducible assumption) | exact Tru.tru | (rw [hP]; rfl) | exact sm_max IsSm.sm IsSm.sm (by decide)
theorem one_20 {n : Int} (hP : w64 ((and64 n (255 : Int)).tmod (33 : Int) + (1 : Int)) = 20) : ∃ s, OnRes n s := by
  cases ht : (and64 (n.fdiv ((2 : Int) ^ min 24 IntKind.i64.bits)) (31 : Int) == (7 : Int))
  · have ht' : (!(and64 (n.fdiv ((2 : Int) ^ min 24 IntKind.i64.bits)) (31 : Int) == (7 : Int))) = true := by rw [ht]; rfl
    refine ⟨_, ?_, (Tr.go_eval on_f20f ?_).trans rfl⟩
    · exact sm_le IsSm.sm (by decide)
    · (repeat' (first | exact AllT.nil | refine AllT.cons ?_ ?_)); all_goals first | (with_reducible rfl) | (with_reducible assumption) | exact Tru.tru | (rw [hP]; rfl) | exact sm_max IsSm.sm IsSm.sm (by decide)
  · refine ⟨_, ?_, (Tr.go_eval on_f20t ?_).trans rfl⟩
    · exact sm_le IsSm.sm (by decide)
    · (repeat' (first | exact AllT.nil | refine AllT.cons ?_ ?_)); all_goals first | (with_reducible rfl) | (with_reducible assumption) | exact Tru.tru | (rw [hP]; rfl) | exact sm_max IsSm.sm IsSm.sm (by decide)
theorem one_21 {n : Int} (hP : w64 ((and64 n (255 : Int)).tmod (33 : Int) + (1 : Int)) = 21) : ∃ s, OnRes n s := by
  cases ht : (and64 (n.fdiv ((2 : Int) ^ min 24 IntKind.i64.bits)) (31 : Int) == (7 : Int))
  · have ht' : (!(and64 (n.fdiv ((2 : Int) ^ min 24 IntKind.i64.bits)) (31 : Int) == (7 : Int))) = true := by rw [ht]; rfl
    refine ⟨_, ?_, (Tr.go_eval on_f21f ?_).trans rfl⟩
    · exact sm_le IsSm.sm (by decide)
    · (repeat' (first | exact AllT.nil | refine AllT.cons ?_ ?_)); all_goals first | (with_reducible rfl) | (with_reducible assumption) | exact Tru.tru | (rw [hP]; rfl) | exact sm_max IsSm.sm IsSm.sm (by decide)
  · refine ⟨_, ?_, (Tr.go_eval on_f21t ?_).trans rfl⟩
    · exact sm_le IsSm.sm (by decide)
    · (repeat' (first | exact AllT.nil | refine AllT.cons ?_ ?_)); all_goals first | (with_reducible rfl) | (with_reducible assumption) | exact Tru.tru | (rw [hP]; rfl) | exact sm_max IsSm.sm IsSm.sm (by decide)
theorem one_22 {n : Int} (hP : w64 ((and64 n (255 : Int)).tmod (33 : Int) + (1 : Int)) = 22) : ∃ s, OnRes n s := by
  cases ht : (and64 (n.fdiv ((2 : Int) ^ min 24 IntKind.i64.bits)) (31 : Int) == (7 : Int))
  · have ht' : (!(and64 (n.fdiv ((2 : Int) ^ min 24 IntKind.i64.bits)) (31 : Int) == (7 : Int))) = true := by rw [ht]; rfl
    refine ⟨_, ?_, (Tr.go_eval on_gf ?_).trans rfl⟩
    · exact sm_le IsSm.sm (by decide)
    · (repeat' (first | exact AllT.nil | refine AllT.cons ?_ ?_)); all_goals first | (with_reducible rfl) | (with_reducible assumption) | exact Tru.tru | (rw [hP]; rfl) | exact sm_max IsSm.sm IsSm.sm (by decide)
  · refine ⟨_, ?_, (Tr.go_eval on_gt ?_).trans rfl⟩
    · exact sm_le IsSm.sm (by decide)
    · (repeat' (first | exact AllT.nil | refine AllT.cons ?_ ?_)); all_goals first | (with_reducible rfl) | (with_reducible assumption) | exact Tru.tru | (rw [hP]; rfl) | exact sm_max IsSm.sm IsSm.sm (by decide)
theorem one_23 {n : Int} (hP : w64 ((and64 n (255 : Int)).tmod (33 : Int) + (1 : Int)) = 23) : ∃ s, OnRes n s := by
  cases ht : (and64 (n.fdiv ((2 : Int) ^ min 24 IntKind.i64.bits)) (31 : Int) == (7 : Int))
  · have ht' : (!(and64 (n.fdiv ((2 : Int) ^ min 24 IntKind.i64.bits)) (31 : Int) == (7 : Int))) = true := by rw [ht]; rfl
    refine ⟨_, ?_, (Tr.go_eval on_f23f ?_).trans rfl⟩
    · exact sm_le IsSm.sm (by decide)
    · (repeat' (first | exact AllT.nil | refine AllT.cons ?_ ?_)); all_goals first | (with_reducible rfl) | (with_reducible assumption) | exact Tru.tru | (rw [hP]; rfl) | exact sm_max IsSm.sm IsSm.sm (by decide)
  · refine ⟨_, ?_, (Tr.go_eval on_f23t ?_).trans rfl⟩
    · exact sm_le IsSm.sm (by decide)
    · (repeat' (first | exact AllT.nil | refine AllT.cons ?_ ?_)); all_goals first | (with_reducible rfl) | (with_reducible assumption) | exact Tru.tru | (rw [hP]; rfl) | exact sm_max IsSm.sm IsSm.sm (by decide)
theorem one_24 {n : Int} (hP : w64 ((and64 n (255 : Int)).tmod (33 : Int) + (1 : Int)) = 24) : ∃ s, OnRes n s := by
  cases ht : (and64 (n.fdiv ((2 : Int) ^ min 24 IntKind.i64.bits)) (31 : Int) == (7 : Int))
  · have ht' : (!(and64 (n.fdiv ((2 : Int) ^ min 24 IntKind.i64.bits)) (31 : Int) == (7 : Int))) = true := by rw [ht]; rfl
    refine ⟨_, ?_, (Tr.go_eval on_f24f ?_).trans rfl⟩
    · exact sm_le IsSm.sm (by decide)
    · (repeat' (first | exact AllT.nil | refine AllT.cons ?_ ?_)); all_goals first | (with_reducible rfl) | (with_reducible assumption) | exact Tru.tru | (rw [hP]; rfl) | exact sm_max IsSm.sm IsSm.sm (by decide)
  · refine ⟨_, ?_, (Tr.go_eval on_f24t ?_).trans rfl⟩
    · exact sm_le IsSm.sm (by decide)
    · (repeat' (first | exact AllT.nil | refine AllT.cons ?_ ?_)); all_goals first | (with_reducible rfl) | (with_reducible assumption) | exact Tru.tru | (rw [hP]; rfl) | exact sm_max IsSm.sm IsSm.sm (by decide)
theorem one_25 {n : Int} (hP : w64 ((and64 n (255 : Int)).tmod (33 : Int) + (1 : Int)) = 25) : ∃ s, OnRes n s := by
  cases ht : (and64 (n.fdiv ((2 : Int) ^ min 24 IntKind.i64.bits)) (31 : Int) == (7 : Int))
  · have ht' : (!(and64 (n.fdiv ((2 : Int) ^ min 24 IntKind.i64.bits)) (31 : Int) == (7 : Int))) = true := by rw [ht]; rfl
    refine ⟨_, ?_, (Tr.go_eval on_f25f ?_).trans rfl⟩
    · exact sm_le IsSm.sm (by decide)
    · (repeat' (first | exact AllT.nil | refine AllT.cons ?_ ?_)); all_goals first | (with_reducible rfl) | (with_reducible assumption) | exact Tru.tru | (rw [hP]; rfl) | exact sm_max IsSm.sm IsSm.sm (by decide)
  · refine ⟨_, ?_, (Tr.go_eval on_f25t ?_).trans rfl⟩
    · exact sm_le IsSm.sm (by decide)
    · (repeat' (first | exact AllT.nil | refine AllT.cons ?_ ?_)); all_goals first | (with_reducible rfl) | (with_reducible assumption) | exact Tru.tru | (rw [hP]; rfl) | exact sm_max IsSm.sm IsSm.sm (by decide)
theorem one_26 {n : Int} (hP : w64 ((and64 n (255 : Int)).tmod (33 : Int) + (1 : Int)) = 26) : ∃ s, OnRes n s := by
  cases ht : (and64 (n.fdiv ((2 : Int) ^ min 24 IntKind.i64.bits)) (31 : Int) == (7 : Int))
  · have ht' : (!(and64 (n.fdiv ((2 : Int) ^ min 24 IntKind.i64.bits)) (31 : Int) == (7 : Int))) = true := by rw [ht]; rfl
    refine ⟨_, ?_, (Tr.go_eval on_f26f ?_).trans rfl⟩
    · exact sm_le IsSm.sm (by decide)
    · (repeat' (first | exact AllT.nil | refine AllT.cons ?_ ?_)); all_goals first | (with_reducible rfl) | (with_reducible assumption) | exact Tru.tru | (rw [hP]; rfl) | exact sm_max IsSm.sm IsSm.sm (by decide)
  · refine ⟨_, ?_, (Tr.go_eval on_f26t ?_).trans rfl⟩
    · exact sm_le IsSm.sm (by decide)
    · (repeat' (first | exact AllT.nil | refine AllT.cons ?_ ?_)); all_goals first | (with_reducible rfl) | (with_reducible assumption) | exact Tru.tru | (rw [hP]; rfl) | exact sm_max IsSm.sm IsSm.sm (by decide)
theorem one_27 {n : Int} (hP : w64 ((and64 n (255 : Int)).tmod (33 : Int) + (1 : Int)) = 27) : ∃ s, OnRes n s := by
  cases ht : (and64 (n.fdiv ((2 : Int) ^ min 24 IntKind.i64.bits)) (31 : Int) == (7 : Int))
  · have ht' : (!(and64 (n.fdiv ((2 : Int) ^ min 24 IntKind.i64.bits)) (31 : Int) == (7 : Int))) = true := by rw [ht]; rfl
    refine ⟨_, ?_, (Tr.go_eval on_f27f ?_).trans rfl⟩
    · exact sm_le IsSm.sm (by decide)
    · (repeat' (first | exact AllT.nil | refine AllT.cons ?_ ?_)); all_goals first | (with_reducible rfl) | (with_reducible assumption) | exact Tru.tru | (rw [hP]; rfl) | exact sm_max IsSm.sm IsSm.sm (by decide)
  · refine ⟨_, ?_, (Tr.go_eval on_f27t ?_).trans rfl⟩
    · exact sm_le IsSm.sm (by decide)
    · (repeat' (first | exact AllT.nil | refine AllT.cons ?_ ?_)); all_goals first | (with_reducible rfl) | (with_reducible assumption) | exact Tru.tru | (rw [hP]; rfl) | exact sm_max IsSm.sm IsSm.sm (by decide)
theorem one_28 {n : Int} (hP : w64 ((and64 n (255 : Int)).tmod (33 : Int) + (1 : Int)) = 28) : ∃ s, OnRes n s := by
  cases ht : (and64 (n.fdiv ((2 : Int) ^ min 24 IntKind.i64.bits)) (31 : Int) == (7 : Int))
  · have ht' : (!(and64 (n.fdiv ((2 : Int) ^ min 24 IntKind.i64.bits)) (31 : Int) == (7 : Int))) = true := by rw [ht]; rfl
    refine ⟨_, ?_, (Tr.go_eval on_f28f ?_).trans rfl⟩
    · exact sm_le IsSm.sm (by decide)
    · (repeat' (first | exact AllT.nil | refine AllT.cons ?_ ?_)); all_goals first | (with_reducible rfl) | (with_reducible assumption) | exact Tru.tru | (rw [hP]; rfl) | exact sm_max IsSm.sm IsSm.sm (by decide)
  · refine ⟨_, ?_, (Tr.go_eval on_f28t ?_).trans rfl⟩
    · exact sm_le IsSm.sm (by decide)
    · (repeat' (first | exact AllT.nil | refine AllT.cons ?_ ?_)); all_goals first | (with_reducible rfl) | (with_reducible assumption) | exact Tru.tru | (rw [hP]; rfl) | exact sm_max IsSm.sm IsSm.sm (by decide)
theorem one_29 {n : Int} (hP : w64 ((and64 n (255 : Int)).tmod (33 : Int) + (1 : Int)) = 29) : ∃ s, OnRes n s := by
  cases ht : (and64 (n.fdiv ((2 : Int) ^ min 24 IntKind.i64.bits)) (31 : Int) == (7 : Int))
  · have ht' : (!(and64 (n.fdiv ((2 : Int) ^ min 24 IntKind.i64.bits)) (31 : Int) == (7 : Int))) = true := by rw [ht]; rfl
    refine ⟨_, ?_, (Tr.go_eval on_f29f ?_).trans rfl⟩
    · exact sm_le IsSm.sm (by decide)
    · (repeat' (first | exact AllT.nil | refine AllT.cons ?_ ?_)); all_goals first | (with_reducible rfl) | (with_reducible assumption) | exact Tru.tru | (rw [hP]; rfl) | exact sm_max IsSm.sm IsSm.sm (by decide)
  · refine ⟨_, ?_, (Tr.go_eval on_f29t ?_).trans rfl⟩
    · exact sm_le IsSm.sm (by decide)
    · (repeat' (first | exact AllT.nil | refine AllT.cons ?_ ?_)); all_goals first | (with_reducible rfl) | (with_reducible assumption) | exact Tru.tru | (rw [hP]; rfl) | exact sm_max IsSm.sm IsSm.sm (by decide)
theorem one_30 {n : Int} (hP : w64 ((and64 n (255 : Int)).tmod (33 : Int) + (1 : Int)) = 30) : ∃ s, OnRes n s := by
  cases ht : (and64 (n.fdiv ((2 : Int) ^ min 24 IntKind.i64.bits)) (31 : Int) == (7 : Int))
  · have ht' : (!(and64 (n.fdiv ((2 : Int) ^ min 24 IntKind.i64.bits)) (31 : Int) == (7 : Int))) = true := by rw [ht]; rfl
    refine ⟨_, ?_, (Tr.go_eval on_f30f ?_).trans rfl⟩
    · exact sm_le IsSm.sm (by decide)
    · (repeat' (first | exact AllT.nil | refine AllT.cons ?_ ?_)); all_goals first | (with_reducible rfl) | (with_reducible assumption) | exact Tru.tru | (rw [hP]; rfl) | exact sm_max IsSm.sm IsSm.sm (by decide)
  · refine ⟨_, ?_, (Tr.go_eval on_f30t ?_).trans rfl⟩
    · exact sm_le IsSm.sm (by decide)
    · (repeat' (first | exact AllT.nil | refine AllT.cons ?_ ?_)); all_goals first | (with_reducible rfl) | (with_reducible assumption) | exact Tru.tru | (rw [hP]; rfl) | exact sm_max IsSm.sm IsSm.sm (by decide)
theorem one_31 {n : Int} (hP : w64 ((and64 n (255 : Int)).tmod (33 : Int) + (1 : Int)) = 31) : ∃ s, OnRes n s := by
  cases ht : (and64 (n.fdiv ((2 : Int) ^ min 24 IntKind.i64.bits)) (31 : Int) == (7 : Int))
  · have ht' : (!(and64 (n.fdiv ((2 : Int) ^ min 24 IntKind.i64.bits)) (31 : Int) == (7 : Int))) = true := by rw [ht]; rfl
    refine ⟨_, ?_, (Tr.go_eval on_ef ?_).trans rfl⟩
    · exact sm_le IsSm.sm (by decide)
    · (repeat' (first | exact AllT.nil | refine AllT.cons ?_ ?_)); all_goals first | (with_reducible rfl) | (with_reducible assumption) | exact Tru.tru | (rw [hP]; rfl) | exact sm_max IsSm.sm IsSm.sm (by decide)
  · refine ⟨_, ?_, (Tr.go_eval on_et ?_).trans rfl⟩
    · exact sm_le IsSm.sm (by decide)
    · (repeat' (first | exact AllT.nil | refine AllT.cons ?_ ?_)); all_goals first | (with_reducible rfl) | (with_reducible assumption) | exact Tru.tru | (rw [hP]; rfl) | exact sm_max IsSm.sm IsSm.sm (by decide)
theorem one_32 {n : Int} (hP : w64 ((and64 n (255 : Int)).tmod (33 : Int) + (1 : Int)) = 32) : ∃ s, OnRes n s := by
  cases ht : (and64 (n.fdiv ((2 : Int) ^ min 24 IntKind.i64.bits)) (31 : Int) == (7 : Int))
  · have ht' : (!(and64 (n.fdiv ((2 : Int) ^ min 24 IntKind.i64.bits)) (31 : Int) == (7 : Int))) = true := by rw [ht]; rfl
    refine ⟨_, ?_, (Tr.go_eval on_f32f ?_).trans rfl⟩
    · exact sm_le IsSm.sm (by decide)
    · (repeat' (first | exact AllT.nil | refine AllT.cons ?_ ?_)); all_goals first | (with_reducible rfl) | (with_reducible assumption) | exact Tru.tru | (rw [hP]; rfl) | exact sm_max IsSm.sm IsSm.sm (by decide)
  · refine ⟨_, ?_, (Tr.go_eval on_f32t ?_).trans rfl⟩
    · exact sm_le IsSm.sm (by decide)
    · (repeat' (first | exact AllT.nil | refine AllT.cons ?_ ?_)); all_goals first | (with_reducible rfl) | (with_reducible assumption) | exact Tru.tru | (rw [hP]; rfl) | exact sm_max IsSm.sm IsSm.sm (by decide)
theorem one_33 {n : Int} (hP : w64 ((and64 n (255 : Int)).tmod (33 : Int) + (1 : Int)) = 33) : ∃ s, OnRes n s := by
  cases ht : (and64 (n.fdiv ((2 : Int) ^ min 24 IntKind.i64.bits)) (31 : Int) == (7 : Int))
  · have ht' : (!(and64 (n.fdiv ((2 : Int) ^ min 24 IntKind.i64.bits)) (31 : Int) == (7 : Int))) = true := by rw [ht]; rfl
    refine ⟨_, ?_, (Tr.go_eval on_hf ?_).trans rfl⟩
    · exact sm_le IsSm.sm (by decide)
    · (repeat' (first | exact AllT.nil | refine AllT.cons ?_ ?_)); all_goals first | (with_reducible rfl) | (with_reducible assumption) | exact Tru.tru | (rw [hP]; rfl) | exact sm_max IsSm.sm IsSm.sm (by decide)
  · refine ⟨_, ?_, (Tr.go_eval on_ht ?_).trans rfl⟩
    · exact sm_le IsSm.sm (by decide)
    · (repeat' (first | exact AllT.nil | refine AllT.cons ?_ ?_)); all_goals first | (with_reducible rfl) | (with_reducible assumption) | exact Tru.tru | (rw [hP]; rfl) | exact sm_max IsSm.sm IsSm.sm (by decide)
theorem one_ex (n : Int) : ∃ s, OnRes n s := by
  have h := mP n
  have : w64 ((and64 n 255).tmod 33 + 1) = 1 ∨ w64 ((and64 n 255).tmod 33 + 1) = 2 ∨ w64 ((and64 n 255).tmod 33 + 1) = 3 ∨ w64 ((and64 n 255).tmod 33 + 1) = 4 ∨ w64 ((and64 n 255).tmod 33 + 1) = 5 ∨ w64 ((and64 n 255).tmod 33 + 1) = 6 ∨ w64 ((and64 n 255).tmod 33 + 1) = 7 ∨ w64 ((and64 n 255).tmod 33 + 1) = 8 ∨ w64 ((and64 n 255).tmod 33 + 1) = 9 ∨ w64 ((and64 n 255).tmod 33 + 1) = 10 ∨ w64 ((and64 n 255).tmod 33 + 1) = 11 ∨ w64 ((and64 n 255).tmod 33 + 1) = 12 ∨ w64 ((and64 n 255).tmod 33 + 1) = 13 ∨ w64 ((and64 n 255).tmod 33 + 1) = 14 ∨ w64 ((and64 n 255).tmod 33 + 1) = 15 ∨ w64 ((and64 n 255).tmod 33 + 1) = 16 ∨ w64 ((and64 n 255).tmod 33 + 1) = 17 ∨ w64 ((and64 n 255).tmod 33 + 1) = 18 ∨ w64 ((and64 n 255).tmod 33 + 1) = 19 ∨ w64 ((and64 n 255).tmod 33 + 1) = 20 ∨ w64 ((and64 n 255).tmod 33 + 1) = 21 ∨ w64 ((and64 n 255).tmod 33 + 1) = 22 ∨ w64 ((and64 n 255).tmod 33 + 1) = 23 ∨ w64 ((and64 n 255).tmod 33 + 1) = 24 ∨ w64 ((and64 n 255).tmod 33 + 1) = 25 ∨ w64 ((and64 n 255).tmod 33 + 1) = 26 ∨ w64 ((and64 n 255).tmod 33 + 1) = 27 ∨ w64 ((and64 n 255).tmod 33 + 1) = 28 ∨ w64 ((and64 n 255).tmod 33 + 1) = 29 ∨ w64 ((and64 n 255).tmod 33 + 1) = 30 ∨ w64 ((and64 n 255).tmod 33 + 1) = 31 ∨ w64 ((and64 n 255).tmod 33 + 1) = 32 ∨ w64 ((and64 n 255).tmod 33 + 1) = 33 := by omega
  rcases this with h | h | h | h | h | h | h | h | h | h | h | h | h | h | h | h | h | h | h | h | h | h | h | h | h | h | h | h | h | h | h | h | h
  · exact one_1 h
  · exact one_2 h
  · exact one_3 h
  · exact one_4 h
  · exact one_5 h
  · exact one_6 h
  · exact one_7 h
  · exact one_8 h
  · exact one_9 h
  · exact one_10 h
  · exact one_11 h
  · exact one_12 h
  · exact one_13 h
  · exact one_14 h
  · exact one_15 h
  · exact one_16 h
  · exact one_17 h
  · exact one_18 h
  · exact one_19 h
  · exact one_20 h
  · exact one_21 h
  · exact one_22 h
  · exact one_23 h
  · exact one_24 h
  · exact one_25 h
  · exact one_26 h
  · exact one_27 h
  · exact one_28 h
  · exact one_29 h
  · exact one_30 h
  · exact one_31 h
  · exact one_32 h
  · exact one_33 h
open Classical in
noncomputable def oneR (n : Int) : ByteArray := Classical.choose (one_ex n)
theorem oneR_ok (n : Int) : OnRes n (oneR n) := Classical.choose_spec (one_ex n)
noncomputable def oneF : Spec := fun args h => match args, h with
  | [.c (.v (.int .i64 n))], [] => .ret (StrA (oneR n), [])
  | _, _ => .fail
theorem oneF_ok : SpecOk Try.prog 167 oneF := by
  refine knownS KON_ok Try.func167 fun args h r he => ?_
  unfold oneF at he
  split at he
  · rename_i n
    cases he
    exact ⟨_, [], 60, nol, noLoopsS, (oneR_ok n).2⟩
  · cases he
end
section
open Go Go.RowKit
noncomputable def KTX : Known := [(167, oneF), (168, paF)]
theorem KTX_ok : KnownOk KTX := consK oneF_ok (by kernel_rfl) (consK paF_ok (by kernel_rfl) nilK)
abbrev txK : List (Nat × Option TypeId) := [(0, some 2), (1, none), (5, none), (6, none)]
noncomputable def txG : Ctx2 := GT KTX (fun k => if k = 3 then txK else []) 0 []
theorem txG_ok : XOk txG := GT_ok KTX_ok _ _ _
def rowT (own : Bool) (a b c : Int) : Option ABlk := some ⟨2, own, .lst 1 [[i64 a], [i64 b], [i64 c]] [i64 0]⟩
def txS (own : Bool) (a b c : Int) (k : Nat) (s : ByteArray) (i : Int) : St := ⟨slots 45 [(0, .c (.sl 0 0 k)), (1, Bo true), (5, StrA s), (6, I64 i)], [rowT own a b c]⟩
theorem tx_skip {own : Bool} {a b c : Int} {k : Nat} {s : ByteArray} {i : Int} : (rT txG nol 1 54 (bodyOf Try.f159 0) txK txK (txS own a b c k s i)).go [true, true, true, true, true, true, true, false] = some ([decide (i < ((k : Nat) : Int)), true, true, decide (i < (20 : Int)), decide ((0 : Int) ≤ i), decide (i < ((k : Nat) : Int)), decide (0 + i.toNat < 3), !(paV (oneR ([a, b, c].getD (0 + i.toNat) (0 : Int)))).e == (0 : Int), true, true, true, (paV (oneR ([a, b, c].getD (0 + i.toNat) (0 : Int)))).e != (0 : Int)], Ex.normal, { sl := slots 45 [(0, .c (.sl 0 0 k)), (1, Bo true), (5, .c (.v (.string s))), (6, I64 (w64 (i + (1 : Int))))], h := [some ⟨2, own, .lst 1 [[i64 a], [i64 b], [i64 c]] [i64 0]⟩] }) := by kernel_rfl
theorem tx_first {own : Bool} {a b c : Int} {k : Nat} {s : ByteArray} {i : Int} : (rT txG nol 1 54 (bodyOf Try.f159 0) txK txK (txS own a b c k s i)).go [true, true, true, true, true, true, true, true, true, true, true, false, false] = some ([decide (i < ((k : Nat) : Int)), true, true, decide (i < (20 : Int)), decide ((0 : Int) ≤ i), decide (i < ((k : Nat) : Int)), decide (0 + i.toNat < 3), (paV (oneR ([a, b, c].getD (0 + i.toNat) (0 : Int)))).e == (0 : Int), true, true, true, true, !!s.toList == (⟨#[]⟩ : ByteArray).toList, decide (((s.size + (oneR ([a, b, c].getD (0 + i.toNat) (0 : Int))).size : Nat) : Int) ≤ IntKind.i64.max)], Ex.normal, { sl := slots 45 [(0, .c (.sl 0 0 k)), (1, Bo true), (5, .c (.v (.string (s ++ oneR ([a, b, c].getD (0 + i.toNat) (0 : Int)))))), (6, I64 (w64 (i + (1 : Int))))], h := [some ⟨2, own, .lst 1 [[i64 a], [i64 b], [i64 c]] [i64 0]⟩] }) := by kernel_rfl
theorem tx_app {own : Bool} {a b c : Int} {k : Nat} {s : ByteArray} {i : Int} : (rT txG nol 1 54 (bodyOf Try.f159 0) txK txK (txS own a b c k s i)).go [true, true, true, true, true, true, true, true, true, true, true, false] = some ([decide (i < ((k : Nat) : Int)), true, true, decide (i < (20 : Int)), decide ((0 : Int) ≤ i), decide (i < ((k : Nat) : Int)), decide (0 + i.toNat < 3), (paV (oneR ([a, b, c].getD (0 + i.toNat) (0 : Int)))).e == (0 : Int), true, true, true, true, !s.toList == (⟨#[]⟩ : ByteArray).toList, decide (((s.size + (⟨#[59]⟩ : ByteArray).size : Nat) : Int) ≤ IntKind.i64.max), decide ((((s ++ (⟨#[59]⟩ : ByteArray)).size + (oneR ([a, b, c].getD (0 + i.toNat) (0 : Int))).size : Nat) : Int) ≤ IntKind.i64.max)], Ex.normal, { sl := slots 45 [(0, .c (.sl 0 0 k)), (1, Bo true), (5, .c (.v (.string (s ++ (⟨#[59]⟩ : ByteArray) ++ oneR ([a, b, c].getD (0 + i.toNat) (0 : Int)))))), (6, I64 (w64 (i + (1 : Int))))], h := [some ⟨2, own, .lst 1 [[i64 a], [i64 b], [i64 c]] [i64 0]⟩] }) := by kernel_rfl
theorem tx_e {own : Bool} {a b c : Int} {k : Nat} {s : ByteArray} {i : Int} : (rT txG nol 1 54 (bodyOf Try.f159 0) txK txK (txS own a b c k s i)).go [false, false, false, false] = some ([!decide (i < ((k : Nat) : Int)), true, true, true], Ex.exit 0, { sl := slots 45 [(0, .c (.sl 0 0 k)), (1, Bo true), (5, .c (.v (.string s))), (6, I64 i)], h := [some ⟨2, own, .lst 1 [[i64 a], [i64 b], [i64 c]] [i64 0]⟩] }) := by kernel_rfl
theorem tx_w {own : Bool} {a b c : Int} {k : Nat} {z : Int} {s : ByteArray} : (lfun txG (tell (bodyOf Try.f159 0) (txS own a b c k ⟨#[]⟩ 0) (.exit 0, txS own a b c k s z)) 60 Try.f159 [.c (.sl 0 0 k), Bo true] [rowT own a b c]).go [] = some ([yes (wasS (bodyOf Try.f159 0) (txS own a b c k ⟨#[]⟩ 0))], .c (.v (.string s)), [some ⟨2, own, .lst 1 [[i64 a], [i64 b], [i64 c]] [i64 0]⟩]) := by kernel_rfl
theorem bne_toList (s : ByteArray) : ((!(s.toList == (⟨#[]⟩ : ByteArray).toList)) = true) ∨ ((!(!(s.toList == (⟨#[]⟩ : ByteArray).toList))) = true) := by
  cases (s.toList == (⟨#[]⟩ : ByteArray).toList)
  · exact .inl rfl
  · exact .inr rfl
theorem tx_loop {a b c : Int} {k : Nat} (hk : k ≤ 3) : ∀ d (i : Nat) (s : ByteArray), i + d = k → Sm (101 * i) s → ∃ s' : ByteArray, Sm 303 s' ∧ ∀ own, LoopR txG 1 (bodyOf Try.f159 0) (txS own a b c k s (i : Nat)) (.exit 0, txS own a b c k s' (k : Nat))
  | 0, i, s, h, hs => by
    have : i = k := by omega
    subst this
    exact ⟨s, sm_le hs (by omega), fun own => LoopR.stop (by simp) (rT_sem txG_ok noLoopsS ((rT_go (tx_e (i := ((i : Nat) : Int))) ⟨by rw [decide_eq_false (by omega)]; rfl, rfl, rfl, rfl, trivial⟩).trans rfl))⟩
  | d + 1, i, s, h, hs => by
    have e3 := succ64 (j := i) (by omega)
    have ho : Sm 100 (oneR ([a, b, c].getD (0 + i) (0 : Int))) := (oneR_ok _).1
    have s1 : Sm 1 (⟨#[59]⟩ : ByteArray) := by unfold Sm; decide
    rcases Bool.eq_false_or_eq_true ((paV (oneR ([a, b, c].getD (0 + i) (0 : Int)))).e == (0 : Int)) with he | he
    · rcases bne_toList s with hb | hb
      · obtain ⟨s', h1, h2⟩ := tx_loop hk d (i + 1) (s ++ (⟨#[59]⟩ : ByteArray) ++ oneR ([a, b, c].getD (0 + i) (0 : Int))) (by omega) (sm_le (sm_app (sm_app hs s1) ho) (by omega))
        refine ⟨s', h1, fun own => LoopR.next (rT_sem txG_ok noLoopsS ((rT_go (tx_app (i := ((i : Nat) : Int))) ?_).trans ?_)) (h2 own)⟩
        · simp only [Int.toNat_natCast]
          repeat' (first | exact AllT.nil | refine AllT.cons ?_ ?_)
          all_goals first | (with_reducible rfl) | (with_reducible assumption) | exact decide_eq_true (by omega) | exact sm_max hs s1 (by omega) | exact sm_max (sm_app hs s1) ho (by omega)
        · simp only [Int.toNat_natCast, e3]; rfl
      · obtain ⟨s', h1, h2⟩ := tx_loop hk d (i + 1) (s ++ oneR ([a, b, c].getD (0 + i) (0 : Int))) (by omega) (sm_le (sm_app hs ho) (by omega))
        refine ⟨s', h1, fun own => LoopR.next (rT_sem txG_ok noLoopsS ((rT_go (tx_first (i := ((i : Nat) : Int))) ?_).trans ?_)) (h2 own)⟩
        · simp only [Int.toNat_natCast]
          repeat' (first | exact AllT.nil | refine AllT.cons ?_ ?_)
          all_goals first | (with_reducible rfl) | (with_reducible assumption) | exact decide_eq_true (by omega) | exact sm_max hs ho (by omega)
        · simp only [Int.toNat_natCast, e3]; rfl
    · have he1 : (!((paV (oneR ([a, b, c].getD (0 + i) (0 : Int)))).e == (0 : Int))) = true := by rw [he]; rfl
      have he2 : ((paV (oneR ([a, b, c].getD (0 + i) (0 : Int)))).e != (0 : Int)) = true := he1
      obtain ⟨s', h1, h2⟩ := tx_loop hk d (i + 1) s (by omega) (sm_le hs (by omega))
      refine ⟨s', h1, fun own => LoopR.next (rT_sem txG_ok noLoopsS ((rT_go (tx_skip (i := ((i : Nat) : Int))) ?_).trans ?_)) (h2 own)⟩
      · simp only [Int.toNat_natCast]
        repeat' (first | exact AllT.nil | refine AllT.cons ?_ ?_)
        all_goals first | (with_reducible rfl) | (with_reducible assumption) | exact decide_eq_true (by omega)
      · simp only [Int.toNat_natCast, e3]; rfl
theorem tx_ex (a b c : Int) {k : Nat} (hk : k ≤ 3) : ∃ s : ByteArray, Sm 303 s ∧ ∀ own, ∃ ℓ, LoopsSem txG 1 ℓ ∧ (lfun txG ℓ 60 Try.f159 [.c (.sl 0 0 k), Bo true] [rowT own a b c]).eval = some (StrA s, [rowT own a b c]) := by
  obtain ⟨s, h1, h2⟩ := tx_loop (a := a) (b := b) (c := c) hk k 0 ⟨#[]⟩ (by omega) (by unfold Sm; decide)
  exact ⟨s, h1, fun own => ⟨_, tell_ok (h2 own).sem, (Tr.go_eval (tx_w (z := ((k : Nat) : Int))) ⟨yes_of ⟨rfl, rfl⟩, trivial⟩).trans rfl⟩⟩
open Classical in
noncomputable def txR (a b c : Int) (k : Nat) : ByteArray := if h : k ≤ 3 then Classical.choose (tx_ex a b c h) else ⟨#[]⟩
theorem txR_ok (a b c : Int) {k : Nat} (hk : k ≤ 3) : Sm 303 (txR a b c k) ∧ ∀ own, ∃ ℓ, LoopsSem txG 1 ℓ ∧ (lfun txG ℓ 60 Try.f159 [.c (.sl 0 0 k), Bo true] [rowT own a b c]).eval = some (StrA (txR a b c k), [rowT own a b c]) := by
  have h := Classical.choose_spec (tx_ex a b c hk)
  unfold txR
  rw [dif_pos hk]
  exact h
noncomputable def txF : Spec := fun args h => match args, h with
  | [.c (.sl 0 0 k), .c (.v (.bool true))], [some ⟨2, own, .lst 1 [[.v (.int .i64 a)], [.v (.int .i64 b)], [.v (.int .i64 c)]] [.v (.int .i64 z)]⟩] => .need (yes (k ≤ 3 ∧ z = 0)) (.ret (StrA (txR a b c k), [rowT own a b c]))
  | _, _ => .fail
theorem txF_ok : SpecOk Try.prog 159 txF := by
  refine knownS KTX_ok Try.func159 fun args h r he => ?_
  unfold txF at he
  split at he
  · rename_i k own a b c z
    obtain ⟨⟨h1, hz⟩, he'⟩ := Tr.eval_ask.1 he
    subst hz
    cases he'
    obtain ⟨ℓ, hl, hw⟩ := (txR_ok a b c h1).2 own
    exact ⟨_, [], 60, ℓ, hl, hw⟩
  · cases he
end
section
open Go Go.RowKit
def dtT : List ByteArray := [(⟨#[(97 : UInt8)]⟩ : ByteArray), (⟨#[(98 : UInt8)]⟩ : ByteArray), (⟨#[(32 : UInt8)]⟩ : ByteArray), (⟨#[(32 : UInt8), (32 : UInt8)]⟩ : ByteArray), (⟨#[(10 : UInt8)]⟩ : ByteArray), (⟨#[(97 : UInt8), (98 : UInt8)]⟩ : ByteArray), (⟨#[(99 : UInt8), (32 : UInt8)]⟩ : ByteArray), (⟨#[]⟩ : ByteArray)]
theorem sm_dtT (i : Nat) : Sm 24 (dtT.getD i (⟨#[]⟩ : ByteArray)) := sm_t dtT (by decide) i
abbrev dtK : List (Nat × Option TypeId) := [(0, none), (3, none), (4, none)]
noncomputable def dtG : Ctx2 := GT [] (fun k => if k = 3 then dtK else []) 0 []
theorem dtG_ok : XOk dtG := GT_ok nilK _ _ _
def dtS (n : Int) (s : ByteArray) (i : Int) : St := ⟨slots 21 [(0, I64 n), (3, StrA s), (4, I64 i)], []⟩
theorem dt_go {n : Int} {s : ByteArray} {i : Int} : (rT dtG nol 0 54 (bodyOf Try.f158 0) dtK dtK (dtS n s i)).go [] =
  some ([decide (i < (10 : Int)), decide ((0 : Int) ≤ u64 (w64 ((3 : Int) * i))), decide ((0 : Int) ≤ and64 (n.fdiv ((2 : Int) ^ min (u64 (w64 ((3 : Int) * i))).toNat IntKind.i64.bits)) (7 : Int)), decide (and64 (n.fdiv ((2 : Int) ^ min (u64 (w64 ((3 : Int) * i))).toNat IntKind.i64.bits)) (7 : Int) < ((8 : Nat) : Int)), decide (0 + (and64 (n.fdiv ((2 : Int) ^ min (u64 (w64 ((3 : Int) * i))).toNat IntKind.i64.bits)) (7 : Int)).toNat < 8), decide (((s.size + (dtT.getD (0 + (and64 (n.fdiv ((2 : Int) ^ min (u64 (w64 ((3 : Int) * i))).toNat IntKind.i64.bits)) (7 : Int)).toNat) (⟨#[]⟩ : ByteArray)).size : Nat) : Int) ≤ IntKind.i64.max)], Ex.normal, { sl := slots 21 [(0, I64 n), (3, AV.c (AC.v (Value.string (s ++ dtT.getD (0 + (and64 (n.fdiv ((2 : Int) ^ min (u64 (w64 ((3 : Int) * i))).toNat IntKind.i64.bits)) (7 : Int)).toNat) (⟨#[]⟩ : ByteArray))))), (4, I64 (w64 (i + (1 : Int))))], h := [] }) := by kernel_rfl
theorem dt_e {n : Int} {s : ByteArray} {i : Int} : (rT dtG nol 0 54 (bodyOf Try.f158 0) dtK dtK (dtS n s i)).go [false] =
  some ([!decide (i < (10 : Int))], Ex.exit 0, { sl := slots 21 [(0, I64 n), (3, AV.c (AC.v (Value.string s))), (4, I64 i)], h := [] }) := by kernel_rfl
theorem dt_w {n : Int} {z : Int} {s : ByteArray} : (lfun dtG (tell (bodyOf Try.f158 0) (dtS n ⟨#[]⟩ 0) (.exit 0, dtS n s z)) 60 Try.f158 [I64 n] []).go [] =
  some ([yes (wasS (bodyOf Try.f158 0) (dtS n ⟨#[]⟩ 0))], AV.c (AC.v (Value.string s)), []) := by kernel_rfl
theorem u64_nn (x : Int) : decide ((0 : Int) ≤ u64 x) = true := by
  refine decide_eq_true ?_
  unfold u64
  rw [IntKind.wrap_u64]; omega
theorem dt_loop {n : Int} : ∀ d (i : Nat) (s : ByteArray), i + d = 10 → Sm (24 * i) s → ∃ s' : ByteArray, Sm 240 s' ∧ LoopR dtG 0 (bodyOf Try.f158 0) (dtS n s (i : Nat)) (.exit 0, dtS n s' (10 : Nat))
  | 0, i, s, h, hs => by
    have : i = 10 := by omega
    subst this
    exact ⟨s, sm_le hs (by omega), LoopR.stop (by simp) (rT_sem dtG_ok noLoopsS ((rT_go (dt_e (i := ((10 : Nat) : Int))) ⟨by rw [decide_eq_false (by omega)]; rfl, trivial⟩).trans rfl))⟩
  | d + 1, i, s, h, hs => by
    have e3 := succ64 (j := i) (by omega)
    have ho := sm_dtT (0 + (and64 (n.fdiv ((2 : Int) ^ min (u64 (w64 ((3 : Int) * ((i : Nat) : Int)))).toNat IntKind.i64.bits)) (7 : Int)).toNat)
    obtain ⟨s', h1, h2⟩ := dt_loop d (i + 1) (s ++ dtT.getD (0 + (and64 (n.fdiv ((2 : Int) ^ min (u64 (w64 ((3 : Int) * ((i : Nat) : Int)))).toNat IntKind.i64.bits)) (7 : Int)).toNat) (⟨#[]⟩ : ByteArray)) (by omega) (sm_le (sm_app hs ho) (by omega))
    refine ⟨s', h1, LoopR.next (rT_sem dtG_ok noLoopsS ((rT_go (dt_go (i := ((i : Nat) : Int))) ?_).trans ?_)) h2⟩
    · repeat' (first | exact AllT.nil | refine AllT.cons ?_ ?_)
      all_goals first | (with_reducible rfl) | (with_reducible exact u64_nn _) | (with_reducible exact k7a _) | (with_reducible exact k7b _) | (with_reducible exact k7c _) | (with_reducible exact sm_max hs ho (by omega)) | exact decide_eq_true (by omega)
    · simp only [e3]; rfl
theorem dt_ex (n : Int) : ∃ s : ByteArray, Sm 240 s ∧ ∃ ℓ, LoopsSem dtG 0 ℓ ∧ (lfun dtG ℓ 60 Try.f158 [I64 n] []).eval = some (StrA s, []) := by
  obtain ⟨s, h1, h2⟩ := dt_loop (n := n) 10 0 ⟨#[]⟩ (by omega) (by unfold Sm; decide)
  exact ⟨s, h1, _, tell_ok h2.sem, (Tr.go_eval (dt_w (z := ((10 : Nat) : Int))) ⟨yes_of ⟨rfl, rfl⟩, trivial⟩).trans rfl⟩
noncomputable def dtR (n : Int) : ByteArray := Classical.choose (dt_ex n)
theorem dtR_ok (n : Int) : Sm 240 (dtR n) ∧ ∃ ℓ, LoopsSem dtG 0 ℓ ∧ (lfun dtG ℓ 60 Try.f158 [I64 n] []).eval = some (StrA (dtR n), []) := Classical.choose_spec (dt_ex n)
noncomputable def dtF : Spec := fun args h => match args, h with
  | [.c (.v (.int .i64 n))], [] => .ret (StrA (dtR n), [])
  | _, _ => .fail
theorem dtF_ok : SpecOk Try.prog 158 dtF := by
  refine knownS nilK Try.func158 fun args h r he => ?_
  unfold dtF at he
  split at he
  · rename_i n
    cases he
    obtain ⟨ℓ, hl, hw⟩ := (dtR_ok n).2
    exact ⟨_, [], 60, ℓ, hl, hw⟩
  · cases he
end
section
open Go Go.RowKit
noncomputable def KOP : Known := [(159, txF), (158, dtF)]
theorem KOP_ok : KnownOk KOP := consK txF_ok (by kernel_rfl) (consK dtF_ok (by kernel_rfl) nilK)
noncomputable def opG : Ctx2 := GT KOP (fun _ => []) 0 []
theorem opG_ok : XOk opG := GT_ok KOP_ok _ _ _
def opT : List Int := [(1 : Int), (1 : Int), (2 : Int), (3 : Int), (4 : Int), (5 : Int), (6 : Int), (1 : Int), (2 : Int), (5 : Int), (3 : Int), (7 : Int)]
theorem op_tb {n m : Int} : (lfun opG nol 60 Try.f139 [I64 n, I64 m] []).go [] = some ([true, decide ((0 : Int) ≤ (and64 n 255).tmod 12), decide ((and64 n 255).tmod 12 < ((12 : Nat) : Int)), decide (0 + ((and64 n 255).tmod 12).toNat < 12), true, true, true, true, true, and64 (n.fdiv (2 ^ min 24 IntKind.i64.bits)) 3 == (0 : Int), true, true, opT.getD (0 + ((and64 n 255).tmod 12).toNat) (0 : Int) == (2 : Int), true, true, true, true], .agg [i64 (opT.getD (0 + ((and64 n 255).tmod 12).toNat) (0 : Int)), i64 (w64 ((and64 (n.fdiv (2 ^ min 8 IntKind.i64.bits)) 255).tmod 24 - (1 : Int))), i64 (w64 ((and64 (n.fdiv (2 ^ min 16 IntKind.i64.bits)) 255).tmod 20 - (1 : Int))), i64 ((and64 (n.fdiv (2 ^ min 26 IntKind.i64.bits)) 255).tmod 20), .v (.string (dtR m))], []) := by kernel_rfl
theorem op_tc {n m : Int} : (lfun opG nol 60 Try.f139 [I64 n, I64 m] []).go [true, true, true, true, true, true, true, true, true, true, true, true, false, false, false, false] = some ([true, decide ((0 : Int) ≤ (and64 n 255).tmod 12), decide ((and64 n 255).tmod 12 < ((12 : Nat) : Int)), decide (0 + ((and64 n 255).tmod 12).toNat < 12), true, true, true, true, true, and64 (n.fdiv (2 ^ min 24 IntKind.i64.bits)) 3 == (0 : Int), true, true, !opT.getD (0 + ((and64 n 255).tmod 12).toNat) (0 : Int) == (2 : Int), true, true, true, opT.getD (0 + ((and64 n 255).tmod 12).toNat) (0 : Int) == (4 : Int)], .agg [i64 (opT.getD (0 + ((and64 n 255).tmod 12).toNat) (0 : Int)), i64 (w64 ((and64 (n.fdiv (2 ^ min 8 IntKind.i64.bits)) 255).tmod 24 - (1 : Int))), i64 (w64 ((and64 (n.fdiv (2 ^ min 16 IntKind.i64.bits)) 255).tmod 20 - (1 : Int))), i64 ((and64 (n.fdiv (2 ^ min 26 IntKind.i64.bits)) 255).tmod 20), .v (.string (dtR m))], []) := by kernel_rfl
theorem op_td {n m : Int} : (lfun opG nol 60 Try.f139 [I64 n, I64 m] []).go [true, true, true, true, true, true, true, true, true, true, true, true, false, false, false, false, false] = some ([true, decide ((0 : Int) ≤ (and64 n 255).tmod 12), decide ((and64 n 255).tmod 12 < ((12 : Nat) : Int)), decide (0 + ((and64 n 255).tmod 12).toNat < 12), true, true, true, true, true, and64 (n.fdiv (2 ^ min 24 IntKind.i64.bits)) 3 == (0 : Int), true, true, !opT.getD (0 + ((and64 n 255).tmod 12).toNat) (0 : Int) == (2 : Int), true, true, true, !opT.getD (0 + ((and64 n 255).tmod 12).toNat) (0 : Int) == (4 : Int), true, and64 (n.fdiv (2 ^ min 40 IntKind.i64.bits)) 15 == (9 : Int), decide ((0 : Int) ≤ and64 m 3), decide (and64 m 3 < ((4 : Nat) : Int)), decide (0 + (and64 m 3).toNat < 4)], .agg [i64 (opT.getD (0 + ((and64 n 255).tmod 12).toNat) (0 : Int)), i64 (w64 ((and64 (n.fdiv (2 ^ min 8 IntKind.i64.bits)) 255).tmod 24 - (1 : Int))), i64 (w64 ((and64 (n.fdiv (2 ^ min 16 IntKind.i64.bits)) 255).tmod 20 - (1 : Int))), i64 ((and64 (n.fdiv (2 ^ min 26 IntKind.i64.bits)) 255).tmod 20), .v (.string ([(⟨#[120]⟩ : ByteArray), (⟨#[119, 105, 100, 116, 104]⟩ : ByteArray), (⟨#[99, 111, 108, 111, 114, 58, 32, 114, 101, 100]⟩ : ByteArray), (⟨#[119, 105, 100, 116, 104, 58, 32, 45, 49, 112, 120]⟩ : ByteArray)].getD (0 + (and64 m 3).toNat) (⟨#[]⟩ : ByteArray)))], []) := by kernel_rfl
theorem op_te {n m : Int} : (lfun opG nol 60 Try.f139 [I64 n, I64 m] []).go [true, true, true, true, true, true, true, true, true, true, true, true, false, false, false, false, false, true, false] = some ([true, decide ((0 : Int) ≤ (and64 n 255).tmod 12), decide ((and64 n 255).tmod 12 < ((12 : Nat) : Int)), decide (0 + ((and64 n 255).tmod 12).toNat < 12), true, true, true, true, true, and64 (n.fdiv (2 ^ min 24 IntKind.i64.bits)) 3 == (0 : Int), true, true, !opT.getD (0 + ((and64 n 255).tmod 12).toNat) (0 : Int) == (2 : Int), true, true, true, !opT.getD (0 + ((and64 n 255).tmod 12).toNat) (0 : Int) == (4 : Int), true, !and64 (n.fdiv (2 ^ min 40 IntKind.i64.bits)) 15 == (9 : Int), true, true, decInt (0 : Int) (and64 m 3) 3, yes ((and64 m 3).toNat ≤ 3 ∧ (0 : Int) = (0 : Int))], .agg [i64 (opT.getD (0 + ((and64 n 255).tmod 12).toNat) (0 : Int)), i64 (w64 ((and64 (n.fdiv (2 ^ min 8 IntKind.i64.bits)) 255).tmod 24 - (1 : Int))), i64 (w64 ((and64 (n.fdiv (2 ^ min 16 IntKind.i64.bits)) 255).tmod 20 - (1 : Int))), i64 ((and64 (n.fdiv (2 ^ min 26 IntKind.i64.bits)) 255).tmod 20), .v (.string (txR m (m.fdiv (2 ^ min 17 IntKind.i64.bits)) (m.fdiv (2 ^ min 34 IntKind.i64.bits)) (and64 m 3).toNat))], []) := by kernel_rfl
theorem op_fb {n m : Int} : (lfun opG nol 60 Try.f139 [I64 n, I64 m] []).go [true, true, true, true, true, true, true, true, true, false] = some ([true, decide ((0 : Int) ≤ (and64 n 255).tmod 12), decide ((and64 n 255).tmod 12 < ((12 : Nat) : Int)), decide (0 + ((and64 n 255).tmod 12).toNat < 12), true, true, true, true, true, !and64 (n.fdiv (2 ^ min 24 IntKind.i64.bits)) 3 == (0 : Int), opT.getD (0 + ((and64 n 255).tmod 12).toNat) (0 : Int) == (2 : Int), true, true, true, true], .agg [i64 (opT.getD (0 + ((and64 n 255).tmod 12).toNat) (0 : Int)), i64 (w64 ((and64 (n.fdiv (2 ^ min 8 IntKind.i64.bits)) 255).tmod 24 - (1 : Int))), i64 (w64 ((and64 (n.fdiv (2 ^ min 16 IntKind.i64.bits)) 255).tmod 20 - (1 : Int))), i64 (-1 : Int), .v (.string (dtR m))], []) := by kernel_rfl
theorem op_fc {n m : Int} : (lfun opG nol 60 Try.f139 [I64 n, I64 m] []).go [true, true, true, true, true, true, true, true, true, false, false, false, false, false] = some ([true, decide ((0 : Int) ≤ (and64 n 255).tmod 12), decide ((and64 n 255).tmod 12 < ((12 : Nat) : Int)), decide (0 + ((and64 n 255).tmod 12).toNat < 12), true, true, true, true, true, !and64 (n.fdiv (2 ^ min 24 IntKind.i64.bits)) 3 == (0 : Int), !opT.getD (0 + ((and64 n 255).tmod 12).toNat) (0 : Int) == (2 : Int), true, true, true, opT.getD (0 + ((and64 n 255).tmod 12).toNat) (0 : Int) == (4 : Int)], .agg [i64 (opT.getD (0 + ((and64 n 255).tmod 12).toNat) (0 : Int)), i64 (w64 ((and64 (n.fdiv (2 ^ min 8 IntKind.i64.bits)) 255).tmod 24 - (1 : Int))), i64 (w64 ((and64 (n.fdiv (2 ^ min 16 IntKind.i64.bits)) 255).tmod 20 - (1 : Int))), i64 (-1 : Int), .v (.string (dtR m))], []) := by kernel_rfl
theorem op_fd {n m : Int} : (lfun opG nol 60 Try.f139 [I64 n, I64 m] []).go [true, true, true, true, true, true, true, true, true, false, false, false, false, false, false] = some ([true, decide ((0 : Int) ≤ (and64 n 255).tmod 12), decide ((and64 n 255).tmod 12 < ((12 : Nat) : Int)), decide (0 + ((and64 n 255).tmod 12).toNat < 12), true, true, true, true, true, !and64 (n.fdiv (2 ^ min 24 IntKind.i64.bits)) 3 == (0 : Int), !opT.getD (0 + ((and64 n 255).tmod 12).toNat) (0 : Int) == (2 : Int), true, true, true, !opT.getD (0 + ((and64 n 255).tmod 12).toNat) (0 : Int) == (4 : Int), true, and64 (n.fdiv (2 ^ min 40 IntKind.i64.bits)) 15 == (9 : Int), decide ((0 : Int) ≤ and64 m 3), decide (and64 m 3 < ((4 : Nat) : Int)), decide (0 + (and64 m 3).toNat < 4)], .agg [i64 (opT.getD (0 + ((and64 n 255).tmod 12).toNat) (0 : Int)), i64 (w64 ((and64 (n.fdiv (2 ^ min 8 IntKind.i64.bits)) 255).tmod 24 - (1 : Int))), i64 (w64 ((and64 (n.fdiv (2 ^ min 16 IntKind.i64.bits)) 255).tmod 20 - (1 : Int))), i64 (-1 : Int), .v (.string ([(⟨#[120]⟩ : ByteArray), (⟨#[119, 105, 100, 116, 104]⟩ : ByteArray), (⟨#[99, 111, 108, 111, 114, 58, 32, 114, 101, 100]⟩ : ByteArray), (⟨#[119, 105, 100, 116, 104, 58, 32, 45, 49, 112, 120]⟩ : ByteArray)].getD (0 + (and64 m 3).toNat) (⟨#[]⟩ : ByteArray)))], []) := by kernel_rfl
theorem op_fe {n m : Int} : (lfun opG nol 60 Try.f139 [I64 n, I64 m] []).go [true, true, true, true, true, true, true, true, true, false, false, false, false, false, false, true, false] = some ([true, decide ((0 : Int) ≤ (and64 n 255).tmod 12), decide ((and64 n 255).tmod 12 < ((12 : Nat) : Int)), decide (0 + ((and64 n 255).tmod 12).toNat < 12), true, true, true, true, true, !and64 (n.fdiv (2 ^ min 24 IntKind.i64.bits)) 3 == (0 : Int), !opT.getD (0 + ((and64 n 255).tmod 12).toNat) (0 : Int) == (2 : Int), true, true, true, !opT.getD (0 + ((and64 n 255).tmod 12).toNat) (0 : Int) == (4 : Int), true, !and64 (n.fdiv (2 ^ min 40 IntKind.i64.bits)) 15 == (9 : Int), true, true, decInt (0 : Int) (and64 m 3) 3, yes ((and64 m 3).toNat ≤ 3 ∧ (0 : Int) = (0 : Int))], .agg [i64 (opT.getD (0 + ((and64 n 255).tmod 12).toNat) (0 : Int)), i64 (w64 ((and64 (n.fdiv (2 ^ min 8 IntKind.i64.bits)) 255).tmod 24 - (1 : Int))), i64 (w64 ((and64 (n.fdiv (2 ^ min 16 IntKind.i64.bits)) 255).tmod 20 - (1 : Int))), i64 (-1 : Int), .v (.string (txR m (m.fdiv (2 ^ min 17 IntKind.i64.bits)) (m.fdiv (2 ^ min 34 IntKind.i64.bits)) (and64 m 3).toNat))], []) := by kernel_rfl
def encA (o : Opp) : List AC := [i64 o.k, i64 o.i, i64 o.a, i64 o.b, .v (.string o.s)]
theorem opT_by : ∀ (l : List Int), l.all byOk = true → ∀ i, byOk (l.getD i (0 : Int)) = true
  | [], _, i => rfl
  | x :: l, h, i => by
    simp only [List.all_cons, Bool.and_eq_true] at h
    cases i with
    | zero => exact h.1
    | succ j => exact opT_by l h.2 j
theorem bt2 (b : Bool) : b = true ∨ (!b) = true := by cases b <;> simp
theorem t12 (a : Int) : 0 ≤ (and64 a (255 : Int)).tmod (12 : Int) ∧ (and64 a (255 : Int)).tmod (12 : Int) < 12 := tm (and64 a 255) 12 (m255 a).1 (by decide)
theorem t12a (a : Int) : decide ((0 : Int) ≤ (and64 a (255 : Int)).tmod (12 : Int)) = true := by have := t12 a; exact decide_eq_true (by omega)
theorem t12b (a : Int) : decide ((and64 a (255 : Int)).tmod (12 : Int) < ((12 : Nat) : Int)) = true := by have := t12 a; exact decide_eq_true (by omega)
theorem t12c (a : Int) : decide (0 + ((and64 a (255 : Int)).tmod (12 : Int)).toNat < 12) = true := by have := t12 a; exact decide_eq_true (by omega)
theorem k4a (a : Int) : decide (and64 a (3 : Int) < ((4 : Nat) : Int)) = true := k3b a
theorem k3d (a : Int) : decInt (0 : Int) (and64 a (3 : Int)) (3 : Nat) = true := by
  have := m3 a
  unfold decInt; simp only [Bool.and_eq_true, decide_eq_true_eq]; omega
theorem k3y (a : Int) : yes ((and64 a (3 : Int)).toNat ≤ 3 ∧ (0 : Int) = 0) = true := by have := m3 a; exact yes_of ⟨by omega, rfl⟩
theorem fi20 (a : Int) : fits (w64 ((and64 a (255 : Int)).tmod (20 : Int) - (1 : Int))) = true := by
  have h := tm (and64 a 255) 20 (m255 a).1 (by decide)
  rw [w64_id (by omega) (by omega)]; unfold fits; simp only [Bool.and_eq_true, decide_eq_true_eq]; omega
theorem fi24 (a : Int) : fits (w64 ((and64 a (255 : Int)).tmod (24 : Int) - (1 : Int))) = true := by
  have h := tm (and64 a 255) 24 (m255 a).1 (by decide)
  rw [w64_id (by omega) (by omega)]; unfold fits; simp only [Bool.and_eq_true, decide_eq_true_eq]; omega
theorem fi0 (a : Int) : fits ((and64 a (255 : Int)).tmod (20 : Int)) = true := by
  have h := tm (and64 a 255) 20 (m255 a).1 (by decide)
  unfold fits; simp only [Bool.and_eq_true, decide_eq_true_eq]; omega
theorem op_ok {o : Opp} (h1 : byOk o.k = true) (h2 : fits o.i = true) (h3 : fits o.a = true) (h4 : fits o.b = true) (h5 : Sm 303 o.s) : opOk o = true := by
  unfold opOk; rw [h1, h2, h3, h4]; unfold Sm at h5; simp only [Bool.true_and, decide_eq_true_eq]; omega
def opTx : List ByteArray := [(⟨#[120]⟩ : ByteArray), (⟨#[119, 105, 100, 116, 104]⟩ : ByteArray), (⟨#[99, 111, 108, 111, 114, 58, 32, 114, 101, 100]⟩ : ByteArray), (⟨#[119, 105, 100, 116, 104, 58, 32, 45, 49, 112, 120]⟩ : ByteArray)]
theorem sm_opTx (i : Nat) : Sm 24 (opTx.getD i (⟨#[]⟩ : ByteArray)) := sm_t opTx (by decide) i
def OpRes (n m : Int) (o : Opp) : Prop := opOk o = true ∧ (lfun opG nol 60 Try.f139 [I64 n, I64 m] []).eval = some (.agg (encA o), [])
theorem op_exi (n m : Int) : ∃ o, OpRes n m o := by
  have hk := m3 m
  have ht := (txR_ok m (m.fdiv ((2 : Int) ^ min 17 IntKind.i64.bits)) (m.fdiv ((2 : Int) ^ min 34 IntKind.i64.bits)) (k := (and64 m 3).toNat) (by omega)).1
  rcases bt2 (and64 (n.fdiv ((2 : Int) ^ min 24 IntKind.i64.bits)) (3 : Int) == (0 : Int)) with hA | hA <;>
  rcases bt2 (opT.getD (0 + ((and64 n (255 : Int)).tmod (12 : Int)).toNat) (0 : Int) == (2 : Int)) with hB | hB
  · exact ⟨⟨_, _, _, _, _⟩, op_ok (opT_by opT (by decide) _) (fi24 _) (fi20 _) (fi0 _) (sm_le (dtR_ok _).1 (by decide)), (Tr.go_eval op_tb (by ((repeat' (first | exact AllT.nil | refine AllT.cons ?_ ?_)); all_goals first | (with_reducible rfl) | (with_reducible assumption) | with_reducible exact t12a _ | with_reducible exact t12b _ | with_reducible exact t12c _ | with_reducible exact k3a _ | with_reducible exact k3b _ | with_reducible exact k3c _ | with_reducible exact k3d _ | with_reducible exact k3y _))).trans rfl⟩
  · rcases bt2 (opT.getD (0 + ((and64 n (255 : Int)).tmod (12 : Int)).toNat) (0 : Int) == (4 : Int)) with hC | hC
    · exact ⟨⟨_, _, _, _, _⟩, op_ok (opT_by opT (by decide) _) (fi24 _) (fi20 _) (fi0 _) (sm_le (dtR_ok _).1 (by decide)), (Tr.go_eval op_tc (by ((repeat' (first | exact AllT.nil | refine AllT.cons ?_ ?_)); all_goals first | (with_reducible rfl) | (with_reducible assumption) | with_reducible exact t12a _ | with_reducible exact t12b _ | with_reducible exact t12c _ | with_reducible exact k3a _ | with_reducible exact k3b _ | with_reducible exact k3c _ | with_reducible exact k3d _ | with_reducible exact k3y _))).trans rfl⟩
    · rcases bt2 (and64 (n.fdiv ((2 : Int) ^ min 40 IntKind.i64.bits)) (15 : Int) == (9 : Int)) with hD | hD
      · exact ⟨⟨_, _, _, _, _⟩, op_ok (opT_by opT (by decide) _) (fi24 _) (fi20 _) (fi0 _) (sm_le (sm_opTx _) (by decide)), (Tr.go_eval op_td (by ((repeat' (first | exact AllT.nil | refine AllT.cons ?_ ?_)); all_goals first | (with_reducible rfl) | (with_reducible assumption) | with_reducible exact t12a _ | with_reducible exact t12b _ | with_reducible exact t12c _ | with_reducible exact k3a _ | with_reducible exact k3b _ | with_reducible exact k3c _ | with_reducible exact k3d _ | with_reducible exact k3y _))).trans rfl⟩
      · exact ⟨⟨_, _, _, _, _⟩, op_ok (opT_by opT (by decide) _) (fi24 _) (fi20 _) (fi0 _) ht, (Tr.go_eval op_te (by ((repeat' (first | exact AllT.nil | refine AllT.cons ?_ ?_)); all_goals first | (with_reducible rfl) | (with_reducible assumption) | with_reducible exact t12a _ | with_reducible exact t12b _ | with_reducible exact t12c _ | with_reducible exact k3a _ | with_reducible exact k3b _ | with_reducible exact k3c _ | with_reducible exact k3d _ | with_reducible exact k3y _))).trans rfl⟩
  · exact ⟨⟨_, _, _, _, _⟩, op_ok (opT_by opT (by decide) _) (fi24 _) (fi20 _) (by decide : fits (-1) = true) (sm_le (dtR_ok _).1 (by decide)), (Tr.go_eval op_fb (by ((repeat' (first | exact AllT.nil | refine AllT.cons ?_ ?_)); all_goals first | (with_reducible rfl) | (with_reducible assumption) | with_reducible exact t12a _ | with_reducible exact t12b _ | with_reducible exact t12c _ | with_reducible exact k3a _ | with_reducible exact k3b _ | with_reducible exact k3c _ | with_reducible exact k3d _ | with_reducible exact k3y _))).trans rfl⟩
  · rcases bt2 (opT.getD (0 + ((and64 n (255 : Int)).tmod (12 : Int)).toNat) (0 : Int) == (4 : Int)) with hC | hC
    · exact ⟨⟨_, _, _, _, _⟩, op_ok (opT_by opT (by decide) _) (fi24 _) (fi20 _) (by decide : fits (-1) = true) (sm_le (dtR_ok _).1 (by decide)), (Tr.go_eval op_fc (by ((repeat' (first | exact AllT.nil | refine AllT.cons ?_ ?_)); all_goals first | (with_reducible rfl) | (with_reducible assumption) | with_reducible exact t12a _ | with_reducible exact t12b _ | with_reducible exact t12c _ | with_reducible exact k3a _ | with_reducible exact k3b _ | with_reducible exact k3c _ | with_reducible exact k3d _ | with_reducible exact k3y _))).trans rfl⟩
    · rcases bt2 (and64 (n.fdiv ((2 : Int) ^ min 40 IntKind.i64.bits)) (15 : Int) == (9 : Int)) with hD | hD
      · exact ⟨⟨_, _, _, _, _⟩, op_ok (opT_by opT (by decide) _) (fi24 _) (fi20 _) (by decide : fits (-1) = true) (sm_le (sm_opTx _) (by decide)), (Tr.go_eval op_fd (by ((repeat' (first | exact AllT.nil | refine AllT.cons ?_ ?_)); all_goals first | (with_reducible rfl) | (with_reducible assumption) | with_reducible exact t12a _ | with_reducible exact t12b _ | with_reducible exact t12c _ | with_reducible exact k3a _ | with_reducible exact k3b _ | with_reducible exact k3c _ | with_reducible exact k3d _ | with_reducible exact k3y _))).trans rfl⟩
      · exact ⟨⟨_, _, _, _, _⟩, op_ok (opT_by opT (by decide) _) (fi24 _) (fi20 _) (by decide : fits (-1) = true) ht, (Tr.go_eval op_fe (by ((repeat' (first | exact AllT.nil | refine AllT.cons ?_ ?_)); all_goals first | (with_reducible rfl) | (with_reducible assumption) | with_reducible exact t12a _ | with_reducible exact t12b _ | with_reducible exact t12c _ | with_reducible exact k3a _ | with_reducible exact k3b _ | with_reducible exact k3c _ | with_reducible exact k3d _ | with_reducible exact k3y _))).trans rfl⟩
noncomputable def opV (n m : Int) : Opp := Classical.choose (op_exi n m)
theorem opV_ok (n m : Int) : OpRes n m (opV n m) := Classical.choose_spec (op_exi n m)
noncomputable def opF : Spec := fun args h => match args, h with
  | [.c (.v (.int .i64 n)), .c (.v (.int .i64 m))], [] => .ret (.agg (encA (opV n m)), [])
  | _, _ => .fail
theorem opF_ok : SpecOk Try.prog 139 opF := by
  refine knownS KOP_ok Try.func139 fun args h r he => ?_
  unfold opF at he
  split at he
  · rename_i n m
    cases he
    exact ⟨_, [], 60, nol, noLoopsS, (opV_ok n m).2⟩
  · cases he
end
section
open Go Go.RowKit
def rowJ (own : Bool) (n : Nat) (g : Nat → Int) : Option ABlk := some ⟨2, own, .row 1 n fun j => v1 (g j)⟩
end
section
open Go Go.RowKit
noncomputable def KOS : Known := [(139, opF)]
theorem KOS_ok : KnownOk KOS := consK opF_ok (by kernel_rfl) nilK
abbrev osK : List (Nat × Option TypeId) := [(0,none),(3,some 121),(4,none)]
noncomputable def osG : Ctx2 := GT KOS (fun k => if k = 3 then osK else []) 0 []
theorem osG_ok : XOk osG := GT_ok KOS_ok _ _ _
def rowP (own : Bool) (n : Nat) (P : Nat → Opp) : Option ABlk := some ⟨121, own, .row 5 n fun j => encO (P j)⟩
def osO (own : Bool) (o K n : Nat) (g : Nat → Int) (na : Nat) (P : Nat → Opp) (i : Int) : St :=
  ⟨slots 30 [(0, .c (.sl 0 o K)), (3, .c (.sl 1 0 na)), (4, I64 i)], [rowJ own n g, rowP true na P]⟩
theorem os_go {own : Bool} {o K n : Nat} {g : Nat → Int} {na : Nat} {P : Nat → Opp} {i : Int} : (rT osG nol 1 54 (bodyOf Try.f100 0) osK osK (osO own o K n g na P i)).go [] = some ([decide (w64 (i + (1 : Int)) < ((K : Nat) : Int)), true, true, decide (i < (60 : Int)), decide ((0 : Int) ≤ i), decide (i < ((K : Nat) : Int)), decide (o + i.toNat < n), decide ((0 : Int) ≤ w64 (i + (1 : Int))), decide (w64 (i + (1 : Int)) < ((K : Nat) : Int)), decide (o + (w64 (i + (1 : Int))).toNat < n), decide (na = na), true, decide ((na + 1) * 48 ≤ maxCells)], Ex.normal, { sl := slots 30 [(0, .c (.sl 0 o K)), (3, .c (.sl 1 0 (na + 1))), (4, I64 (w64 (i + (2 : Int))))], h := [some ⟨2, own, .row 1 n fun j => [.int .i64 (g j)]⟩, some ⟨121, true, .row 5 (na + 1) fun k => [.int .i64 (bif decide (k = na) then (opV (g (o + i.toNat)) (g (o + (w64 (i + (1 : Int))).toNat))).k else (P k).k), .int .i64 (bif decide (k = na) then (opV (g (o + i.toNat)) (g (o + (w64 (i + (1 : Int))).toNat))).i else (P k).i), .int .i64 (bif decide (k = na) then (opV (g (o + i.toNat)) (g (o + (w64 (i + (1 : Int))).toNat))).a else (P k).a), .int .i64 (bif decide (k = na) then (opV (g (o + i.toNat)) (g (o + (w64 (i + (1 : Int))).toNat))).b else (P k).b), .string (bif decide (k = na) then (opV (g (o + i.toNat)) (g (o + (w64 (i + (1 : Int))).toNat))).s else (P k).s)]⟩] }) := by kernel_rfl
theorem os_e1 {own : Bool} {o K n : Nat} {g : Nat → Int} {na : Nat} {P : Nat → Opp} {i : Int} : (rT osG nol 1 54 (bodyOf Try.f100 0) osK osK (osO own o K n g na P i)).go [false, false, false, false] = some ([!decide (w64 (i + (1 : Int)) < ((K : Nat) : Int)), true, true, true], Ex.exit 0, { sl := slots 30 [(0, .c (.sl 0 o K)), (3, .c (.sl 1 0 na)), (4, I64 i)], h := [some ⟨2, own, .row 1 n fun j => [.int .i64 (g j)]⟩, some ⟨121, true, .row 5 na fun j => [.int .i64 (P j).k, .int .i64 (P j).i, .int .i64 (P j).a, .int .i64 (P j).b, .string (P j).s]⟩] }) := by kernel_rfl
theorem os_e2 {own : Bool} {o K n : Nat} {g : Nat → Int} {na : Nat} {P : Nat → Opp} {i : Int} : (rT osG nol 1 54 (bodyOf Try.f100 0) osK osK (osO own o K n g na P i)).go [true, true, true, false] = some ([decide (w64 (i + (1 : Int)) < ((K : Nat) : Int)), true, true, !decide (i < (60 : Int))], Ex.exit 0, { sl := slots 30 [(0, .c (.sl 0 o K)), (3, .c (.sl 1 0 na)), (4, I64 i)], h := [some ⟨2, own, .row 1 n fun j => [.int .i64 (g j)]⟩, some ⟨121, true, .row 5 na fun j => [.int .i64 (P j).k, .int .i64 (P j).i, .int .i64 (P j).a, .int .i64 (P j).b, .string (P j).s]⟩] }) := by kernel_rfl
theorem os_w {own : Bool} {o K n : Nat} {g : Nat → Int} {na : Nat} {P : Nat → Opp} {z : Int} : (lfun osG (tell (bodyOf Try.f100 0) (osO own o K n g 0 (fun _ => zOpp) 0) (.exit 0, osO own o K n g na P z)) 60 Try.f100 [.c (.sl 0 o K)] [rowJ own n g]).go [] = some ([yes (wasS (bodyOf Try.f100 0) (osO own o K n g 0 (fun _ => zOpp) 0))], .c (.sl 1 0 na), [some ⟨2, own, .row 1 n fun j => [.int .i64 (g j)]⟩, some ⟨121, true, .row 5 na fun j => [.int .i64 (P j).k, .int .i64 (P j).i, .int .i64 (P j).a, .int .i64 (P j).b, .string (P j).s]⟩]) := by kernel_rfl
def appP (P : Nat → Opp) (n : Nat) (x : Opp) : Nat → Opp := fun q => ⟨bif decide (q = n) then x.k else (P q).k, bif decide (q = n) then x.i else (P q).i, bif decide (q = n) then x.a else (P q).a, bif decide (q = n) then x.b else (P q).b, bif decide (q = n) then x.s else (P q).s⟩
theorem appP_self (P : Nat → Opp) (n : Nat) (x : Opp) : appP P n x n = x := by simp [appP]
theorem appP_ne (P : Nat → Opp) (n : Nat) (x : Opp) {q : Nat} (h : q ≠ n) : appP P n x q = P q := by simp [appP, h]
noncomputable def opsL (g : Nat → Int) : Nat → Nat → Opp
  | 0 => fun _ => zOpp
  | j + 1 => appP (opsL g j) j (opV (g (2 * j)) (g (2 * j + 1)))
theorem opsL_ok (g : Nat → Int) : ∀ N q, q < N → opOk (opsL g N q) = true
  | N + 1, q, h => by
    unfold opsL
    by_cases e : q = N
    · rw [e, appP_self]; exact (opV_ok _ _).1
    · rw [appP_ne _ _ _ e]; exact opsL_ok g N q (by omega)
def osN (K : Nat) : Nat := min (K / 2) 30
theorem os_loop {own : Bool} {o K n : Nat} {g : Nat → Int} (hn : o + K ≤ n) :
    CodeSem osG 1 (.loop (bodyOf Try.f100 0)) (osO own o K n g 0 (fun _ => zOpp) 0) (.exit 0, osO own o K n g (osN K) (opsL (fun j => g (o + j)) (osN K)) ((2 * osN K : Nat) : Int)) := by
  have hN : osN K = min (K / 2) 30 := rfl
  generalize osN K = N at hN
  refine loop_of (fun i => osO own o K n g i (opsL (fun j => g (o + j)) i) ((2 * i : Nat) : Int)) N (by simp) ?_ fun j hj => ?_
  · have e1 := succ64 (j := 2 * N) (by omega)
    by_cases h : 2 * N + 1 < K
    · have h2 : N = 30 := by omega
      subst h2
      exact rT_sem osG_ok noLoopsS (rT_go os_e2 ⟨by rw [e1]; exact decide_eq_true (by omega), rfl, rfl, rfl, trivial⟩)
    · exact rT_sem osG_ok noLoopsS (rT_go os_e1 ⟨by rw [e1, decide_eq_false (by omega)]; rfl, rfl, rfl, rfl, trivial⟩)
  · have e1 := succ64 (j := 2 * j) (by omega)
    have e2 : w64 (((2 * j : Nat) : Int) + 2) = ((2 * (j + 1) : Nat) : Int) := by rw [w64_id (by omega) (by omega)]; omega
    refine rT_sem osG_ok noLoopsS ((rT_go (os_go (own := own) (o := o) (K := K) (n := n) (g := g) (na := j) (P := opsL (fun j => g (o + j)) j) (i := ((2 * j : Nat) : Int))) ?_).trans ?_)
    · simp only [e1, Int.toNat_natCast]
      repeat' (first | exact AllT.nil | refine AllT.cons ?_ ?_)
      all_goals first | (with_reducible rfl) | exact decide_eq_true (by omega) | exact decide_eq_true trivial | exact decide_eq_true (by unfold maxCells; omega)
    · simp only [e1, e2, Int.toNat_natCast]
      rfl
noncomputable def osF : Spec := fun args h => match args, h with
  | [.c (.sl 0 o k)], [some ⟨2, own, .row 1 n f⟩] =>
    .need (yes (o + k ≤ n ∧ f = fun j => v1 (vd (f j)))) (.ret (.c (.sl 1 0 (osN k)), [some ⟨2, own, .row 1 n f⟩, rowP true (osN k) (opsL (fun j => vd (f (o + j))) (osN k))]))
  | _, _ => .fail
theorem osF_ok : SpecOk Try.prog 100 osF := by
  refine knownS KOS_ok Try.func100 fun args h r he => ?_
  unfold osF at he
  split at he
  · rename_i o k own n f
    obtain ⟨⟨h1, h2⟩, he⟩ := Tr.eval_ask.1 he
    cases he
    refine ⟨_, [], 60, _, tell_ok (os_loop (own := own) (g := fun j => vd (f j)) h1), ?_⟩
    have e1 : some ⟨2, own, .row 1 n f⟩ = rowJ own n fun j => vd (f j) := by rw [rowJ, ← h2]
    rw [e1]
    exact Tr.go_eval os_w ⟨yes_of ⟨rfl, rfl⟩, trivial⟩
  · cases he
end
section
open Go Go.RowKit
noncomputable def KWO : Known := [(140, wbF), (143, wnF), (160, wtF)]
theorem KWO_ok : KnownOk KWO := consK wbF_ok (by kernel_rfl) (consK wnF_ok (by kernel_rfl) (consK wtF_ok (by kernel_rfl) nilK))
abbrev wqK : List (Nat × Option TypeId) := [(0,none),(22,none),(23,none),(24,none)]
noncomputable def wqG : Ctx2 := GT KWO (fun k => if k = 3 then wqK else []) 0 []
theorem wqG_ok : XOk wqG := GT_ok KWO_ok _ _ _
def wqS (own : Bool) (m : Nat) (P : Nat → Opp) (bad : Bool) (k : Nat) (B : Nat → Int) (i : Int) : St :=
  ⟨slots 49 [(0, .c (.ptr 0 0 0)), (22, .c (.sl 1 0 m)), (23, I64 m), (24, I64 i)], [some ⟨168, true, .one [.sl 3 0 k, .v (.bool bad)]⟩, rowP own m P, none, rowU true k B]⟩
theorem wq_go {own : Bool} {m : Nat} {P : Nat → Opp} {bad : Bool} {k : Nat} {B : Nat → Int} {i : Int} : (rT wqG nol 3 55 (bodyOf Try.f141 0) wqK wqK (wqS own m P bad k B i)).go [] = some ([decide (i < ((m : Nat) : Int)), decide ((0 : Int) ≤ i), decide (i < ((m : Nat) : Int)), decide (0 + i.toNat < m), yes (k + 1 ≤ maxCells ∧ k = k ∧ (fun j => ub (B j)) = fun j => ub (ud (ub (B j)))), yes (k + 1 + 4 ≤ maxCells ∧ k + 1 = k + 1 ∧ (fun j => ub (appB (fun j => ud (ub (B j))) k (IntKind.u8.wrap (P (0 + i.toNat)).k) j)) = fun j => ub (ud (ub (appB (fun j => ud (ub (B j))) k (IntKind.u8.wrap (P (0 + i.toNat)).k) j)))), yes (k + 1 + 1 + 1 + 1 + 1 + 4 ≤ maxCells ∧ k + 1 + 1 + 1 + 1 + 1 = k + 1 + 1 + 1 + 1 + 1 ∧ (fun j => ub (fourB (fun j => ud (ub (appB (fun j => ud (ub (B j))) k (IntKind.u8.wrap (P (0 + i.toNat)).k) j))) (k + 1) (P (0 + i.toNat)).i j)) = fun j => ub (ud (ub (fourB (fun j => ud (ub (appB (fun j => ud (ub (B j))) k (IntKind.u8.wrap (P (0 + i.toNat)).k) j))) (k + 1) (P (0 + i.toNat)).i j)))), yes (k + 1 + 1 + 1 + 1 + 1 + 1 + 1 + 1 + 1 + 4 ≤ maxCells ∧ k + 1 + 1 + 1 + 1 + 1 + 1 + 1 + 1 + 1 = k + 1 + 1 + 1 + 1 + 1 + 1 + 1 + 1 + 1 ∧ (fun j => ub (fourB (fun j => ud (ub (fourB (fun j => ud (ub (appB (fun j => ud (ub (B j))) k (IntKind.u8.wrap (P (0 + i.toNat)).k) j))) (k + 1) (P (0 + i.toNat)).i j))) (k + 1 + 1 + 1 + 1 + 1) (P (0 + i.toNat)).a j)) = fun j => ub (ud (ub (fourB (fun j => ud (ub (fourB (fun j => ud (ub (appB (fun j => ud (ub (B j))) k (IntKind.u8.wrap (P (0 + i.toNat)).k) j))) (k + 1) (P (0 + i.toNat)).i j))) (k + 1 + 1 + 1 + 1 + 1) (P (0 + i.toNat)).a j)))), yes (k + 1 + 1 + 1 + 1 + 1 + 1 + 1 + 1 + 1 + 1 + 1 + 1 + 1 + 2 + (P (0 + i.toNat)).s.size ≤ maxCells ∧ k + 1 + 1 + 1 + 1 + 1 + 1 + 1 + 1 + 1 + 1 + 1 + 1 + 1 = k + 1 + 1 + 1 + 1 + 1 + 1 + 1 + 1 + 1 + 1 + 1 + 1 + 1 ∧ (fun j => ub (fourB (fun j => ud (ub (fourB (fun j => ud (ub (fourB (fun j => ud (ub (appB (fun j => ud (ub (B j))) k (IntKind.u8.wrap (P (0 + i.toNat)).k) j))) (k + 1) (P (0 + i.toNat)).i j))) (k + 1 + 1 + 1 + 1 + 1) (P (0 + i.toNat)).a j))) (k + 1 + 1 + 1 + 1 + 1 + 1 + 1 + 1 + 1) (P (0 + i.toNat)).b j)) = fun j => ub (ud (ub (fourB (fun j => ud (ub (fourB (fun j => ud (ub (fourB (fun j => ud (ub (appB (fun j => ud (ub (B j))) k (IntKind.u8.wrap (P (0 + i.toNat)).k) j))) (k + 1) (P (0 + i.toNat)).i j))) (k + 1 + 1 + 1 + 1 + 1) (P (0 + i.toNat)).a j))) (k + 1 + 1 + 1 + 1 + 1 + 1 + 1 + 1 + 1) (P (0 + i.toNat)).b j))))], Ex.normal, { sl := slots 49 [(0, .c (.ptr 0 0 0)), (22, .c (.sl 1 0 m)), (23, I64 ((m : Nat) : Int)), (24, I64 (w64 (i + (1 : Int))))], h := [some ⟨168, true, .one [.sl 3 0 (k + 1 + 1 + 1 + 1 + 1 + 1 + 1 + 1 + 1 + 1 + 1 + 1 + 1 + 2 + (P (0 + i.toNat)).s.size), .v (.bool (bad || !byOk (P (0 + i.toNat)).k || !fits (P (0 + i.toNat)).i || !fits (P (0 + i.toNat)).a || !fits (P (0 + i.toNat)).b || decide ((((P (0 + i.toNat)).s.size : Nat) : Int) > (2000 : Int))))]⟩, some ⟨121, own, .row 5 m fun j => [.int .i64 (P j).k, .int .i64 (P j).i, .int .i64 (P j).a, .int .i64 (P j).b, .string (P j).s]⟩, none, some ⟨5, true, .row 1 (k + 1 + 1 + 1 + 1 + 1 + 1 + 1 + 1 + 1 + 1 + 1 + 1 + 1 + 2 + (P (0 + i.toNat)).s.size) fun j => [.int .u8 (txB (fun j => ud (ub (fourB (fun j => ud (ub (fourB (fun j => ud (ub (fourB (fun j => ud (ub (appB (fun j => ud (ub (B j))) k (IntKind.u8.wrap (P (0 + i.toNat)).k) j))) (k + 1) (P (0 + i.toNat)).i j))) (k + 1 + 1 + 1 + 1 + 1) (P (0 + i.toNat)).a j))) (k + 1 + 1 + 1 + 1 + 1 + 1 + 1 + 1 + 1) (P (0 + i.toNat)).b j))) (k + 1 + 1 + 1 + 1 + 1 + 1 + 1 + 1 + 1 + 1 + 1 + 1 + 1) (P (0 + i.toNat)).s j)]⟩] }) := by kernel_rfl
theorem wq_e {own : Bool} {m : Nat} {P : Nat → Opp} {bad : Bool} {k : Nat} {B : Nat → Int} {i : Int} : (rT wqG nol 3 55 (bodyOf Try.f141 0) wqK wqK (wqS own m P bad k B i)).go [false] = some ([!decide (i < ((m : Nat) : Int))], Ex.exit 0, { sl := slots 49 [(0, .c (.ptr 0 0 0)), (22, .c (.sl 1 0 m)), (23, I64 ((m : Nat) : Int)), (24, I64 i)], h := [some ⟨168, true, .one [.sl 3 0 k, .v (.bool bad)]⟩, some ⟨121, own, .row 5 m fun j => [.int .i64 (P j).k, .int .i64 (P j).i, .int .i64 (P j).a, .int .i64 (P j).b, .string (P j).s]⟩, none, some ⟨5, true, .row 1 k fun j => [.int .u8 (B j)]⟩] }) := by kernel_rfl
def oneB (B : Nat → Int) (k : Nat) (o : Opp) : Nat → Int := txB (fourB (fourB (fourB (appB B k (IntKind.u8.wrap o.k)) (k + 1) o.i) (k + 1 + 1 + 1 + 1 + 1) o.a) (k + 1 + 1 + 1 + 1 + 1 + 1 + 1 + 1 + 1) o.b) (k + 1 + 1 + 1 + 1 + 1 + 1 + 1 + 1 + 1 + 1 + 1 + 1 + 1) o.s
def oneBad (bad : Bool) (o : Opp) : Bool := ((((bad || !byOk o.k) || !fits o.i) || !fits o.a) || !fits o.b) || decide (((o.s.size : Nat) : Int) > 2000)
def wqLen (P : Nat → Opp) (k : Nat) : Nat → Nat
  | 0 => k
  | i + 1 => wqLen P k i + 1 + 1 + 1 + 1 + 1 + 1 + 1 + 1 + 1 + 1 + 1 + 1 + 1 + 2 + (P i).s.size
def wqBad (P : Nat → Opp) (bad : Bool) : Nat → Bool
  | 0 => bad
  | i + 1 => oneBad (wqBad P bad i) (P i)
def wqBs (P : Nat → Opp) (k : Nat) (B : Nat → Int) : Nat → Nat → Int
  | 0 => B
  | i + 1 => oneB (wqBs P k B i) (wqLen P k i) (P i)
theorem wqLen_le (P : Nat → Opp) (k : Nat) (i : Nat) : ∀ d, wqLen P k i + 15 * d ≤ wqLen P k (i + d)
  | 0 => Nat.le_refl _
  | d + 1 => by
    have h := wqLen_le P k i d
    show _ ≤ wqLen P k (i + d + 1)
    simp only [wqLen]
    omega
theorem wq_loop {own : Bool} {m : Nat} {P : Nat → Opp} {bad : Bool} {k : Nat} {B : Nat → Int} (hm : wqLen P k m ≤ maxCells) :
    CodeSem wqG 3 (.loop (bodyOf Try.f141 0)) (wqS own m P bad k B 0) (.exit 0, wqS own m P (wqBad P bad m) (wqLen P k m) (wqBs P k B m) (m : Nat)) := by
  have h0 := wqLen_le P k 0 m
  rw [Nat.zero_add] at h0
  have hM : maxCells < 2 ^ 60 := by unfold maxCells; omega
  refine loop_of (fun i => wqS own m P (wqBad P bad i) (wqLen P k i) (wqBs P k B i) (i : Nat)) m (by simp) ?_ fun j hj => ?_
  · exact rT_sem wqG_ok noLoopsS (rT_go wq_e ⟨by rw [decide_eq_false (by omega)]; rfl, trivial⟩)
  · have e1 := succ64 (j := j) (by omega)
    have h1 := wqLen_le P k (j + 1) (m - (j + 1))
    rw [show j + 1 + (m - (j + 1)) = m by omega] at h1
    have h2 : wqLen P k (j + 1) = wqLen P k j + 1 + 1 + 1 + 1 + 1 + 1 + 1 + 1 + 1 + 1 + 1 + 1 + 1 + 2 + (P j).s.size := rfl
    refine rT_sem wqG_ok noLoopsS ((rT_go (wq_go (own := own) (m := m) (P := P) (bad := wqBad P bad j) (k := wqLen P k j) (B := wqBs P k B j) (i := ((j : Nat) : Int))) ?_).trans ?_)
    · simp only [Int.toNat_natCast, Nat.zero_add]
      repeat' (first | exact AllT.nil | refine AllT.cons ?_ ?_)
      all_goals first | (with_reducible rfl) | exact decide_eq_true (by omega) | exact yes_of ⟨by omega, by first | rfl | trivial, by first | rfl | trivial⟩
    · simp only [Int.toNat_natCast, Nat.zero_add, e1]
      rfl
end
section
open Go Go.RowKit
def wqA (own : Bool) (m : Nat) (P : Nat → Opp) (bad : Bool) (k : Nat) (B : Nat → Int) : AHeap := [some ⟨168, true, .one [.sl 2 0 k, .v (.bool bad)]⟩, rowP own m P, rowU true k B]
def wq0 (own : Bool) (m : Nat) (P : Nat → Opp) (bad : Bool) (k : Nat) (B : Nat → Int) : St := wqS own m P (bad || !byOk (m : Nat)) (k + 1) (appB B k (IntKind.u8.wrap (m : Nat))) 0
def wqE (own : Bool) (m : Nat) (P : Nat → Opp) (bad : Bool) (k : Nat) (B : Nat → Int) (z : Int) : St := wqS own m P bad k B z
theorem wq_wt {own : Bool} {m : Nat} {P : Nat → Opp} {k : Nat} {B : Nat → Int} {b2 : Bool} {k2 : Nat} {B2 : Nat → Int} {z : Int} : (lfun wqG (tell (bodyOf Try.f141 0) (wq0 own m P true k B) (.exit 0, wqE own m P b2 k2 B2 z)) 60 Try.f141 [.c (.ptr 0 0 0), .c (.sl 1 0 m)] (wqA own m P true k B)).go [] =
  some
    ([true, true, true, true,
        yes (k + 1 ≤ maxCells ∧ k = k ∧ (fun j => ub (B j)) = fun j => ub (ud (ub (B j)))), yes (wasS (bodyOf Try.f141 0) (wq0 own m P true k B))],
      AV.tup [],
      [some { t := 168, own := true, c := Cont.one [AC.sl 3 0 k2, AC.v (Value.bool b2)] },
        some
          { t := 121, own := own,
            c :=
              Cont.row 5 m fun j =>
                [Value.int IntKind.i64 (P j).k, Value.int IntKind.i64 (P j).i, Value.int IntKind.i64 (P j).a,
                  Value.int IntKind.i64 (P j).b, Value.string (P j).s] },
        none, some { t := 5, own := true, c := Cont.row 1 k2 fun j => [Value.int IntKind.u8 (B2 j)] }]) := by kernel_rfl
theorem wq_wf {own : Bool} {m : Nat} {P : Nat → Opp} {k : Nat} {B : Nat → Int} {b2 : Bool} {k2 : Nat} {B2 : Nat → Int} {z : Int} : (lfun wqG (tell (bodyOf Try.f141 0) (wq0 own m P (decide (((m : Nat) : Int) > 100)) k B) (.exit 0, wqE own m P b2 k2 B2 z)) 60 Try.f141 [.c (.ptr 0 0 0), .c (.sl 1 0 m)] (wqA own m P false k B)).go [false, false, false, false] =
  some
    ([true, true, true, true,
        yes (k + 1 ≤ maxCells ∧ k = k ∧ (fun j => ub (B j)) = fun j => ub (ud (ub (B j)))), yes (wasS (bodyOf Try.f141 0) (wq0 own m P (decide (((m : Nat) : Int) > 100)) k B))],
      AV.tup [],
      [some { t := 168, own := true, c := Cont.one [AC.sl 3 0 k2, AC.v (Value.bool b2)] },
        some
          { t := 121, own := own,
            c :=
              Cont.row 5 m fun j =>
                [Value.int IntKind.i64 (P j).k, Value.int IntKind.i64 (P j).i, Value.int IntKind.i64 (P j).a,
                  Value.int IntKind.i64 (P j).b, Value.string (P j).s] },
        none, some { t := 5, own := true, c := Cont.row 1 k2 fun j => [Value.int IntKind.u8 (B2 j)] }]) := by kernel_rfl
def wqZ (m : Nat) (bad : Bool) : Bool := bad || decide (((m : Nat) : Int) > 100)
noncomputable def wqF : Spec := fun args h => match args, h with
  | [.c (.ptr 0 0 0), .c (.sl 1 0 m)], [some ⟨168, true, .one [.sl 2 0 k, .v (.bool bad)]⟩, some ⟨121, own, .row 5 m' g⟩, some ⟨5, true, .row 1 k' f⟩] =>
    .need (yes (m' = m ∧ k' = k ∧ (g = fun j => encO (decO (g j))) ∧ (f = fun j => ub (ud (f j))) ∧ wqLen (fun j => decO (g j)) (k + 1) m ≤ maxCells))
      (.ret (.tup [], [some ⟨168, true, .one [.sl 3 0 (wqLen (fun j => decO (g j)) (k + 1) m), .v (.bool (wqBad (fun j => decO (g j)) (wqZ m bad || !byOk (m : Nat)) m))]⟩, rowP own m (fun j => decO (g j)), none, rowU true (wqLen (fun j => decO (g j)) (k + 1) m) (wqBs (fun j => decO (g j)) (k + 1) (appB (fun j => ud (f j)) k (IntKind.u8.wrap (m : Nat))) m)]))
  | _, _ => .fail
theorem wqF_ok : SpecOk Try.prog 141 wqF := by
  refine knownS KWO_ok Try.func141 fun args h r he => ?_
  unfold wqF at he
  split at he
  · rename_i m k bad own m' g k' f
    obtain ⟨⟨h1, h2, h3, h4, h5⟩, he'⟩ := Tr.eval_ask.1 he
    subst h1
    subst h2
    cases he'
    have e1 : some ⟨5, true, .row 1 k' f⟩ = rowU true k' fun j => ud (f j) := by rw [rowU, ← h4]
    have e2 : some ⟨121, own, .row 5 m' g⟩ = rowP own m' fun j => decO (g j) := by rw [rowP, ← h3]
    rw [e1, e2]
    have h6 := wqLen_le (fun j => decO (g j)) (k' + 1) 0 m'
    rw [Nat.zero_add] at h6
    have h7 : wqLen (fun j => decO (g j)) (k' + 1) 0 = k' + 1 := rfl
    have hl := wq_loop (own := own) (m := m') (P := fun j => decO (g j)) (bad := wqZ m' bad || !byOk (m' : Nat)) (k := k' + 1) (B := appB (fun j => ud (f j)) k' (IntKind.u8.wrap (m' : Nat))) h5
    cases bad
    · exact ⟨_, [], 60, _, tell_ok hl, (Tr.go_eval wq_wf ⟨rfl, rfl, rfl, rfl, yes_of ⟨by omega, rfl, rfl⟩, yes_of ⟨rfl, rfl⟩, trivial⟩).trans rfl⟩
    · exact ⟨_, [], 60, _, tell_ok hl, (Tr.go_eval wq_wt ⟨rfl, rfl, rfl, rfl, yes_of ⟨by omega, rfl, rfl⟩, yes_of ⟨rfl, rfl⟩, trivial⟩).trans rfl⟩
  · cases he
end
section
open Go Go.RowKit
noncomputable def haG : Ctx2 := GT KWO (fun _ => []) 0 []
theorem haG_ok : XOk haG := GT_ok KWO_ok _ _ _
theorem ha_w {bad : Bool} {k : Nat} {B : Nat → Int} {a b : Int} : (lfun haG nol 60 Try.f142 [.c (.ptr 0 0 0), .agg [i64 a, i64 b]] [wrB bad k, rowU true k B]).go [] =
  some
    ([yes (k + 4 ≤ maxCells ∧ k = k ∧ (fun j => ub (B j)) = fun j => ub (ud (ub (B j)))),
        yes
          (k + 1 + 1 + 1 + 1 + 4 ≤ maxCells ∧
            k + 1 + 1 + 1 + 1 = k + 1 + 1 + 1 + 1 ∧
              (fun j => ub (fourB (fun j => ud (ub (B j))) k a j)) = fun j =>
                ub (ud (ub (fourB (fun j => ud (ub (B j))) k a j))))],
      AV.tup [],
      [some
          { t := 168, own := true,
            c :=
              Cont.one
                [AC.sl 2 0
                    (k + 1 + 1 + 1 + 1 + 1 + 1 + 1 + 1),
                  AC.v (Value.bool (bad || !fits a || !fits b))] },
        none,
        some
          { t := 5, own := true,
            c :=
              Cont.row 1
                (k + 1 + 1 + 1 + 1 + 1 + 1 + 1 + 1)
                fun j =>
                [Value.int IntKind.u8
                    (fourB (fun j => ud (ub (fourB (fun j => ud (ub (B j))) k a j)))
                      (k + 1 + 1 + 1 + 1) b j)] }]) := by kernel_rfl
def rdX (B : Nat → Int) (i n : Nat) : Int := bif ((n : Nat) : Int) == (0 : Int) then 0 else w64 (B i)
def rdI (i n : Nat) : Nat := bif ((n : Nat) : Int) == (0 : Int) then i else i + 1
theorem rb_eval {bad own : Bool} {i n m : Nat} {B : Nat → Int} (h : i + n ≤ m) : (lfun niG nol 60 Try.f162 [.c (.ptr 0 0 0)] [rdB bad i n, rowU own m B]).eval =
    some (I64 (rdX B i n), [some ⟨175, true, .one [.sl 1 (rdI i n) (n - 1), .v (.bool (bad || ((n : Nat) : Int) == (0 : Int)))]⟩, rowU own m B]) := by
  rw [rb_nf]
  unfold rdX rdI
  by_cases h0 : n = 0
  · subst h0
    cases bad <;> rfl
  · have e1 : (((n : Nat) : Int) == (0 : Int)) = false := by simp only [beq_eq_false_iff_ne]; omega
    have e2 : decide ((0 : Int) < ((n : Nat) : Int)) = true := decide_eq_true (by omega)
    have e3 : decide (i < m) = true := decide_eq_true (by omega)
    have e4 : decInt (1 : Int) ((n : Nat) : Int) n = true := by unfold decInt; simp only [Bool.and_eq_true, decide_eq_true_eq]; omega
    simp only [e1, e2, e3, e4, cond_true, cond_false, Bool.or_false]
    rfl
noncomputable def rbF : Spec := fun args h => match args, h with
  | [.c (.ptr 0 0 0)], [some ⟨175, true, .one [.sl 1 i n, .v (.bool bad)]⟩, some ⟨5, own, .row 1 m f⟩] =>
    .need (yes (i + n ≤ m ∧ f = fun j => ub (ud (f j)))) (.ret (I64 (rdX (fun j => ud (f j)) i n), [some ⟨175, true, .one [.sl 1 (rdI i n) (n - 1), .v (.bool (bad || ((n : Nat) : Int) == (0 : Int)))]⟩, rowU own m (fun j => ud (f j))]))
  | _, _ => .fail
theorem rbF_ok : SpecOk Try.prog 162 rbF := by
  refine knownS nilK Try.func162 fun args h r he => ?_
  unfold rbF at he
  split at he
  · rename_i i n bad own m f
    obtain ⟨⟨h1, h2⟩, he'⟩ := Tr.eval_ask.1 he
    cases he'
    have e1 : some ⟨5, own, .row 1 m f⟩ = rowU own m fun j => ud (f j) := by rw [rowU, ← h2]
    exact ⟨_, [], 60, nol, noLoopsS, by rw [e1]; exact rb_eval h1⟩
  · cases he
end
section
open Go Go.RowKit
noncomputable def haF : Spec := fun args h => match args, h with
  | [.c (.ptr 0 0 0), .agg [.v (.int .i64 a), .v (.int .i64 b)]], [some ⟨168, true, .one [.sl 1 0 k, .v (.bool bad)]⟩, some ⟨5, true, .row 1 k' f⟩] =>
    .need (yes (k + 8 ≤ maxCells ∧ k' = k ∧ f = fun j => ub (ud (f j)))) (.ret (.tup [], [some ⟨168, true, .one [.sl 2 0 (k + 1 + 1 + 1 + 1 + 1 + 1 + 1 + 1), .v (.bool (bad || !fits a || !fits b))]⟩, none, rowU true (k + 1 + 1 + 1 + 1 + 1 + 1 + 1 + 1) (fourB (fourB (fun j => ud (f j)) k a) (k + 1 + 1 + 1 + 1) b)]))
  | _, _ => .fail
theorem haF_ok : SpecOk Try.prog 142 haF := by
  refine knownS KWO_ok Try.func142 fun args h r he => ?_
  unfold haF at he
  split at he
  · rename_i a b k bad k' f
    obtain ⟨⟨h1, h2, h3⟩, he'⟩ := Tr.eval_ask.1 he
    subst h2
    cases he'
    have e1 : some ⟨5, true, .row 1 k' f⟩ = rowU true k' fun j => ud (f j) := by rw [rowU, ← h3]
    rw [e1]
    exact ⟨_, [], 60, nol, noLoopsS, (Tr.go_eval ha_w ⟨yes_of ⟨by omega, rfl, rfl⟩, yes_of ⟨by omega, rfl, rfl⟩, trivial⟩).trans rfl⟩
  · cases he
noncomputable def KRD : Known := [(162, rbF)]
theorem KRD_ok : KnownOk KRD := consK rbF_ok (by kernel_rfl) nilK
noncomputable def rnmG : Ctx2 := GK KRD (fun k => if k = 3 then [(0,none),(3,none),(4,none)] else []) 6
theorem rnm_nf {bad own : Bool} {i n m : Nat} {B : Nat → Int} : (afun rnmG 60 Try.f163 [.c (.ptr 0 0 0)] [rdB bad i n, rowU own m B]).eval = bif yes (i + n ≤ m ∧ (fun j => ub (B j)) = fun j => ub (ud (ub (B j)))) then bif yes (rdI i n + (n - 1) ≤ m ∧ (fun j => ub (ud (ub (B j)))) = fun j => ub (ud (ub (ud (ub (B j)))))) then bif yes (rdI (rdI i n) (n - 1) + (n - 1 - 1) ≤ m ∧ (fun j => ub (ud (ub (ud (ub (B j)))))) = fun j => ub (ud (ub (ud (ub (ud (ub (B j)))))))) then bif yes (rdI (rdI (rdI i n) (n - 1)) (n - 1 - 1) + (n - 1 - 1 - 1) ≤ m ∧ (fun j => ub (ud (ub (ud (ub (ud (ub (B j)))))))) = fun j => ub (ud (ub (ud (ub (ud (ub (ud (ub (B j)))))))))) then some (I64 (w64 (IntKind.i32.wrap (IntKind.u32.wrap (((BitVec.ofInt IntKind.u32.bits (IntKind.u32.wrap (IntKind.u32.wrap (((BitVec.ofInt IntKind.u32.bits (IntKind.u32.wrap (IntKind.u32.wrap (((BitVec.ofInt IntKind.u32.bits (IntKind.u32.wrap (IntKind.u32.wrap (((BitVec.ofInt IntKind.u32.bits (IntKind.u32.wrap ((0 : Int) * (2 : Int) ^ min 8 IntKind.u32.bits)) ||| BitVec.ofInt IntKind.u32.bits (IntKind.u32.wrap (rdX (fun j => ud (ub (B j))) i n))).toNat : Nat) : Int) * (2 : Int) ^ min 8 IntKind.u32.bits)) ||| BitVec.ofInt IntKind.u32.bits (IntKind.u32.wrap (rdX (fun j => ud (ub (ud (ub (B j))))) (rdI i n) (n - 1)))).toNat : Nat) : Int) * (2 : Int) ^ min 8 IntKind.u32.bits)) ||| BitVec.ofInt IntKind.u32.bits (IntKind.u32.wrap (rdX (fun j => ud (ub (ud (ub (ud (ub (B j))))))) (rdI (rdI i n) (n - 1)) (n - 1 - 1)))).toNat : Nat) : Int) * (2 : Int) ^ min 8 IntKind.u32.bits)) ||| BitVec.ofInt IntKind.u32.bits (IntKind.u32.wrap (rdX (fun j => ud (ub (ud (ub (ud (ub (ud (ub (B j))))))))) (rdI (rdI (rdI i n) (n - 1)) (n - 1 - 1)) (n - 1 - 1 - 1)))).toNat : Nat) : Int)))), [some ⟨175, true, .one [.sl 1 (rdI (rdI (rdI (rdI i n) (n - 1)) (n - 1 - 1)) (n - 1 - 1 - 1)) (n - 1 - 1 - 1 - 1), .v (.bool (bad || ((n : Nat) : Int) == (0 : Int) || ((n - 1 : Nat) : Int) == (0 : Int) || ((n - 1 - 1 : Nat) : Int) == (0 : Int) || ((n - 1 - 1 - 1 : Nat) : Int) == (0 : Int)))]⟩, some ⟨5, own, .row 1 m fun j => [.int .u8 (ud (ub (ud (ub (ud (ub (ud (ub (B j)))))))))]⟩]) else none else none else none else none := by kernel_rfl
end
end Go.Proofs.Ytcpahifgdppkbaa.QAI
