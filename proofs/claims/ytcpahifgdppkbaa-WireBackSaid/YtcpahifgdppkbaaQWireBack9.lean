/- Ops of numbers: a declaration's text has at most a hundred bytes; One's spec. -/
import Derived.Test.YtcpahifgdppkbaaQWireBack8
set_option linter.unusedVariables false
set_option linter.unusedSimpArgs false
set_option maxRecDepth 100000
namespace Go.Proofs.Ytcpahifgdppkbaa.QAI
section
open Go Go.RowKit
set_option maxHeartbeats 4000000
def Sm (k : Nat) (s : ByteArray) : Prop := s.size ≤ k
theorem sm_app {a b : Nat} {A B : ByteArray} (h1 : Sm a A) (h2 : Sm b B) : Sm (a + b) (A ++ B) := by
  unfold Sm at *; rw [ByteArray.size_append]; omega
theorem sm_le {a b : Nat} {A : ByteArray} (h : Sm a A) (hb : a ≤ b) : Sm b A := Nat.le_trans h hb
theorem sm_lit {s : ByteArray} (h : s.size ≤ 24) : Sm 24 s := h
theorem sm_max {a b : Nat} {A B : ByteArray} (h1 : Sm a A) (h2 : Sm b B) (h : a + b ≤ 100000) : decide (((A.size + B.size : Nat) : Int) ≤ IntKind.i64.max) = true := by
  have e : IntKind.i64.max = 9223372036854775807 := rfl
  unfold Sm at *; rw [e]; exact decide_eq_true (by omega)
theorem sm_n {k i : Nat} : Sm k (([] : List ByteArray).getD i eB) := Nat.zero_le _
theorem sm_c {k i : Nat} {s : ByteArray} {l : List ByteArray} (h : Sm k s) (h2 : ∀ j, Sm k (l.getD j eB)) : Sm k ((s :: l).getD i eB) := by
  cases i with
  | zero => exact h
  | succ j => exact h2 j
theorem sm_t {k : Nat} : ∀ (l : List ByteArray), l.all (fun s => decide (s.size ≤ k)) = true → ∀ i, Sm k (l.getD i eB)
  | [], _, i => sm_n
  | s :: l, h, i => by
    simp only [List.all_cons, Bool.and_eq_true, decide_eq_true_eq] at h
    exact sm_c h.1 (sm_t l h.2)
theorem sm_nmS (i : Nat) : Sm 24 (nmS.getD i eB) := sm_t nmS (by decide) i
theorem sm_oT0 (i : Nat) : Sm 24 (oT0.getD i eB) := sm_t oT0 (by decide) i
theorem sm_oT1 (i : Nat) : Sm 24 (oT1.getD i eB) := sm_t oT1 (by decide) i
theorem sm_oT2 (i : Nat) : Sm 24 (oT2.getD i eB) := sm_t oT2 (by decide) i
theorem sm_oT3 (i : Nat) : Sm 24 (oT3.getD i eB) := sm_t oT3 (by decide) i
theorem sm_oT4 (i : Nat) : Sm 24 (oT4.getD i eB) := sm_t oT4 (by decide) i
theorem sm_oT5 (i : Nat) : Sm 24 (oT5.getD i eB) := sm_t oT5 (by decide) i
theorem sm_oT6 (i : Nat) : Sm 24 (oT6.getD i eB) := sm_t oT6 (by decide) i
theorem sm_oT7 (i : Nat) : Sm 24 (oT7.getD i eB) := sm_t oT7 (by decide) i
theorem sm_oT8 (i : Nat) : Sm 24 (oT8.getD i eB) := sm_t oT8 (by decide) i
theorem sm_oT9 (i : Nat) : Sm 24 (oT9.getD i eB) := sm_t oT9 (by decide) i
theorem sm_oT10 (i : Nat) : Sm 24 (oT10.getD i eB) := sm_t oT10 (by decide) i
theorem sm_oT11 (i : Nat) : Sm 24 (oT11.getD i eB) := sm_t oT11 (by decide) i
theorem sm_oT12 (i : Nat) : Sm 24 (oT12.getD i eB) := sm_t oT12 (by decide) i
theorem sm_oT13 (i : Nat) : Sm 24 (oT13.getD i eB) := sm_t oT13 (by decide) i
theorem sm_oT14 (i : Nat) : Sm 24 (oT14.getD i eB) := sm_t oT14 (by decide) i
theorem m7 (a : Int) : 0 ≤ and64 a 7 ∧ and64 a 7 < 8 := by rw [and_mask 3 (by decide) a 7 rfl]; omega
theorem m3 (a : Int) : 0 ≤ and64 a 3 ∧ and64 a 3 < 4 := by rw [and_mask 2 (by decide) a 3 rfl]; omega
theorem m1 (a : Int) : 0 ≤ and64 a 1 ∧ and64 a 1 < 2 := by rw [and_mask 1 (by decide) a 1 rfl]; omega
theorem m255 (a : Int) : 0 ≤ and64 a 255 ∧ and64 a 255 < 256 := by rw [and_mask 8 (by decide) a 255 rfl]; omega
theorem tm (a m : Int) (h : 0 ≤ a) (hm : 0 < m) : 0 ≤ a.tmod m ∧ a.tmod m < m := ⟨Int.tmod_nonneg m h, Int.tmod_lt_of_pos a hm⟩
theorem mP (n : Int) : 1 ≤ w64 ((and64 n 255).tmod 33 + 1) ∧ w64 ((and64 n 255).tmod 33 + 1) ≤ 33 := by
  have h := tm (and64 n 255) 33 (m255 n).1 (by decide)
  rw [w64_id (by omega) (by omega)]; omega
theorem k7a (a : Int) : decide ((0 : Int) ≤ and64 a (7 : Int)) = true := by have := m7 a; exact decide_eq_true (by omega)
theorem k7b (a : Int) : decide (and64 a (7 : Int) < ((8 : Nat) : Int)) = true := by have := m7 a; exact decide_eq_true (by omega)
theorem k7c (a : Int) : decide (0 + (and64 a (7 : Int)).toNat < 8) = true := by have := m7 a; exact decide_eq_true (by omega)
theorem k3a (a : Int) : decide ((0 : Int) ≤ and64 a (3 : Int)) = true := by have := m3 a; exact decide_eq_true (by omega)
theorem k3b (a : Int) : decide (and64 a (3 : Int) < ((4 : Nat) : Int)) = true := by have := m3 a; exact decide_eq_true (by omega)
theorem k3c (a : Int) : decide (0 + (and64 a (3 : Int)).toNat < 4) = true := by have := m3 a; exact decide_eq_true (by omega)
theorem k1a (a : Int) : decide ((0 : Int) ≤ and64 a (1 : Int)) = true := by have := m1 a; exact decide_eq_true (by omega)
theorem k1b (a : Int) : decide (and64 a (1 : Int) < ((2 : Nat) : Int)) = true := by have := m1 a; exact decide_eq_true (by omega)
theorem k1c (a : Int) : decide (0 + (and64 a (1 : Int)).toNat < 2) = true := by have := m1 a; exact decide_eq_true (by omega)
theorem t3a (a : Int) : decide ((0 : Int) ≤ (and64 a (255 : Int)).tmod (3 : Int)) = true := by have := tm (and64 a 255) 3 (m255 a).1 (by decide); exact decide_eq_true (by omega)
theorem t3b (a : Int) : decide ((and64 a (255 : Int)).tmod (3 : Int) < ((3 : Nat) : Int)) = true := by have := tm (and64 a 255) 3 (m255 a).1 (by decide); exact decide_eq_true (by omega)
theorem t3c (a : Int) : decide (0 + ((and64 a (255 : Int)).tmod (3 : Int)).toNat < 3) = true := by have := tm (and64 a 255) 3 (m255 a).1 (by decide); exact decide_eq_true (by omega)
theorem t5a (a : Int) : decide ((0 : Int) ≤ (and64 a (255 : Int)).tmod (5 : Int)) = true := by have := tm (and64 a 255) 5 (m255 a).1 (by decide); exact decide_eq_true (by omega)
theorem t5b (a : Int) : decide ((and64 a (255 : Int)).tmod (5 : Int) < ((5 : Nat) : Int)) = true := by have := tm (and64 a 255) 5 (m255 a).1 (by decide); exact decide_eq_true (by omega)
theorem t5c (a : Int) : decide (0 + ((and64 a (255 : Int)).tmod (5 : Int)).toNat < 5) = true := by have := tm (and64 a 255) 5 (m255 a).1 (by decide); exact decide_eq_true (by omega)
class Tru (b : Bool) : Prop where
  tru : b = true
instance ik7a (a : Int) : Tru (decide ((0 : Int) ≤ and64 a (7 : Int))) := ⟨k7a a⟩
instance ik7b (a : Int) : Tru (decide (and64 a (7 : Int) < ((8 : Nat) : Int))) := ⟨k7b a⟩
instance ik7c (a : Int) : Tru (decide (0 + (and64 a (7 : Int)).toNat < 8)) := ⟨k7c a⟩
instance ik3a (a : Int) : Tru (decide ((0 : Int) ≤ and64 a (3 : Int))) := ⟨k3a a⟩
instance ik3b (a : Int) : Tru (decide (and64 a (3 : Int) < ((4 : Nat) : Int))) := ⟨k3b a⟩
instance ik3c (a : Int) : Tru (decide (0 + (and64 a (3 : Int)).toNat < 4)) := ⟨k3c a⟩
instance ik1a (a : Int) : Tru (decide ((0 : Int) ≤ and64 a (1 : Int))) := ⟨k1a a⟩
instance ik1b (a : Int) : Tru (decide (and64 a (1 : Int) < ((2 : Nat) : Int))) := ⟨k1b a⟩
instance ik1c (a : Int) : Tru (decide (0 + (and64 a (1 : Int)).toNat < 2)) := ⟨k1c a⟩
instance it3a (a : Int) : Tru (decide ((0 : Int) ≤ (and64 a (255 : Int)).tmod (3 : Int))) := ⟨t3a a⟩
instance it3b (a : Int) : Tru (decide ((and64 a (255 : Int)).tmod (3 : Int) < ((3 : Nat) : Int))) := ⟨t3b a⟩
instance it3c (a : Int) : Tru (decide (0 + ((and64 a (255 : Int)).tmod (3 : Int)).toNat < 3)) := ⟨t3c a⟩
instance it5a (a : Int) : Tru (decide ((0 : Int) ≤ (and64 a (255 : Int)).tmod (5 : Int))) := ⟨t5a a⟩
instance it5b (a : Int) : Tru (decide ((and64 a (255 : Int)).tmod (5 : Int) < ((5 : Nat) : Int))) := ⟨t5b a⟩
instance it5c (a : Int) : Tru (decide (0 + ((and64 a (255 : Int)).tmod (5 : Int)).toNat < 5)) := ⟨t5c a⟩
class IsSm (k : outParam Nat) (s : ByteArray) : Prop where
  sm : Sm k s
class IsSmL (k : outParam Nat) (l : List ByteArray) : Prop where
  sm : ∀ j, Sm k (l.getD j eB)
instance (priority := 1) iS0 (s : ByteArray) : IsSm s.size s := ⟨Nat.le_refl _⟩
instance iSL0 : IsSmL 0 [] := ⟨fun _ => sm_n⟩
instance iSL1 {a b : Nat} {s : ByteArray} {l : List ByteArray} [h1 : IsSm a s] [h2 : IsSmL b l] : IsSmL (max a b) (s :: l) := ⟨fun _ => sm_c (sm_le h1.sm (Nat.le_max_left _ _)) fun j => sm_le (h2.sm j) (Nat.le_max_right _ _)⟩
instance iS1 {k i : Nat} {l : List ByteArray} [h : IsSmL k l] : IsSm k (l.getD i eB) := ⟨h.sm i⟩
instance iS2 {a b : Nat} {A B : ByteArray} [h1 : IsSm a A] [h2 : IsSm b B] : IsSm (a + b) (A ++ B) := ⟨sm_app h1.sm h2.sm⟩
instance inmS : IsSmL 24 nmS := ⟨sm_nmS⟩
instance ioT0 : IsSmL 24 oT0 := ⟨sm_oT0⟩
instance ioT1 : IsSmL 24 oT1 := ⟨sm_oT1⟩
instance ioT2 : IsSmL 24 oT2 := ⟨sm_oT2⟩
instance ioT3 : IsSmL 24 oT3 := ⟨sm_oT3⟩
instance ioT4 : IsSmL 24 oT4 := ⟨sm_oT4⟩
instance ioT5 : IsSmL 24 oT5 := ⟨sm_oT5⟩
instance ioT6 : IsSmL 24 oT6 := ⟨sm_oT6⟩
instance ioT7 : IsSmL 24 oT7 := ⟨sm_oT7⟩
instance ioT8 : IsSmL 24 oT8 := ⟨sm_oT8⟩
instance ioT9 : IsSmL 24 oT9 := ⟨sm_oT9⟩
instance ioT10 : IsSmL 24 oT10 := ⟨sm_oT10⟩
instance ioT11 : IsSmL 24 oT11 := ⟨sm_oT11⟩
instance ioT12 : IsSmL 24 oT12 := ⟨sm_oT12⟩
instance ioT13 : IsSmL 24 oT13 := ⟨sm_oT13⟩
instance ioT14 : IsSmL 24 oT14 := ⟨sm_oT14⟩
def OnRes (n : Int) (s : ByteArray) : Prop := Sm 100 s ∧ (lfun onG nol 60 Try.f167 [I64 n] []).eval = some (StrA s, [])
theorem one_1 {n : Int} (hP : oP n = 1) : ∃ s, OnRes n s := by
  cases ht : (and64 (oS n 24) 31 == (7 : Int))
  · have ht' : (!(and64 (oS n 24) 31 == (7 : Int))) = true := by rw [ht]; rfl
    refine ⟨_, ?_, (Tr.go_eval on_af ?_).trans rfl⟩
    · exact sm_le IsSm.sm (by decide)
    · (repeat' (first | exact AllT.nil | refine AllT.cons ?_ ?_)); all_goals first | (with_reducible rfl) | (with_reducible assumption) | exact Tru.tru | (rw [hP]; rfl) | exact sm_max IsSm.sm IsSm.sm (by decide)
  · refine ⟨_, ?_, (Tr.go_eval on_at ?_).trans rfl⟩
    · exact sm_le IsSm.sm (by decide)
    · (repeat' (first | exact AllT.nil | refine AllT.cons ?_ ?_)); all_goals first | (with_reducible rfl) | (with_reducible assumption) | exact Tru.tru | (rw [hP]; rfl) | exact sm_max IsSm.sm IsSm.sm (by decide)
theorem one_2 {n : Int} (hP : oP n = 2) : ∃ s, OnRes n s := by
  cases ht : (and64 (oS n 24) 31 == (7 : Int))
  · have ht' : (!(and64 (oS n 24) 31 == (7 : Int))) = true := by rw [ht]; rfl
    refine ⟨_, ?_, (Tr.go_eval on_bf ?_).trans rfl⟩
    · exact sm_le IsSm.sm (by decide)
    · (repeat' (first | exact AllT.nil | refine AllT.cons ?_ ?_)); all_goals first | (with_reducible rfl) | (with_reducible assumption) | exact Tru.tru | (rw [hP]; rfl) | exact sm_max IsSm.sm IsSm.sm (by decide)
  · refine ⟨_, ?_, (Tr.go_eval on_bt ?_).trans rfl⟩
    · exact sm_le IsSm.sm (by decide)
    · (repeat' (first | exact AllT.nil | refine AllT.cons ?_ ?_)); all_goals first | (with_reducible rfl) | (with_reducible assumption) | exact Tru.tru | (rw [hP]; rfl) | exact sm_max IsSm.sm IsSm.sm (by decide)
theorem one_3 {n : Int} (hP : oP n = 3) : ∃ s, OnRes n s := by
  cases ht : (and64 (oS n 24) 31 == (7 : Int))
  · have ht' : (!(and64 (oS n 24) 31 == (7 : Int))) = true := by rw [ht]; rfl
    refine ⟨_, ?_, (Tr.go_eval on_bf ?_).trans rfl⟩
    · exact sm_le IsSm.sm (by decide)
    · (repeat' (first | exact AllT.nil | refine AllT.cons ?_ ?_)); all_goals first | (with_reducible rfl) | (with_reducible assumption) | exact Tru.tru | (rw [hP]; rfl) | exact sm_max IsSm.sm IsSm.sm (by decide)
  · refine ⟨_, ?_, (Tr.go_eval on_bt ?_).trans rfl⟩
    · exact sm_le IsSm.sm (by decide)
    · (repeat' (first | exact AllT.nil | refine AllT.cons ?_ ?_)); all_goals first | (with_reducible rfl) | (with_reducible assumption) | exact Tru.tru | (rw [hP]; rfl) | exact sm_max IsSm.sm IsSm.sm (by decide)
theorem one_4 {n : Int} (hP : oP n = 4) : ∃ s, OnRes n s := by
  cases ht : (and64 (oS n 24) 31 == (7 : Int))
  · have ht' : (!(and64 (oS n 24) 31 == (7 : Int))) = true := by rw [ht]; rfl
    refine ⟨_, ?_, (Tr.go_eval on_bf ?_).trans rfl⟩
    · exact sm_le IsSm.sm (by decide)
    · (repeat' (first | exact AllT.nil | refine AllT.cons ?_ ?_)); all_goals first | (with_reducible rfl) | (with_reducible assumption) | exact Tru.tru | (rw [hP]; rfl) | exact sm_max IsSm.sm IsSm.sm (by decide)
  · refine ⟨_, ?_, (Tr.go_eval on_bt ?_).trans rfl⟩
    · exact sm_le IsSm.sm (by decide)
    · (repeat' (first | exact AllT.nil | refine AllT.cons ?_ ?_)); all_goals first | (with_reducible rfl) | (with_reducible assumption) | exact Tru.tru | (rw [hP]; rfl) | exact sm_max IsSm.sm IsSm.sm (by decide)
theorem one_5 {n : Int} (hP : oP n = 5) : ∃ s, OnRes n s := by
  cases ht : (and64 (oS n 24) 31 == (7 : Int))
  · have ht' : (!(and64 (oS n 24) 31 == (7 : Int))) = true := by rw [ht]; rfl
    refine ⟨_, ?_, (Tr.go_eval on_bf ?_).trans rfl⟩
    · exact sm_le IsSm.sm (by decide)
    · (repeat' (first | exact AllT.nil | refine AllT.cons ?_ ?_)); all_goals first | (with_reducible rfl) | (with_reducible assumption) | exact Tru.tru | (rw [hP]; rfl) | exact sm_max IsSm.sm IsSm.sm (by decide)
  · refine ⟨_, ?_, (Tr.go_eval on_bt ?_).trans rfl⟩
    · exact sm_le IsSm.sm (by decide)
    · (repeat' (first | exact AllT.nil | refine AllT.cons ?_ ?_)); all_goals first | (with_reducible rfl) | (with_reducible assumption) | exact Tru.tru | (rw [hP]; rfl) | exact sm_max IsSm.sm IsSm.sm (by decide)
theorem one_6 {n : Int} (hP : oP n = 6) : ∃ s, OnRes n s := by
  cases ht : (and64 (oS n 24) 31 == (7 : Int))
  · have ht' : (!(and64 (oS n 24) 31 == (7 : Int))) = true := by rw [ht]; rfl
    refine ⟨_, ?_, (Tr.go_eval on_bf ?_).trans rfl⟩
    · exact sm_le IsSm.sm (by decide)
    · (repeat' (first | exact AllT.nil | refine AllT.cons ?_ ?_)); all_goals first | (with_reducible rfl) | (with_reducible assumption) | exact Tru.tru | (rw [hP]; rfl) | exact sm_max IsSm.sm IsSm.sm (by decide)
  · refine ⟨_, ?_, (Tr.go_eval on_bt ?_).trans rfl⟩
    · exact sm_le IsSm.sm (by decide)
    · (repeat' (first | exact AllT.nil | refine AllT.cons ?_ ?_)); all_goals first | (with_reducible rfl) | (with_reducible assumption) | exact Tru.tru | (rw [hP]; rfl) | exact sm_max IsSm.sm IsSm.sm (by decide)
theorem one_7 {n : Int} (hP : oP n = 7) : ∃ s, OnRes n s := by
  cases ht : (and64 (oS n 24) 31 == (7 : Int))
  · have ht' : (!(and64 (oS n 24) 31 == (7 : Int))) = true := by rw [ht]; rfl
    refine ⟨_, ?_, (Tr.go_eval on_bf ?_).trans rfl⟩
    · exact sm_le IsSm.sm (by decide)
    · (repeat' (first | exact AllT.nil | refine AllT.cons ?_ ?_)); all_goals first | (with_reducible rfl) | (with_reducible assumption) | exact Tru.tru | (rw [hP]; rfl) | exact sm_max IsSm.sm IsSm.sm (by decide)
  · refine ⟨_, ?_, (Tr.go_eval on_bt ?_).trans rfl⟩
    · exact sm_le IsSm.sm (by decide)
    · (repeat' (first | exact AllT.nil | refine AllT.cons ?_ ?_)); all_goals first | (with_reducible rfl) | (with_reducible assumption) | exact Tru.tru | (rw [hP]; rfl) | exact sm_max IsSm.sm IsSm.sm (by decide)
theorem one_8 {n : Int} (hP : oP n = 8) : ∃ s, OnRes n s := by
  cases ht : (and64 (oS n 24) 31 == (7 : Int))
  · have ht' : (!(and64 (oS n 24) 31 == (7 : Int))) = true := by rw [ht]; rfl
    refine ⟨_, ?_, (Tr.go_eval on_cf ?_).trans rfl⟩
    · exact sm_le IsSm.sm (by decide)
    · (repeat' (first | exact AllT.nil | refine AllT.cons ?_ ?_)); all_goals first | (with_reducible rfl) | (with_reducible assumption) | exact Tru.tru | (rw [hP]; rfl) | exact sm_max IsSm.sm IsSm.sm (by decide)
  · refine ⟨_, ?_, (Tr.go_eval on_ct ?_).trans rfl⟩
    · exact sm_le IsSm.sm (by decide)
    · (repeat' (first | exact AllT.nil | refine AllT.cons ?_ ?_)); all_goals first | (with_reducible rfl) | (with_reducible assumption) | exact Tru.tru | (rw [hP]; rfl) | exact sm_max IsSm.sm IsSm.sm (by decide)
theorem one_9 {n : Int} (hP : oP n = 9) : ∃ s, OnRes n s := by
  cases ht : (and64 (oS n 24) 31 == (7 : Int))
  · have ht' : (!(and64 (oS n 24) 31 == (7 : Int))) = true := by rw [ht]; rfl
    refine ⟨_, ?_, (Tr.go_eval on_cf ?_).trans rfl⟩
    · exact sm_le IsSm.sm (by decide)
    · (repeat' (first | exact AllT.nil | refine AllT.cons ?_ ?_)); all_goals first | (with_reducible rfl) | (with_reducible assumption) | exact Tru.tru | (rw [hP]; rfl) | exact sm_max IsSm.sm IsSm.sm (by decide)
  · refine ⟨_, ?_, (Tr.go_eval on_ct ?_).trans rfl⟩
    · exact sm_le IsSm.sm (by decide)
    · (repeat' (first | exact AllT.nil | refine AllT.cons ?_ ?_)); all_goals first | (with_reducible rfl) | (with_reducible assumption) | exact Tru.tru | (rw [hP]; rfl) | exact sm_max IsSm.sm IsSm.sm (by decide)
theorem one_10 {n : Int} (hP : oP n = 10) : ∃ s, OnRes n s := by
  cases ht : (and64 (oS n 24) 31 == (7 : Int))
  · have ht' : (!(and64 (oS n 24) 31 == (7 : Int))) = true := by rw [ht]; rfl
    refine ⟨_, ?_, (Tr.go_eval on_cf ?_).trans rfl⟩
    · exact sm_le IsSm.sm (by decide)
    · (repeat' (first | exact AllT.nil | refine AllT.cons ?_ ?_)); all_goals first | (with_reducible rfl) | (with_reducible assumption) | exact Tru.tru | (rw [hP]; rfl) | exact sm_max IsSm.sm IsSm.sm (by decide)
  · refine ⟨_, ?_, (Tr.go_eval on_ct ?_).trans rfl⟩
    · exact sm_le IsSm.sm (by decide)
    · (repeat' (first | exact AllT.nil | refine AllT.cons ?_ ?_)); all_goals first | (with_reducible rfl) | (with_reducible assumption) | exact Tru.tru | (rw [hP]; rfl) | exact sm_max IsSm.sm IsSm.sm (by decide)
theorem one_11 {n : Int} (hP : oP n = 11) : ∃ s, OnRes n s := by
  cases ht : (and64 (oS n 24) 31 == (7 : Int))
  · have ht' : (!(and64 (oS n 24) 31 == (7 : Int))) = true := by rw [ht]; rfl
    refine ⟨_, ?_, (Tr.go_eval on_cf ?_).trans rfl⟩
    · exact sm_le IsSm.sm (by decide)
    · (repeat' (first | exact AllT.nil | refine AllT.cons ?_ ?_)); all_goals first | (with_reducible rfl) | (with_reducible assumption) | exact Tru.tru | (rw [hP]; rfl) | exact sm_max IsSm.sm IsSm.sm (by decide)
  · refine ⟨_, ?_, (Tr.go_eval on_ct ?_).trans rfl⟩
    · exact sm_le IsSm.sm (by decide)
    · (repeat' (first | exact AllT.nil | refine AllT.cons ?_ ?_)); all_goals first | (with_reducible rfl) | (with_reducible assumption) | exact Tru.tru | (rw [hP]; rfl) | exact sm_max IsSm.sm IsSm.sm (by decide)
theorem one_12 {n : Int} (hP : oP n = 12) : ∃ s, OnRes n s := by
  cases ht : (and64 (oS n 24) 31 == (7 : Int))
  · have ht' : (!(and64 (oS n 24) 31 == (7 : Int))) = true := by rw [ht]; rfl
    refine ⟨_, ?_, (Tr.go_eval on_df ?_).trans rfl⟩
    · exact sm_le IsSm.sm (by decide)
    · (repeat' (first | exact AllT.nil | refine AllT.cons ?_ ?_)); all_goals first | (with_reducible rfl) | (with_reducible assumption) | exact Tru.tru | (rw [hP]; rfl) | exact sm_max IsSm.sm IsSm.sm (by decide)
  · refine ⟨_, ?_, (Tr.go_eval on_dt ?_).trans rfl⟩
    · exact sm_le IsSm.sm (by decide)
    · (repeat' (first | exact AllT.nil | refine AllT.cons ?_ ?_)); all_goals first | (with_reducible rfl) | (with_reducible assumption) | exact Tru.tru | (rw [hP]; rfl) | exact sm_max IsSm.sm IsSm.sm (by decide)
theorem one_13 {n : Int} (hP : oP n = 13) : ∃ s, OnRes n s := by
  cases ht : (and64 (oS n 24) 31 == (7 : Int))
  · have ht' : (!(and64 (oS n 24) 31 == (7 : Int))) = true := by rw [ht]; rfl
    refine ⟨_, ?_, (Tr.go_eval on_df ?_).trans rfl⟩
    · exact sm_le IsSm.sm (by decide)
    · (repeat' (first | exact AllT.nil | refine AllT.cons ?_ ?_)); all_goals first | (with_reducible rfl) | (with_reducible assumption) | exact Tru.tru | (rw [hP]; rfl) | exact sm_max IsSm.sm IsSm.sm (by decide)
  · refine ⟨_, ?_, (Tr.go_eval on_dt ?_).trans rfl⟩
    · exact sm_le IsSm.sm (by decide)
    · (repeat' (first | exact AllT.nil | refine AllT.cons ?_ ?_)); all_goals first | (with_reducible rfl) | (with_reducible assumption) | exact Tru.tru | (rw [hP]; rfl) | exact sm_max IsSm.sm IsSm.sm (by decide)
theorem one_14 {n : Int} (hP : oP n = 14) : ∃ s, OnRes n s := by
  cases ht : (and64 (oS n 24) 31 == (7 : Int))
  · have ht' : (!(and64 (oS n 24) 31 == (7 : Int))) = true := by rw [ht]; rfl
    refine ⟨_, ?_, (Tr.go_eval on_df ?_).trans rfl⟩
    · exact sm_le IsSm.sm (by decide)
    · (repeat' (first | exact AllT.nil | refine AllT.cons ?_ ?_)); all_goals first | (with_reducible rfl) | (with_reducible assumption) | exact Tru.tru | (rw [hP]; rfl) | exact sm_max IsSm.sm IsSm.sm (by decide)
  · refine ⟨_, ?_, (Tr.go_eval on_dt ?_).trans rfl⟩
    · exact sm_le IsSm.sm (by decide)
    · (repeat' (first | exact AllT.nil | refine AllT.cons ?_ ?_)); all_goals first | (with_reducible rfl) | (with_reducible assumption) | exact Tru.tru | (rw [hP]; rfl) | exact sm_max IsSm.sm IsSm.sm (by decide)
theorem one_15 {n : Int} (hP : oP n = 15) : ∃ s, OnRes n s := by
  cases ht : (and64 (oS n 24) 31 == (7 : Int))
  · have ht' : (!(and64 (oS n 24) 31 == (7 : Int))) = true := by rw [ht]; rfl
    refine ⟨_, ?_, (Tr.go_eval on_df ?_).trans rfl⟩
    · exact sm_le IsSm.sm (by decide)
    · (repeat' (first | exact AllT.nil | refine AllT.cons ?_ ?_)); all_goals first | (with_reducible rfl) | (with_reducible assumption) | exact Tru.tru | (rw [hP]; rfl) | exact sm_max IsSm.sm IsSm.sm (by decide)
  · refine ⟨_, ?_, (Tr.go_eval on_dt ?_).trans rfl⟩
    · exact sm_le IsSm.sm (by decide)
    · (repeat' (first | exact AllT.nil | refine AllT.cons ?_ ?_)); all_goals first | (with_reducible rfl) | (with_reducible assumption) | exact Tru.tru | (rw [hP]; rfl) | exact sm_max IsSm.sm IsSm.sm (by decide)
theorem one_16 {n : Int} (hP : oP n = 16) : ∃ s, OnRes n s := by
  cases ht : (and64 (oS n 24) 31 == (7 : Int))
  · have ht' : (!(and64 (oS n 24) 31 == (7 : Int))) = true := by rw [ht]; rfl
    refine ⟨_, ?_, (Tr.go_eval on_df ?_).trans rfl⟩
    · exact sm_le IsSm.sm (by decide)
    · (repeat' (first | exact AllT.nil | refine AllT.cons ?_ ?_)); all_goals first | (with_reducible rfl) | (with_reducible assumption) | exact Tru.tru | (rw [hP]; rfl) | exact sm_max IsSm.sm IsSm.sm (by decide)
  · refine ⟨_, ?_, (Tr.go_eval on_dt ?_).trans rfl⟩
    · exact sm_le IsSm.sm (by decide)
    · (repeat' (first | exact AllT.nil | refine AllT.cons ?_ ?_)); all_goals first | (with_reducible rfl) | (with_reducible assumption) | exact Tru.tru | (rw [hP]; rfl) | exact sm_max IsSm.sm IsSm.sm (by decide)
theorem one_17 {n : Int} (hP : oP n = 17) : ∃ s, OnRes n s := by
  cases ht : (and64 (oS n 24) 31 == (7 : Int))
  · have ht' : (!(and64 (oS n 24) 31 == (7 : Int))) = true := by rw [ht]; rfl
    refine ⟨_, ?_, (Tr.go_eval on_df ?_).trans rfl⟩
    · exact sm_le IsSm.sm (by decide)
    · (repeat' (first | exact AllT.nil | refine AllT.cons ?_ ?_)); all_goals first | (with_reducible rfl) | (with_reducible assumption) | exact Tru.tru | (rw [hP]; rfl) | exact sm_max IsSm.sm IsSm.sm (by decide)
  · refine ⟨_, ?_, (Tr.go_eval on_dt ?_).trans rfl⟩
    · exact sm_le IsSm.sm (by decide)
    · (repeat' (first | exact AllT.nil | refine AllT.cons ?_ ?_)); all_goals first | (with_reducible rfl) | (with_reducible assumption) | exact Tru.tru | (rw [hP]; rfl) | exact sm_max IsSm.sm IsSm.sm (by decide)
theorem one_18 {n : Int} (hP : oP n = 18) : ∃ s, OnRes n s := by
  cases ht : (and64 (oS n 24) 31 == (7 : Int))
  · have ht' : (!(and64 (oS n 24) 31 == (7 : Int))) = true := by rw [ht]; rfl
    refine ⟨_, ?_, (Tr.go_eval on_df ?_).trans rfl⟩
    · exact sm_le IsSm.sm (by decide)
    · (repeat' (first | exact AllT.nil | refine AllT.cons ?_ ?_)); all_goals first | (with_reducible rfl) | (with_reducible assumption) | exact Tru.tru | (rw [hP]; rfl) | exact sm_max IsSm.sm IsSm.sm (by decide)
  · refine ⟨_, ?_, (Tr.go_eval on_dt ?_).trans rfl⟩
    · exact sm_le IsSm.sm (by decide)
    · (repeat' (first | exact AllT.nil | refine AllT.cons ?_ ?_)); all_goals first | (with_reducible rfl) | (with_reducible assumption) | exact Tru.tru | (rw [hP]; rfl) | exact sm_max IsSm.sm IsSm.sm (by decide)
theorem one_19 {n : Int} (hP : oP n = 19) : ∃ s, OnRes n s := by
  cases ht : (and64 (oS n 24) 31 == (7 : Int))
  · have ht' : (!(and64 (oS n 24) 31 == (7 : Int))) = true := by rw [ht]; rfl
    refine ⟨_, ?_, (Tr.go_eval on_df ?_).trans rfl⟩
    · exact sm_le IsSm.sm (by decide)
    · (repeat' (first | exact AllT.nil | refine AllT.cons ?_ ?_)); all_goals first | (with_reducible rfl) | (with_reducible assumption) | exact Tru.tru | (rw [hP]; rfl) | exact sm_max IsSm.sm IsSm.sm (by decide)
  · refine ⟨_, ?_, (Tr.go_eval on_dt ?_).trans rfl⟩
    · exact sm_le IsSm.sm (by decide)
    · (repeat' (first | exact AllT.nil | refine AllT.cons ?_ ?_)); all_goals first | (with_reducible rfl) | (with_reducible assumption) | exact Tru.tru | (rw [hP]; rfl) | exact sm_max IsSm.sm IsSm.sm (by decide)
theorem one_20 {n : Int} (hP : oP n = 20) : ∃ s, OnRes n s := by
  cases ht : (and64 (oS n 24) 31 == (7 : Int))
  · have ht' : (!(and64 (oS n 24) 31 == (7 : Int))) = true := by rw [ht]; rfl
    refine ⟨_, ?_, (Tr.go_eval on_f20f ?_).trans rfl⟩
    · exact sm_le IsSm.sm (by decide)
    · (repeat' (first | exact AllT.nil | refine AllT.cons ?_ ?_)); all_goals first | (with_reducible rfl) | (with_reducible assumption) | exact Tru.tru | (rw [hP]; rfl) | exact sm_max IsSm.sm IsSm.sm (by decide)
  · refine ⟨_, ?_, (Tr.go_eval on_f20t ?_).trans rfl⟩
    · exact sm_le IsSm.sm (by decide)
    · (repeat' (first | exact AllT.nil | refine AllT.cons ?_ ?_)); all_goals first | (with_reducible rfl) | (with_reducible assumption) | exact Tru.tru | (rw [hP]; rfl) | exact sm_max IsSm.sm IsSm.sm (by decide)
theorem one_21 {n : Int} (hP : oP n = 21) : ∃ s, OnRes n s := by
  cases ht : (and64 (oS n 24) 31 == (7 : Int))
  · have ht' : (!(and64 (oS n 24) 31 == (7 : Int))) = true := by rw [ht]; rfl
    refine ⟨_, ?_, (Tr.go_eval on_f21f ?_).trans rfl⟩
    · exact sm_le IsSm.sm (by decide)
    · (repeat' (first | exact AllT.nil | refine AllT.cons ?_ ?_)); all_goals first | (with_reducible rfl) | (with_reducible assumption) | exact Tru.tru | (rw [hP]; rfl) | exact sm_max IsSm.sm IsSm.sm (by decide)
  · refine ⟨_, ?_, (Tr.go_eval on_f21t ?_).trans rfl⟩
    · exact sm_le IsSm.sm (by decide)
    · (repeat' (first | exact AllT.nil | refine AllT.cons ?_ ?_)); all_goals first | (with_reducible rfl) | (with_reducible assumption) | exact Tru.tru | (rw [hP]; rfl) | exact sm_max IsSm.sm IsSm.sm (by decide)
theorem one_22 {n : Int} (hP : oP n = 22) : ∃ s, OnRes n s := by
  cases ht : (and64 (oS n 24) 31 == (7 : Int))
  · have ht' : (!(and64 (oS n 24) 31 == (7 : Int))) = true := by rw [ht]; rfl
    refine ⟨_, ?_, (Tr.go_eval on_gf ?_).trans rfl⟩
    · exact sm_le IsSm.sm (by decide)
    · (repeat' (first | exact AllT.nil | refine AllT.cons ?_ ?_)); all_goals first | (with_reducible rfl) | (with_reducible assumption) | exact Tru.tru | (rw [hP]; rfl) | exact sm_max IsSm.sm IsSm.sm (by decide)
  · refine ⟨_, ?_, (Tr.go_eval on_gt ?_).trans rfl⟩
    · exact sm_le IsSm.sm (by decide)
    · (repeat' (first | exact AllT.nil | refine AllT.cons ?_ ?_)); all_goals first | (with_reducible rfl) | (with_reducible assumption) | exact Tru.tru | (rw [hP]; rfl) | exact sm_max IsSm.sm IsSm.sm (by decide)
theorem one_23 {n : Int} (hP : oP n = 23) : ∃ s, OnRes n s := by
  cases ht : (and64 (oS n 24) 31 == (7 : Int))
  · have ht' : (!(and64 (oS n 24) 31 == (7 : Int))) = true := by rw [ht]; rfl
    refine ⟨_, ?_, (Tr.go_eval on_f23f ?_).trans rfl⟩
    · exact sm_le IsSm.sm (by decide)
    · (repeat' (first | exact AllT.nil | refine AllT.cons ?_ ?_)); all_goals first | (with_reducible rfl) | (with_reducible assumption) | exact Tru.tru | (rw [hP]; rfl) | exact sm_max IsSm.sm IsSm.sm (by decide)
  · refine ⟨_, ?_, (Tr.go_eval on_f23t ?_).trans rfl⟩
    · exact sm_le IsSm.sm (by decide)
    · (repeat' (first | exact AllT.nil | refine AllT.cons ?_ ?_)); all_goals first | (with_reducible rfl) | (with_reducible assumption) | exact Tru.tru | (rw [hP]; rfl) | exact sm_max IsSm.sm IsSm.sm (by decide)
theorem one_24 {n : Int} (hP : oP n = 24) : ∃ s, OnRes n s := by
  cases ht : (and64 (oS n 24) 31 == (7 : Int))
  · have ht' : (!(and64 (oS n 24) 31 == (7 : Int))) = true := by rw [ht]; rfl
    refine ⟨_, ?_, (Tr.go_eval on_f24f ?_).trans rfl⟩
    · exact sm_le IsSm.sm (by decide)
    · (repeat' (first | exact AllT.nil | refine AllT.cons ?_ ?_)); all_goals first | (with_reducible rfl) | (with_reducible assumption) | exact Tru.tru | (rw [hP]; rfl) | exact sm_max IsSm.sm IsSm.sm (by decide)
  · refine ⟨_, ?_, (Tr.go_eval on_f24t ?_).trans rfl⟩
    · exact sm_le IsSm.sm (by decide)
    · (repeat' (first | exact AllT.nil | refine AllT.cons ?_ ?_)); all_goals first | (with_reducible rfl) | (with_reducible assumption) | exact Tru.tru | (rw [hP]; rfl) | exact sm_max IsSm.sm IsSm.sm (by decide)
theorem one_25 {n : Int} (hP : oP n = 25) : ∃ s, OnRes n s := by
  cases ht : (and64 (oS n 24) 31 == (7 : Int))
  · have ht' : (!(and64 (oS n 24) 31 == (7 : Int))) = true := by rw [ht]; rfl
    refine ⟨_, ?_, (Tr.go_eval on_f25f ?_).trans rfl⟩
    · exact sm_le IsSm.sm (by decide)
    · (repeat' (first | exact AllT.nil | refine AllT.cons ?_ ?_)); all_goals first | (with_reducible rfl) | (with_reducible assumption) | exact Tru.tru | (rw [hP]; rfl) | exact sm_max IsSm.sm IsSm.sm (by decide)
  · refine ⟨_, ?_, (Tr.go_eval on_f25t ?_).trans rfl⟩
    · exact sm_le IsSm.sm (by decide)
    · (repeat' (first | exact AllT.nil | refine AllT.cons ?_ ?_)); all_goals first | (with_reducible rfl) | (with_reducible assumption) | exact Tru.tru | (rw [hP]; rfl) | exact sm_max IsSm.sm IsSm.sm (by decide)
theorem one_26 {n : Int} (hP : oP n = 26) : ∃ s, OnRes n s := by
  cases ht : (and64 (oS n 24) 31 == (7 : Int))
  · have ht' : (!(and64 (oS n 24) 31 == (7 : Int))) = true := by rw [ht]; rfl
    refine ⟨_, ?_, (Tr.go_eval on_f26f ?_).trans rfl⟩
    · exact sm_le IsSm.sm (by decide)
    · (repeat' (first | exact AllT.nil | refine AllT.cons ?_ ?_)); all_goals first | (with_reducible rfl) | (with_reducible assumption) | exact Tru.tru | (rw [hP]; rfl) | exact sm_max IsSm.sm IsSm.sm (by decide)
  · refine ⟨_, ?_, (Tr.go_eval on_f26t ?_).trans rfl⟩
    · exact sm_le IsSm.sm (by decide)
    · (repeat' (first | exact AllT.nil | refine AllT.cons ?_ ?_)); all_goals first | (with_reducible rfl) | (with_reducible assumption) | exact Tru.tru | (rw [hP]; rfl) | exact sm_max IsSm.sm IsSm.sm (by decide)
theorem one_27 {n : Int} (hP : oP n = 27) : ∃ s, OnRes n s := by
  cases ht : (and64 (oS n 24) 31 == (7 : Int))
  · have ht' : (!(and64 (oS n 24) 31 == (7 : Int))) = true := by rw [ht]; rfl
    refine ⟨_, ?_, (Tr.go_eval on_f27f ?_).trans rfl⟩
    · exact sm_le IsSm.sm (by decide)
    · (repeat' (first | exact AllT.nil | refine AllT.cons ?_ ?_)); all_goals first | (with_reducible rfl) | (with_reducible assumption) | exact Tru.tru | (rw [hP]; rfl) | exact sm_max IsSm.sm IsSm.sm (by decide)
  · refine ⟨_, ?_, (Tr.go_eval on_f27t ?_).trans rfl⟩
    · exact sm_le IsSm.sm (by decide)
    · (repeat' (first | exact AllT.nil | refine AllT.cons ?_ ?_)); all_goals first | (with_reducible rfl) | (with_reducible assumption) | exact Tru.tru | (rw [hP]; rfl) | exact sm_max IsSm.sm IsSm.sm (by decide)
theorem one_28 {n : Int} (hP : oP n = 28) : ∃ s, OnRes n s := by
  cases ht : (and64 (oS n 24) 31 == (7 : Int))
  · have ht' : (!(and64 (oS n 24) 31 == (7 : Int))) = true := by rw [ht]; rfl
    refine ⟨_, ?_, (Tr.go_eval on_f28f ?_).trans rfl⟩
    · exact sm_le IsSm.sm (by decide)
    · (repeat' (first | exact AllT.nil | refine AllT.cons ?_ ?_)); all_goals first | (with_reducible rfl) | (with_reducible assumption) | exact Tru.tru | (rw [hP]; rfl) | exact sm_max IsSm.sm IsSm.sm (by decide)
  · refine ⟨_, ?_, (Tr.go_eval on_f28t ?_).trans rfl⟩
    · exact sm_le IsSm.sm (by decide)
    · (repeat' (first | exact AllT.nil | refine AllT.cons ?_ ?_)); all_goals first | (with_reducible rfl) | (with_reducible assumption) | exact Tru.tru | (rw [hP]; rfl) | exact sm_max IsSm.sm IsSm.sm (by decide)
theorem one_29 {n : Int} (hP : oP n = 29) : ∃ s, OnRes n s := by
  cases ht : (and64 (oS n 24) 31 == (7 : Int))
  · have ht' : (!(and64 (oS n 24) 31 == (7 : Int))) = true := by rw [ht]; rfl
    refine ⟨_, ?_, (Tr.go_eval on_f29f ?_).trans rfl⟩
    · exact sm_le IsSm.sm (by decide)
    · (repeat' (first | exact AllT.nil | refine AllT.cons ?_ ?_)); all_goals first | (with_reducible rfl) | (with_reducible assumption) | exact Tru.tru | (rw [hP]; rfl) | exact sm_max IsSm.sm IsSm.sm (by decide)
  · refine ⟨_, ?_, (Tr.go_eval on_f29t ?_).trans rfl⟩
    · exact sm_le IsSm.sm (by decide)
    · (repeat' (first | exact AllT.nil | refine AllT.cons ?_ ?_)); all_goals first | (with_reducible rfl) | (with_reducible assumption) | exact Tru.tru | (rw [hP]; rfl) | exact sm_max IsSm.sm IsSm.sm (by decide)
theorem one_30 {n : Int} (hP : oP n = 30) : ∃ s, OnRes n s := by
  cases ht : (and64 (oS n 24) 31 == (7 : Int))
  · have ht' : (!(and64 (oS n 24) 31 == (7 : Int))) = true := by rw [ht]; rfl
    refine ⟨_, ?_, (Tr.go_eval on_f30f ?_).trans rfl⟩
    · exact sm_le IsSm.sm (by decide)
    · (repeat' (first | exact AllT.nil | refine AllT.cons ?_ ?_)); all_goals first | (with_reducible rfl) | (with_reducible assumption) | exact Tru.tru | (rw [hP]; rfl) | exact sm_max IsSm.sm IsSm.sm (by decide)
  · refine ⟨_, ?_, (Tr.go_eval on_f30t ?_).trans rfl⟩
    · exact sm_le IsSm.sm (by decide)
    · (repeat' (first | exact AllT.nil | refine AllT.cons ?_ ?_)); all_goals first | (with_reducible rfl) | (with_reducible assumption) | exact Tru.tru | (rw [hP]; rfl) | exact sm_max IsSm.sm IsSm.sm (by decide)
theorem one_31 {n : Int} (hP : oP n = 31) : ∃ s, OnRes n s := by
  cases ht : (and64 (oS n 24) 31 == (7 : Int))
  · have ht' : (!(and64 (oS n 24) 31 == (7 : Int))) = true := by rw [ht]; rfl
    refine ⟨_, ?_, (Tr.go_eval on_ef ?_).trans rfl⟩
    · exact sm_le IsSm.sm (by decide)
    · (repeat' (first | exact AllT.nil | refine AllT.cons ?_ ?_)); all_goals first | (with_reducible rfl) | (with_reducible assumption) | exact Tru.tru | (rw [hP]; rfl) | exact sm_max IsSm.sm IsSm.sm (by decide)
  · refine ⟨_, ?_, (Tr.go_eval on_et ?_).trans rfl⟩
    · exact sm_le IsSm.sm (by decide)
    · (repeat' (first | exact AllT.nil | refine AllT.cons ?_ ?_)); all_goals first | (with_reducible rfl) | (with_reducible assumption) | exact Tru.tru | (rw [hP]; rfl) | exact sm_max IsSm.sm IsSm.sm (by decide)
theorem one_32 {n : Int} (hP : oP n = 32) : ∃ s, OnRes n s := by
  cases ht : (and64 (oS n 24) 31 == (7 : Int))
  · have ht' : (!(and64 (oS n 24) 31 == (7 : Int))) = true := by rw [ht]; rfl
    refine ⟨_, ?_, (Tr.go_eval on_f32f ?_).trans rfl⟩
    · exact sm_le IsSm.sm (by decide)
    · (repeat' (first | exact AllT.nil | refine AllT.cons ?_ ?_)); all_goals first | (with_reducible rfl) | (with_reducible assumption) | exact Tru.tru | (rw [hP]; rfl) | exact sm_max IsSm.sm IsSm.sm (by decide)
  · refine ⟨_, ?_, (Tr.go_eval on_f32t ?_).trans rfl⟩
    · exact sm_le IsSm.sm (by decide)
    · (repeat' (first | exact AllT.nil | refine AllT.cons ?_ ?_)); all_goals first | (with_reducible rfl) | (with_reducible assumption) | exact Tru.tru | (rw [hP]; rfl) | exact sm_max IsSm.sm IsSm.sm (by decide)
theorem one_33 {n : Int} (hP : oP n = 33) : ∃ s, OnRes n s := by
  cases ht : (and64 (oS n 24) 31 == (7 : Int))
  · have ht' : (!(and64 (oS n 24) 31 == (7 : Int))) = true := by rw [ht]; rfl
    refine ⟨_, ?_, (Tr.go_eval on_hf ?_).trans rfl⟩
    · exact sm_le IsSm.sm (by decide)
    · (repeat' (first | exact AllT.nil | refine AllT.cons ?_ ?_)); all_goals first | (with_reducible rfl) | (with_reducible assumption) | exact Tru.tru | (rw [hP]; rfl) | exact sm_max IsSm.sm IsSm.sm (by decide)
  · refine ⟨_, ?_, (Tr.go_eval on_ht ?_).trans rfl⟩
    · exact sm_le IsSm.sm (by decide)
    · (repeat' (first | exact AllT.nil | refine AllT.cons ?_ ?_)); all_goals first | (with_reducible rfl) | (with_reducible assumption) | exact Tru.tru | (rw [hP]; rfl) | exact sm_max IsSm.sm IsSm.sm (by decide)
theorem one_ex (n : Int) : ∃ s, OnRes n s := by
  have h : 1 ≤ oP n ∧ oP n ≤ 33 := mP n
  have : oP n = 1 ∨ oP n = 2 ∨ oP n = 3 ∨ oP n = 4 ∨ oP n = 5 ∨ oP n = 6 ∨ oP n = 7 ∨ oP n = 8 ∨ oP n = 9 ∨ oP n = 10 ∨ oP n = 11 ∨ oP n = 12 ∨ oP n = 13 ∨ oP n = 14 ∨ oP n = 15 ∨ oP n = 16 ∨ oP n = 17 ∨ oP n = 18 ∨ oP n = 19 ∨ oP n = 20 ∨ oP n = 21 ∨ oP n = 22 ∨ oP n = 23 ∨ oP n = 24 ∨ oP n = 25 ∨ oP n = 26 ∨ oP n = 27 ∨ oP n = 28 ∨ oP n = 29 ∨ oP n = 30 ∨ oP n = 31 ∨ oP n = 32 ∨ oP n = 33 := by omega
  rcases this with h | h | h | h | h | h | h | h | h | h | h | h | h | h | h | h | h | h | h | h | h | h | h | h | h | h | h | h | h | h | h | h | h
  · exact one_1 h
  · exact one_2 h
  · exact one_3 h
  · exact one_4 h
  · exact one_5 h
  · exact one_6 h
  · exact one_7 h
  · exact one_8 h
  · exact one_9 h
  · exact one_10 h
  · exact one_11 h
  · exact one_12 h
  · exact one_13 h
  · exact one_14 h
  · exact one_15 h
  · exact one_16 h
  · exact one_17 h
  · exact one_18 h
  · exact one_19 h
  · exact one_20 h
  · exact one_21 h
  · exact one_22 h
  · exact one_23 h
  · exact one_24 h
  · exact one_25 h
  · exact one_26 h
  · exact one_27 h
  · exact one_28 h
  · exact one_29 h
  · exact one_30 h
  · exact one_31 h
  · exact one_32 h
  · exact one_33 h
open Classical in
noncomputable def oneR (n : Int) : ByteArray := Classical.choose (one_ex n)
theorem oneR_ok (n : Int) : OnRes n (oneR n) := Classical.choose_spec (one_ex n)
noncomputable def oneF : Spec := fun args h => match args, h with
  | [.c (.v (.int .i64 n))], [] => .ret (StrA (oneR n), [])
  | _, _ => .fail
theorem oneF_ok : SpecOk Try.prog 167 oneF := by
  refine knownS KON_ok Try.func167 fun args h r he => ?_
  unfold oneF at he
  split at he
  · rename_i n
    cases he
    exact ⟨_, [], 60, nol, noLoopsS, (oneR_ok n).2⟩
  · cases he
end
section
open Go Go.RowKit
noncomputable def KTX : Known := [(167, oneF), (168, paF)]
theorem KTX_ok : KnownOk KTX := consK oneF_ok (by kernel_rfl) (consK paF_ok (by kernel_rfl) nilK)
abbrev txK : List (Nat × Option TypeId) := [(0, some 2), (1, none), (5, none), (6, none)]
noncomputable def txG : Ctx2 := GT KTX (fun k => if k = 3 then txK else []) 0 []
theorem txG_ok : XOk txG := GT_ok KTX_ok _ _ _
def rowT (own : Bool) (a b c : Int) : Option ABlk := some ⟨2, own, .lst 1 [[i64 a], [i64 b], [i64 c]] [i64 0]⟩
def txS (own : Bool) (a b c : Int) (k : Nat) (s : ByteArray) (i : Int) : St := ⟨slots 45 [(0, .c (.sl 0 0 k)), (1, Bo true), (5, StrA s), (6, I64 i)], [rowT own a b c]⟩
theorem tx_skip {own : Bool} {a b c : Int} {k : Nat} {s : ByteArray} {i : Int} : (rT txG nol 1 54 (bodyOf Try.f159 0) txK txK (txS own a b c k s i)).go [true, true, true, true, true, true, true, false] = some ([decide (i < ((k : Nat) : Int)), true, true, decide (i < (20 : Int)), decide ((0 : Int) ≤ i), decide (i < ((k : Nat) : Int)), decide (0 + i.toNat < 3), !(paV (oneR ([a, b, c].getD (0 + i.toNat) (0 : Int)))).e == (0 : Int), true, true, true, (paV (oneR ([a, b, c].getD (0 + i.toNat) (0 : Int)))).e != (0 : Int)], Ex.normal, { sl := slots 45 [(0, .c (.sl 0 0 k)), (1, Bo true), (5, .c (.v (.string s))), (6, I64 (w64 (i + (1 : Int))))], h := [some ⟨2, own, .lst 1 [[i64 a], [i64 b], [i64 c]] [i64 0]⟩] }) := by kernel_rfl
theorem tx_first {own : Bool} {a b c : Int} {k : Nat} {s : ByteArray} {i : Int} : (rT txG nol 1 54 (bodyOf Try.f159 0) txK txK (txS own a b c k s i)).go [true, true, true, true, true, true, true, true, true, true, true, false, false] = some ([decide (i < ((k : Nat) : Int)), true, true, decide (i < (20 : Int)), decide ((0 : Int) ≤ i), decide (i < ((k : Nat) : Int)), decide (0 + i.toNat < 3), (paV (oneR ([a, b, c].getD (0 + i.toNat) (0 : Int)))).e == (0 : Int), true, true, true, true, !!s.toList == (⟨#[]⟩ : ByteArray).toList, decide (((s.size + (oneR ([a, b, c].getD (0 + i.toNat) (0 : Int))).size : Nat) : Int) ≤ IntKind.i64.max)], Ex.normal, { sl := slots 45 [(0, .c (.sl 0 0 k)), (1, Bo true), (5, .c (.v (.string (s ++ oneR ([a, b, c].getD (0 + i.toNat) (0 : Int)))))), (6, I64 (w64 (i + (1 : Int))))], h := [some ⟨2, own, .lst 1 [[i64 a], [i64 b], [i64 c]] [i64 0]⟩] }) := by kernel_rfl
theorem tx_app {own : Bool} {a b c : Int} {k : Nat} {s : ByteArray} {i : Int} : (rT txG nol 1 54 (bodyOf Try.f159 0) txK txK (txS own a b c k s i)).go [true, true, true, true, true, true, true, true, true, true, true, false] = some ([decide (i < ((k : Nat) : Int)), true, true, decide (i < (20 : Int)), decide ((0 : Int) ≤ i), decide (i < ((k : Nat) : Int)), decide (0 + i.toNat < 3), (paV (oneR ([a, b, c].getD (0 + i.toNat) (0 : Int)))).e == (0 : Int), true, true, true, true, !s.toList == (⟨#[]⟩ : ByteArray).toList, decide (((s.size + (⟨#[59]⟩ : ByteArray).size : Nat) : Int) ≤ IntKind.i64.max), decide ((((s ++ (⟨#[59]⟩ : ByteArray)).size + (oneR ([a, b, c].getD (0 + i.toNat) (0 : Int))).size : Nat) : Int) ≤ IntKind.i64.max)], Ex.normal, { sl := slots 45 [(0, .c (.sl 0 0 k)), (1, Bo true), (5, .c (.v (.string (s ++ (⟨#[59]⟩ : ByteArray) ++ oneR ([a, b, c].getD (0 + i.toNat) (0 : Int)))))), (6, I64 (w64 (i + (1 : Int))))], h := [some ⟨2, own, .lst 1 [[i64 a], [i64 b], [i64 c]] [i64 0]⟩] }) := by kernel_rfl
theorem tx_e {own : Bool} {a b c : Int} {k : Nat} {s : ByteArray} {i : Int} : (rT txG nol 1 54 (bodyOf Try.f159 0) txK txK (txS own a b c k s i)).go [false, false, false, false] = some ([!decide (i < ((k : Nat) : Int)), true, true, true], Ex.exit 0, { sl := slots 45 [(0, .c (.sl 0 0 k)), (1, Bo true), (5, .c (.v (.string s))), (6, I64 i)], h := [some ⟨2, own, .lst 1 [[i64 a], [i64 b], [i64 c]] [i64 0]⟩] }) := by kernel_rfl
theorem tx_w {own : Bool} {a b c : Int} {k : Nat} {z : Int} {s : ByteArray} : (lfun txG (tell (bodyOf Try.f159 0) (txS own a b c k ⟨#[]⟩ 0) (.exit 0, txS own a b c k s z)) 60 Try.f159 [.c (.sl 0 0 k), Bo true] [rowT own a b c]).go [] = some ([yes (wasS (bodyOf Try.f159 0) (txS own a b c k ⟨#[]⟩ 0))], .c (.v (.string s)), [some ⟨2, own, .lst 1 [[i64 a], [i64 b], [i64 c]] [i64 0]⟩]) := by kernel_rfl
theorem bne_toList (s : ByteArray) : ((!(s.toList == (⟨#[]⟩ : ByteArray).toList)) = true) ∨ ((!(!(s.toList == (⟨#[]⟩ : ByteArray).toList))) = true) := by
  cases (s.toList == (⟨#[]⟩ : ByteArray).toList)
  · exact .inl rfl
  · exact .inr rfl
theorem tx_loop {a b c : Int} {k : Nat} (hk : k ≤ 3) : ∀ d (i : Nat) (s : ByteArray), i + d = k → Sm (101 * i) s → ∃ s' : ByteArray, Sm 303 s' ∧ ∀ own, LoopR txG 1 (bodyOf Try.f159 0) (txS own a b c k s (i : Nat)) (.exit 0, txS own a b c k s' (k : Nat))
  | 0, i, s, h, hs => by
    have : i = k := by omega
    subst this
    exact ⟨s, sm_le hs (by omega), fun own => LoopR.stop (by simp) (rT_sem txG_ok noLoopsS ((rT_go (tx_e (i := ((i : Nat) : Int))) ⟨by rw [decide_eq_false (by omega)]; rfl, rfl, rfl, rfl, trivial⟩).trans rfl))⟩
  | d + 1, i, s, h, hs => by
    have e3 := succ64 (j := i) (by omega)
    have ho : Sm 100 (oneR ([a, b, c].getD (0 + i) (0 : Int))) := (oneR_ok _).1
    have s1 : Sm 1 (⟨#[59]⟩ : ByteArray) := by unfold Sm; decide
    rcases Bool.eq_false_or_eq_true ((paV (oneR ([a, b, c].getD (0 + i) (0 : Int)))).e == (0 : Int)) with he | he
    · rcases bne_toList s with hb | hb
      · obtain ⟨s', h1, h2⟩ := tx_loop hk d (i + 1) (s ++ (⟨#[59]⟩ : ByteArray) ++ oneR ([a, b, c].getD (0 + i) (0 : Int))) (by omega) (sm_le (sm_app (sm_app hs s1) ho) (by omega))
        refine ⟨s', h1, fun own => LoopR.next (rT_sem txG_ok noLoopsS ((rT_go (tx_app (i := ((i : Nat) : Int))) ?_).trans ?_)) (h2 own)⟩
        · simp only [Int.toNat_natCast]
          repeat' (first | exact AllT.nil | refine AllT.cons ?_ ?_)
          all_goals first | (with_reducible rfl) | (with_reducible assumption) | exact decide_eq_true (by omega) | exact sm_max hs s1 (by omega) | exact sm_max (sm_app hs s1) ho (by omega)
        · simp only [Int.toNat_natCast, e3]; rfl
      · obtain ⟨s', h1, h2⟩ := tx_loop hk d (i + 1) (s ++ oneR ([a, b, c].getD (0 + i) (0 : Int))) (by omega) (sm_le (sm_app hs ho) (by omega))
        refine ⟨s', h1, fun own => LoopR.next (rT_sem txG_ok noLoopsS ((rT_go (tx_first (i := ((i : Nat) : Int))) ?_).trans ?_)) (h2 own)⟩
        · simp only [Int.toNat_natCast]
          repeat' (first | exact AllT.nil | refine AllT.cons ?_ ?_)
          all_goals first | (with_reducible rfl) | (with_reducible assumption) | exact decide_eq_true (by omega) | exact sm_max hs ho (by omega)
        · simp only [Int.toNat_natCast, e3]; rfl
    · have he1 : (!((paV (oneR ([a, b, c].getD (0 + i) (0 : Int)))).e == (0 : Int))) = true := by rw [he]; rfl
      have he2 : ((paV (oneR ([a, b, c].getD (0 + i) (0 : Int)))).e != (0 : Int)) = true := he1
      obtain ⟨s', h1, h2⟩ := tx_loop hk d (i + 1) s (by omega) (sm_le hs (by omega))
      refine ⟨s', h1, fun own => LoopR.next (rT_sem txG_ok noLoopsS ((rT_go (tx_skip (i := ((i : Nat) : Int))) ?_).trans ?_)) (h2 own)⟩
      · simp only [Int.toNat_natCast]
        repeat' (first | exact AllT.nil | refine AllT.cons ?_ ?_)
        all_goals first | (with_reducible rfl) | (with_reducible assumption) | exact decide_eq_true (by omega)
      · simp only [Int.toNat_natCast, e3]; rfl
theorem tx_ex (a b c : Int) {k : Nat} (hk : k ≤ 3) : ∃ s : ByteArray, Sm 303 s ∧ ∀ own, ∃ ℓ, LoopsSem txG 1 ℓ ∧ (lfun txG ℓ 60 Try.f159 [.c (.sl 0 0 k), Bo true] [rowT own a b c]).eval = some (StrA s, [rowT own a b c]) := by
  obtain ⟨s, h1, h2⟩ := tx_loop (a := a) (b := b) (c := c) hk k 0 ⟨#[]⟩ (by omega) (by unfold Sm; decide)
  exact ⟨s, h1, fun own => ⟨_, tell_ok (h2 own).sem, (Tr.go_eval (tx_w (z := ((k : Nat) : Int))) ⟨yes_of ⟨rfl, rfl⟩, trivial⟩).trans rfl⟩⟩
open Classical in
noncomputable def txR (a b c : Int) (k : Nat) : ByteArray := if h : k ≤ 3 then Classical.choose (tx_ex a b c h) else ⟨#[]⟩
theorem txR_ok (a b c : Int) {k : Nat} (hk : k ≤ 3) : Sm 303 (txR a b c k) ∧ ∀ own, ∃ ℓ, LoopsSem txG 1 ℓ ∧ (lfun txG ℓ 60 Try.f159 [.c (.sl 0 0 k), Bo true] [rowT own a b c]).eval = some (StrA (txR a b c k), [rowT own a b c]) := by
  have h := Classical.choose_spec (tx_ex a b c hk)
  unfold txR
  rw [dif_pos hk]
  exact h
noncomputable def txF : Spec := fun args h => match args, h with
  | [.c (.sl 0 0 k), .c (.v (.bool true))], [some ⟨2, own, .lst 1 [[.v (.int .i64 a)], [.v (.int .i64 b)], [.v (.int .i64 c)]] [.v (.int .i64 z)]⟩] => .need (yes (k ≤ 3 ∧ z = 0)) (.ret (StrA (txR a b c k), [rowT own a b c]))
  | _, _ => .fail
theorem txF_ok : SpecOk Try.prog 159 txF := by
  refine knownS KTX_ok Try.func159 fun args h r he => ?_
  unfold txF at he
  split at he
  · rename_i k own a b c z
    obtain ⟨⟨h1, hz⟩, he'⟩ := Tr.eval_ask.1 he
    subst hz
    cases he'
    obtain ⟨ℓ, hl, hw⟩ := (txR_ok a b c h1).2 own
    exact ⟨_, [], 60, ℓ, hl, hw⟩
  · cases he
end
section
open Go Go.RowKit
def dtT : List ByteArray := [(⟨#[(97 : UInt8)]⟩ : ByteArray), (⟨#[(98 : UInt8)]⟩ : ByteArray), (⟨#[(32 : UInt8)]⟩ : ByteArray), (⟨#[(32 : UInt8), (32 : UInt8)]⟩ : ByteArray), (⟨#[(10 : UInt8)]⟩ : ByteArray), (⟨#[(97 : UInt8), (98 : UInt8)]⟩ : ByteArray), (⟨#[(99 : UInt8), (32 : UInt8)]⟩ : ByteArray), (⟨#[]⟩ : ByteArray)]
theorem sm_dtT (i : Nat) : Sm 24 (dtT.getD i (⟨#[]⟩ : ByteArray)) := sm_t dtT (by decide) i
abbrev dtK : List (Nat × Option TypeId) := [(0, none), (3, none), (4, none)]
noncomputable def dtG : Ctx2 := GT [] (fun k => if k = 3 then dtK else []) 0 []
theorem dtG_ok : XOk dtG := GT_ok nilK _ _ _
def dtS (n : Int) (s : ByteArray) (i : Int) : St := ⟨slots 21 [(0, I64 n), (3, StrA s), (4, I64 i)], []⟩
theorem dt_go {n : Int} {s : ByteArray} {i : Int} : (rT dtG nol 0 54 (bodyOf Try.f158 0) dtK dtK (dtS n s i)).go [] =
  some ([decide (i < (10 : Int)), decide ((0 : Int) ≤ u64 (w64 ((3 : Int) * i))), decide ((0 : Int) ≤ and64 (n.fdiv ((2 : Int) ^ min (u64 (w64 ((3 : Int) * i))).toNat IntKind.i64.bits)) (7 : Int)), decide (and64 (n.fdiv ((2 : Int) ^ min (u64 (w64 ((3 : Int) * i))).toNat IntKind.i64.bits)) (7 : Int) < ((8 : Nat) : Int)), decide (0 + (and64 (n.fdiv ((2 : Int) ^ min (u64 (w64 ((3 : Int) * i))).toNat IntKind.i64.bits)) (7 : Int)).toNat < 8), decide (((s.size + (dtT.getD (0 + (and64 (n.fdiv ((2 : Int) ^ min (u64 (w64 ((3 : Int) * i))).toNat IntKind.i64.bits)) (7 : Int)).toNat) (⟨#[]⟩ : ByteArray)).size : Nat) : Int) ≤ IntKind.i64.max)], Ex.normal, { sl := slots 21 [(0, I64 n), (3, AV.c (AC.v (Value.string (s ++ dtT.getD (0 + (and64 (n.fdiv ((2 : Int) ^ min (u64 (w64 ((3 : Int) * i))).toNat IntKind.i64.bits)) (7 : Int)).toNat) (⟨#[]⟩ : ByteArray))))), (4, I64 (w64 (i + (1 : Int))))], h := [] }) := by kernel_rfl
theorem dt_e {n : Int} {s : ByteArray} {i : Int} : (rT dtG nol 0 54 (bodyOf Try.f158 0) dtK dtK (dtS n s i)).go [false] =
  some ([!decide (i < (10 : Int))], Ex.exit 0, { sl := slots 21 [(0, I64 n), (3, AV.c (AC.v (Value.string s))), (4, I64 i)], h := [] }) := by kernel_rfl
theorem dt_w {n : Int} {z : Int} {s : ByteArray} : (lfun dtG (tell (bodyOf Try.f158 0) (dtS n ⟨#[]⟩ 0) (.exit 0, dtS n s z)) 60 Try.f158 [I64 n] []).go [] =
  some ([yes (wasS (bodyOf Try.f158 0) (dtS n ⟨#[]⟩ 0))], AV.c (AC.v (Value.string s)), []) := by kernel_rfl
theorem u64_nn (x : Int) : decide ((0 : Int) ≤ u64 x) = true := by
  refine decide_eq_true ?_
  unfold u64
  rw [IntKind.wrap_u64]; omega
theorem dt_loop {n : Int} : ∀ d (i : Nat) (s : ByteArray), i + d = 10 → Sm (24 * i) s → ∃ s' : ByteArray, Sm 240 s' ∧ LoopR dtG 0 (bodyOf Try.f158 0) (dtS n s (i : Nat)) (.exit 0, dtS n s' (10 : Nat))
  | 0, i, s, h, hs => by
    have : i = 10 := by omega
    subst this
    exact ⟨s, sm_le hs (by omega), LoopR.stop (by simp) (rT_sem dtG_ok noLoopsS ((rT_go (dt_e (i := ((10 : Nat) : Int))) ⟨by rw [decide_eq_false (by omega)]; rfl, trivial⟩).trans rfl))⟩
  | d + 1, i, s, h, hs => by
    have e3 := succ64 (j := i) (by omega)
    have ho := sm_dtT (0 + (and64 (n.fdiv ((2 : Int) ^ min (u64 (w64 ((3 : Int) * ((i : Nat) : Int)))).toNat IntKind.i64.bits)) (7 : Int)).toNat)
    obtain ⟨s', h1, h2⟩ := dt_loop d (i + 1) (s ++ dtT.getD (0 + (and64 (n.fdiv ((2 : Int) ^ min (u64 (w64 ((3 : Int) * ((i : Nat) : Int)))).toNat IntKind.i64.bits)) (7 : Int)).toNat) (⟨#[]⟩ : ByteArray)) (by omega) (sm_le (sm_app hs ho) (by omega))
    refine ⟨s', h1, LoopR.next (rT_sem dtG_ok noLoopsS ((rT_go (dt_go (i := ((i : Nat) : Int))) ?_).trans ?_)) h2⟩
    · repeat' (first | exact AllT.nil | refine AllT.cons ?_ ?_)
      all_goals first | (with_reducible rfl) | (with_reducible exact u64_nn _) | (with_reducible exact k7a _) | (with_reducible exact k7b _) | (with_reducible exact k7c _) | (with_reducible exact sm_max hs ho (by omega)) | exact decide_eq_true (by omega)
    · simp only [e3]; rfl
theorem dt_ex (n : Int) : ∃ s : ByteArray, Sm 240 s ∧ ∃ ℓ, LoopsSem dtG 0 ℓ ∧ (lfun dtG ℓ 60 Try.f158 [I64 n] []).eval = some (StrA s, []) := by
  obtain ⟨s, h1, h2⟩ := dt_loop (n := n) 10 0 ⟨#[]⟩ (by omega) (by unfold Sm; decide)
  exact ⟨s, h1, _, tell_ok h2.sem, (Tr.go_eval (dt_w (z := ((10 : Nat) : Int))) ⟨yes_of ⟨rfl, rfl⟩, trivial⟩).trans rfl⟩
noncomputable def dtR (n : Int) : ByteArray := Classical.choose (dt_ex n)
theorem dtR_ok (n : Int) : Sm 240 (dtR n) ∧ ∃ ℓ, LoopsSem dtG 0 ℓ ∧ (lfun dtG ℓ 60 Try.f158 [I64 n] []).eval = some (StrA (dtR n), []) := Classical.choose_spec (dt_ex n)
noncomputable def dtF : Spec := fun args h => match args, h with
  | [.c (.v (.int .i64 n))], [] => .ret (StrA (dtR n), [])
  | _, _ => .fail
theorem dtF_ok : SpecOk Try.prog 158 dtF := by
  refine knownS nilK Try.func158 fun args h r he => ?_
  unfold dtF at he
  split at he
  · rename_i n
    cases he
    obtain ⟨ℓ, hl, hw⟩ := (dtR_ok n).2
    exact ⟨_, [], 60, ℓ, hl, hw⟩
  · cases he
end
section
open Go Go.RowKit
/-- A number's last byte; its four bytes; the number of four bytes. -/
def by8 (n : Int) : Int := n % 256
def four (n : Int) : List Int := [by8 (n / 16777216), by8 (n / 65536), by8 (n / 256), by8 n]
def num4 (a b c d : Int) : Int := if a * 16777216 + b * 65536 + c * 256 + d ≥ 2147483648 then a * 16777216 + b * 65536 + c * 256 + d - 4294967296 else a * 16777216 + b * 65536 + c * 256 + d
def fits (n : Int) : Bool := decide (-2147483648 ≤ n) && decide (n < 2147483648)
theorem num4_four {n : Int} (h : fits n = true) : num4 (by8 (n / 16777216)) (by8 (n / 65536)) (by8 (n / 256)) (by8 n) = n := by
  simp only [fits, Bool.and_eq_true, decide_eq_true_eq] at h
  unfold num4 by8
  split <;> omega
theorem num4_fits {a b c d : Int} (ha : 0 ≤ a ∧ a < 256) (hb : 0 ≤ b ∧ b < 256) (hc : 0 ≤ c ∧ c < 256) (hd : 0 ≤ d ∧ d < 256) : fits (num4 a b c d) = true := by
  simp only [fits, Bool.and_eq_true, decide_eq_true_eq]
  unfold num4
  split <;> omega
theorem four_num4 {a b c d : Int} (ha : 0 ≤ a ∧ a < 256) (hb : 0 ≤ b ∧ b < 256) (hc : 0 ≤ c ∧ c < 256) (hd : 0 ≤ d ∧ d < 256) : four (num4 a b c d) = [a, b, c, d] := by
  unfold four num4 by8
  split <;> simp only [List.cons.injEq, and_true] <;> omega
/-- An Op. -/
structure Opp where
  k : Int
  i : Int
  a : Int
  b : Int
  s : ByteArray
def zOpp : Opp := ⟨0, 0, 0, 0, ⟨#[]⟩⟩
def encO (o : Opp) : List Value := [.int .i64 o.k, .int .i64 o.i, .int .i64 o.a, .int .i64 o.b, .string o.s]
def decO : List Value → Opp
  | [.int _ k, .int _ i, .int _ a, .int _ b, .string s] => ⟨k, i, a, b, s⟩
  | _ => zOpp
def opB (o : Opp) : List Int := by8 o.k :: (four o.i ++ four o.a ++ four o.b ++ [by8 ((o.s.size : Int) / 256), by8 (o.s.size : Int)] ++ bs o.s)
def byOk (n : Int) : Bool := decide (0 ≤ n) && decide (n ≤ 255)
def opOk (o : Opp) : Bool := byOk o.k && fits o.i && fits o.a && fits o.b && decide (o.s.size ≤ 2000)
theorem opB_len (o : Opp) : (opB o).length = 15 + o.s.size := by
  simp [opB, four, bs_len]; omega
/- Reading: what is left, whether it ended too soon. -/
def rByte : List Int × Bool → Int × (List Int × Bool)
  | ([], _) => (0, [], true)
  | (x :: l, b) => (x, l, b)
def rNum (s : List Int × Bool) : Int × (List Int × Bool) :=
  let a := rByte s; let b := rByte a.2; let c := rByte b.2; let d := rByte c.2
  (num4 a.1 b.1 c.1 d.1, d.2)
def toB (l : List Int) : ByteArray := ⟨(l.map fun x => UInt8.ofNat x.toNat).toArray⟩
def rText (s : List Int × Bool) : ByteArray × (List Int × Bool) :=
  let a := rByte s; let b := rByte a.2
  bif b.2.2 || decide (a.1 * 256 + b.1 > (b.2.1.length : Int)) then (⟨#[]⟩, b.2.1, true) else (toB (b.2.1.take (a.1 * 256 + b.1).toNat), b.2.1.drop (a.1 * 256 + b.1).toNat, b.2.2)
def rOp (s : List Int × Bool) : Opp × (List Int × Bool) :=
  let k := rByte s; let i := rNum k.2; let a := rNum i.2; let b := rNum a.2; let t := rText b.2
  (⟨k.1, i.1, a.1, b.1, t.1⟩, t.2.1, t.2.2 || decide (t.1.size > 2000))
def rOps : Nat → List Int × Bool → List Opp × (List Int × Bool)
  | 0, s => ([], s)
  | n + 1, s => bif s.2 then ([], s) else
    let o := rOp s; let r := rOps n o.2
    (o.1 :: r.1, r.2)
theorem rNum_four {n : Int} (h : fits n = true) (l : List Int) (b : Bool) : rNum (four n ++ l, b) = (n, l, b) := by
  simp only [four, List.cons_append, List.nil_append, rNum, rByte, num4_four h]
theorem toB_bs (s : ByteArray) : toB (bs s) = s := by
  have : (bs s).map (fun x => UInt8.ofNat x.toNat) = s.data.toList := by
    unfold bs
    rw [List.map_map]
    conv => rhs; rw [← List.map_id s.data.toList]
    refine List.map_congr_left fun u _ => ?_
    simp [Function.comp]
  unfold toB
  rw [this]
theorem rText_bs {s : ByteArray} (h : s.size ≤ 2000) (l : List Int) : rText ([by8 ((s.size : Int) / 256), by8 (s.size : Int)] ++ bs s ++ l, false) = (s, l, false) := by
  have e : by8 ((s.size : Int) / 256) * 256 + by8 (s.size : Int) = s.size := by unfold by8; omega
  simp only [List.cons_append, List.nil_append, List.append_assoc, rText, rByte, e, Bool.false_or]
  have hl := bs_len s
  rw [decide_eq_false (by rw [List.length_append, hl]; omega)]
  simp only [cond_false, Int.toNat_natCast, Prod.mk.injEq, and_true]
  refine ⟨?_, ?_⟩
  · rw [List.take_append_of_le_length (by omega), List.take_of_length_le (by omega), toB_bs]
  · rw [List.drop_append_of_le_length (by omega), List.drop_of_length_le (by omega), List.nil_append]
theorem rOp_opB {o : Opp} (h : opOk o = true) (l : List Int) : rOp (opB o ++ l, false) = (o, l, false) := by
  simp only [opOk, Bool.and_eq_true, decide_eq_true_eq, byOk] at h
  obtain ⟨⟨⟨⟨⟨h1, h2⟩, h3⟩, h4⟩, h5⟩, h6⟩ := h
  have ek : by8 o.k = o.k := by unfold by8; omega
  have e : opB o ++ l = o.k :: (four o.i ++ (four o.a ++ (four o.b ++ ([by8 ((o.s.size : Int) / 256), by8 (o.s.size : Int)] ++ bs o.s ++ l)))) := by
    simp only [opB, ek, List.cons_append, List.append_assoc]
  rw [e]
  simp only [rOp, rByte, rNum_four h3, rNum_four h4, rNum_four h5, rText_bs h6]
  rw [decide_eq_false (by omega)]
  rfl
theorem rOps_opB : ∀ (os : List Opp) (l : List Int), (∀ o ∈ os, opOk o = true) → rOps os.length (os.flatMap opB ++ l, false) = (os, l, false)
  | [], l, _ => rfl
  | o :: os, l, h => by
    have e : (o :: os).flatMap opB ++ l = opB o ++ (os.flatMap opB ++ l) := by simp
    rw [e]
    simp only [List.length_cons, rOps, cond_false, rOp_opB (h o (by simp)), rOps_opB os l fun x hx => h x (by simp [hx])]
end
section
open Go Go.RowKit
noncomputable def KOP : Known := [(159, txF), (158, dtF)]
theorem KOP_ok : KnownOk KOP := consK txF_ok (by kernel_rfl) (consK dtF_ok (by kernel_rfl) nilK)
noncomputable def opG : Ctx2 := GT KOP (fun _ => []) 0 []
theorem opG_ok : XOk opG := GT_ok KOP_ok _ _ _
def opT : List Int := [(1 : Int), (1 : Int), (2 : Int), (3 : Int), (4 : Int), (5 : Int), (6 : Int), (1 : Int), (2 : Int), (5 : Int), (3 : Int), (7 : Int)]
theorem op_tb {n m : Int} : (lfun opG nol 60 Try.f139 [I64 n, I64 m] []).go [] = some ([true, decide ((0 : Int) ≤ (and64 n 255).tmod 12), decide ((and64 n 255).tmod 12 < ((12 : Nat) : Int)), decide (0 + ((and64 n 255).tmod 12).toNat < 12), true, true, true, true, true, and64 (n.fdiv (2 ^ min 24 IntKind.i64.bits)) 3 == (0 : Int), true, true, opT.getD (0 + ((and64 n 255).tmod 12).toNat) (0 : Int) == (2 : Int), true, true, true, true], .agg [i64 (opT.getD (0 + ((and64 n 255).tmod 12).toNat) (0 : Int)), i64 (w64 ((and64 (n.fdiv (2 ^ min 8 IntKind.i64.bits)) 255).tmod 24 - (1 : Int))), i64 (w64 ((and64 (n.fdiv (2 ^ min 16 IntKind.i64.bits)) 255).tmod 20 - (1 : Int))), i64 ((and64 (n.fdiv (2 ^ min 26 IntKind.i64.bits)) 255).tmod 20), .v (.string (dtR m))], []) := by kernel_rfl
theorem op_tc {n m : Int} : (lfun opG nol 60 Try.f139 [I64 n, I64 m] []).go [true, true, true, true, true, true, true, true, true, true, true, true, false, false, false, false] = some ([true, decide ((0 : Int) ≤ (and64 n 255).tmod 12), decide ((and64 n 255).tmod 12 < ((12 : Nat) : Int)), decide (0 + ((and64 n 255).tmod 12).toNat < 12), true, true, true, true, true, and64 (n.fdiv (2 ^ min 24 IntKind.i64.bits)) 3 == (0 : Int), true, true, !opT.getD (0 + ((and64 n 255).tmod 12).toNat) (0 : Int) == (2 : Int), true, true, true, opT.getD (0 + ((and64 n 255).tmod 12).toNat) (0 : Int) == (4 : Int)], .agg [i64 (opT.getD (0 + ((and64 n 255).tmod 12).toNat) (0 : Int)), i64 (w64 ((and64 (n.fdiv (2 ^ min 8 IntKind.i64.bits)) 255).tmod 24 - (1 : Int))), i64 (w64 ((and64 (n.fdiv (2 ^ min 16 IntKind.i64.bits)) 255).tmod 20 - (1 : Int))), i64 ((and64 (n.fdiv (2 ^ min 26 IntKind.i64.bits)) 255).tmod 20), .v (.string (dtR m))], []) := by kernel_rfl
theorem op_td {n m : Int} : (lfun opG nol 60 Try.f139 [I64 n, I64 m] []).go [true, true, true, true, true, true, true, true, true, true, true, true, false, false, false, false, false] = some ([true, decide ((0 : Int) ≤ (and64 n 255).tmod 12), decide ((and64 n 255).tmod 12 < ((12 : Nat) : Int)), decide (0 + ((and64 n 255).tmod 12).toNat < 12), true, true, true, true, true, and64 (n.fdiv (2 ^ min 24 IntKind.i64.bits)) 3 == (0 : Int), true, true, !opT.getD (0 + ((and64 n 255).tmod 12).toNat) (0 : Int) == (2 : Int), true, true, true, !opT.getD (0 + ((and64 n 255).tmod 12).toNat) (0 : Int) == (4 : Int), true, and64 (n.fdiv (2 ^ min 40 IntKind.i64.bits)) 15 == (9 : Int), decide ((0 : Int) ≤ and64 m 3), decide (and64 m 3 < ((4 : Nat) : Int)), decide (0 + (and64 m 3).toNat < 4)], .agg [i64 (opT.getD (0 + ((and64 n 255).tmod 12).toNat) (0 : Int)), i64 (w64 ((and64 (n.fdiv (2 ^ min 8 IntKind.i64.bits)) 255).tmod 24 - (1 : Int))), i64 (w64 ((and64 (n.fdiv (2 ^ min 16 IntKind.i64.bits)) 255).tmod 20 - (1 : Int))), i64 ((and64 (n.fdiv (2 ^ min 26 IntKind.i64.bits)) 255).tmod 20), .v (.string ([(⟨#[120]⟩ : ByteArray), (⟨#[119, 105, 100, 116, 104]⟩ : ByteArray), (⟨#[99, 111, 108, 111, 114, 58, 32, 114, 101, 100]⟩ : ByteArray), (⟨#[119, 105, 100, 116, 104, 58, 32, 45, 49, 112, 120]⟩ : ByteArray)].getD (0 + (and64 m 3).toNat) (⟨#[]⟩ : ByteArray)))], []) := by kernel_rfl
theorem op_te {n m : Int} : (lfun opG nol 60 Try.f139 [I64 n, I64 m] []).go [true, true, true, true, true, true, true, true, true, true, true, true, false, false, false, false, false, true, false] = some ([true, decide ((0 : Int) ≤ (and64 n 255).tmod 12), decide ((and64 n 255).tmod 12 < ((12 : Nat) : Int)), decide (0 + ((and64 n 255).tmod 12).toNat < 12), true, true, true, true, true, and64 (n.fdiv (2 ^ min 24 IntKind.i64.bits)) 3 == (0 : Int), true, true, !opT.getD (0 + ((and64 n 255).tmod 12).toNat) (0 : Int) == (2 : Int), true, true, true, !opT.getD (0 + ((and64 n 255).tmod 12).toNat) (0 : Int) == (4 : Int), true, !and64 (n.fdiv (2 ^ min 40 IntKind.i64.bits)) 15 == (9 : Int), true, true, decInt (0 : Int) (and64 m 3) 3, yes ((and64 m 3).toNat ≤ 3 ∧ (0 : Int) = (0 : Int))], .agg [i64 (opT.getD (0 + ((and64 n 255).tmod 12).toNat) (0 : Int)), i64 (w64 ((and64 (n.fdiv (2 ^ min 8 IntKind.i64.bits)) 255).tmod 24 - (1 : Int))), i64 (w64 ((and64 (n.fdiv (2 ^ min 16 IntKind.i64.bits)) 255).tmod 20 - (1 : Int))), i64 ((and64 (n.fdiv (2 ^ min 26 IntKind.i64.bits)) 255).tmod 20), .v (.string (txR m (m.fdiv (2 ^ min 17 IntKind.i64.bits)) (m.fdiv (2 ^ min 34 IntKind.i64.bits)) (and64 m 3).toNat))], []) := by kernel_rfl
theorem op_fb {n m : Int} : (lfun opG nol 60 Try.f139 [I64 n, I64 m] []).go [true, true, true, true, true, true, true, true, true, false] = some ([true, decide ((0 : Int) ≤ (and64 n 255).tmod 12), decide ((and64 n 255).tmod 12 < ((12 : Nat) : Int)), decide (0 + ((and64 n 255).tmod 12).toNat < 12), true, true, true, true, true, !and64 (n.fdiv (2 ^ min 24 IntKind.i64.bits)) 3 == (0 : Int), opT.getD (0 + ((and64 n 255).tmod 12).toNat) (0 : Int) == (2 : Int), true, true, true, true], .agg [i64 (opT.getD (0 + ((and64 n 255).tmod 12).toNat) (0 : Int)), i64 (w64 ((and64 (n.fdiv (2 ^ min 8 IntKind.i64.bits)) 255).tmod 24 - (1 : Int))), i64 (w64 ((and64 (n.fdiv (2 ^ min 16 IntKind.i64.bits)) 255).tmod 20 - (1 : Int))), i64 (-1 : Int), .v (.string (dtR m))], []) := by kernel_rfl
theorem op_fc {n m : Int} : (lfun opG nol 60 Try.f139 [I64 n, I64 m] []).go [true, true, true, true, true, true, true, true, true, false, false, false, false, false] = some ([true, decide ((0 : Int) ≤ (and64 n 255).tmod 12), decide ((and64 n 255).tmod 12 < ((12 : Nat) : Int)), decide (0 + ((and64 n 255).tmod 12).toNat < 12), true, true, true, true, true, !and64 (n.fdiv (2 ^ min 24 IntKind.i64.bits)) 3 == (0 : Int), !opT.getD (0 + ((and64 n 255).tmod 12).toNat) (0 : Int) == (2 : Int), true, true, true, opT.getD (0 + ((and64 n 255).tmod 12).toNat) (0 : Int) == (4 : Int)], .agg [i64 (opT.getD (0 + ((and64 n 255).tmod 12).toNat) (0 : Int)), i64 (w64 ((and64 (n.fdiv (2 ^ min 8 IntKind.i64.bits)) 255).tmod 24 - (1 : Int))), i64 (w64 ((and64 (n.fdiv (2 ^ min 16 IntKind.i64.bits)) 255).tmod 20 - (1 : Int))), i64 (-1 : Int), .v (.string (dtR m))], []) := by kernel_rfl
theorem op_fd {n m : Int} : (lfun opG nol 60 Try.f139 [I64 n, I64 m] []).go [true, true, true, true, true, true, true, true, true, false, false, false, false, false, false] = some ([true, decide ((0 : Int) ≤ (and64 n 255).tmod 12), decide ((and64 n 255).tmod 12 < ((12 : Nat) : Int)), decide (0 + ((and64 n 255).tmod 12).toNat < 12), true, true, true, true, true, !and64 (n.fdiv (2 ^ min 24 IntKind.i64.bits)) 3 == (0 : Int), !opT.getD (0 + ((and64 n 255).tmod 12).toNat) (0 : Int) == (2 : Int), true, true, true, !opT.getD (0 + ((and64 n 255).tmod 12).toNat) (0 : Int) == (4 : Int), true, and64 (n.fdiv (2 ^ min 40 IntKind.i64.bits)) 15 == (9 : Int), decide ((0 : Int) ≤ and64 m 3), decide (and64 m 3 < ((4 : Nat) : Int)), decide (0 + (and64 m 3).toNat < 4)], .agg [i64 (opT.getD (0 + ((and64 n 255).tmod 12).toNat) (0 : Int)), i64 (w64 ((and64 (n.fdiv (2 ^ min 8 IntKind.i64.bits)) 255).tmod 24 - (1 : Int))), i64 (w64 ((and64 (n.fdiv (2 ^ min 16 IntKind.i64.bits)) 255).tmod 20 - (1 : Int))), i64 (-1 : Int), .v (.string ([(⟨#[120]⟩ : ByteArray), (⟨#[119, 105, 100, 116, 104]⟩ : ByteArray), (⟨#[99, 111, 108, 111, 114, 58, 32, 114, 101, 100]⟩ : ByteArray), (⟨#[119, 105, 100, 116, 104, 58, 32, 45, 49, 112, 120]⟩ : ByteArray)].getD (0 + (and64 m 3).toNat) (⟨#[]⟩ : ByteArray)))], []) := by kernel_rfl
theorem op_fe {n m : Int} : (lfun opG nol 60 Try.f139 [I64 n, I64 m] []).go [true, true, true, true, true, true, true, true, true, false, false, false, false, false, false, true, false] = some ([true, decide ((0 : Int) ≤ (and64 n 255).tmod 12), decide ((and64 n 255).tmod 12 < ((12 : Nat) : Int)), decide (0 + ((and64 n 255).tmod 12).toNat < 12), true, true, true, true, true, !and64 (n.fdiv (2 ^ min 24 IntKind.i64.bits)) 3 == (0 : Int), !opT.getD (0 + ((and64 n 255).tmod 12).toNat) (0 : Int) == (2 : Int), true, true, true, !opT.getD (0 + ((and64 n 255).tmod 12).toNat) (0 : Int) == (4 : Int), true, !and64 (n.fdiv (2 ^ min 40 IntKind.i64.bits)) 15 == (9 : Int), true, true, decInt (0 : Int) (and64 m 3) 3, yes ((and64 m 3).toNat ≤ 3 ∧ (0 : Int) = (0 : Int))], .agg [i64 (opT.getD (0 + ((and64 n 255).tmod 12).toNat) (0 : Int)), i64 (w64 ((and64 (n.fdiv (2 ^ min 8 IntKind.i64.bits)) 255).tmod 24 - (1 : Int))), i64 (w64 ((and64 (n.fdiv (2 ^ min 16 IntKind.i64.bits)) 255).tmod 20 - (1 : Int))), i64 (-1 : Int), .v (.string (txR m (m.fdiv (2 ^ min 17 IntKind.i64.bits)) (m.fdiv (2 ^ min 34 IntKind.i64.bits)) (and64 m 3).toNat))], []) := by kernel_rfl
def encA (o : Opp) : List AC := [i64 o.k, i64 o.i, i64 o.a, i64 o.b, .v (.string o.s)]
theorem opT_by : ∀ (l : List Int), l.all byOk = true → ∀ i, byOk (l.getD i (0 : Int)) = true
  | [], _, i => rfl
  | x :: l, h, i => by
    simp only [List.all_cons, Bool.and_eq_true] at h
    cases i with
    | zero => exact h.1
    | succ j => exact opT_by l h.2 j
theorem bt2 (b : Bool) : b = true ∨ (!b) = true := by cases b <;> simp
theorem t12 (a : Int) : 0 ≤ (and64 a (255 : Int)).tmod (12 : Int) ∧ (and64 a (255 : Int)).tmod (12 : Int) < 12 := tm (and64 a 255) 12 (m255 a).1 (by decide)
theorem t12a (a : Int) : decide ((0 : Int) ≤ (and64 a (255 : Int)).tmod (12 : Int)) = true := by have := t12 a; exact decide_eq_true (by omega)
theorem t12b (a : Int) : decide ((and64 a (255 : Int)).tmod (12 : Int) < ((12 : Nat) : Int)) = true := by have := t12 a; exact decide_eq_true (by omega)
theorem t12c (a : Int) : decide (0 + ((and64 a (255 : Int)).tmod (12 : Int)).toNat < 12) = true := by have := t12 a; exact decide_eq_true (by omega)
theorem k4a (a : Int) : decide (and64 a (3 : Int) < ((4 : Nat) : Int)) = true := k3b a
theorem k3d (a : Int) : decInt (0 : Int) (and64 a (3 : Int)) (3 : Nat) = true := by
  have := m3 a
  unfold decInt; simp only [Bool.and_eq_true, decide_eq_true_eq]; omega
theorem k3y (a : Int) : yes ((and64 a (3 : Int)).toNat ≤ 3 ∧ (0 : Int) = 0) = true := by have := m3 a; exact yes_of ⟨by omega, rfl⟩
theorem fi20 (a : Int) : fits (w64 ((and64 a (255 : Int)).tmod (20 : Int) - (1 : Int))) = true := by
  have h := tm (and64 a 255) 20 (m255 a).1 (by decide)
  rw [w64_id (by omega) (by omega)]; unfold fits; simp only [Bool.and_eq_true, decide_eq_true_eq]; omega
theorem fi24 (a : Int) : fits (w64 ((and64 a (255 : Int)).tmod (24 : Int) - (1 : Int))) = true := by
  have h := tm (and64 a 255) 24 (m255 a).1 (by decide)
  rw [w64_id (by omega) (by omega)]; unfold fits; simp only [Bool.and_eq_true, decide_eq_true_eq]; omega
theorem fi0 (a : Int) : fits ((and64 a (255 : Int)).tmod (20 : Int)) = true := by
  have h := tm (and64 a 255) 20 (m255 a).1 (by decide)
  unfold fits; simp only [Bool.and_eq_true, decide_eq_true_eq]; omega
theorem op_ok {o : Opp} (h1 : byOk o.k = true) (h2 : fits o.i = true) (h3 : fits o.a = true) (h4 : fits o.b = true) (h5 : Sm 303 o.s) : opOk o = true := by
  unfold opOk; rw [h1, h2, h3, h4]; unfold Sm at h5; simp only [Bool.true_and, decide_eq_true_eq]; omega
def opTx : List ByteArray := [(⟨#[120]⟩ : ByteArray), (⟨#[119, 105, 100, 116, 104]⟩ : ByteArray), (⟨#[99, 111, 108, 111, 114, 58, 32, 114, 101, 100]⟩ : ByteArray), (⟨#[119, 105, 100, 116, 104, 58, 32, 45, 49, 112, 120]⟩ : ByteArray)]
theorem sm_opTx (i : Nat) : Sm 24 (opTx.getD i (⟨#[]⟩ : ByteArray)) := sm_t opTx (by decide) i
def OpRes (n m : Int) (o : Opp) : Prop := opOk o = true ∧ (lfun opG nol 60 Try.f139 [I64 n, I64 m] []).eval = some (.agg (encA o), [])
theorem op_exi (n m : Int) : ∃ o, OpRes n m o := by
  have hk := m3 m
  have ht := (txR_ok m (m.fdiv ((2 : Int) ^ min 17 IntKind.i64.bits)) (m.fdiv ((2 : Int) ^ min 34 IntKind.i64.bits)) (k := (and64 m 3).toNat) (by omega)).1
  rcases bt2 (and64 (n.fdiv ((2 : Int) ^ min 24 IntKind.i64.bits)) (3 : Int) == (0 : Int)) with hA | hA <;>
  rcases bt2 (opT.getD (0 + ((and64 n (255 : Int)).tmod (12 : Int)).toNat) (0 : Int) == (2 : Int)) with hB | hB
  · exact ⟨⟨_, _, _, _, _⟩, op_ok (opT_by opT (by decide) _) (fi24 _) (fi20 _) (fi0 _) (sm_le (dtR_ok _).1 (by decide)), (Tr.go_eval op_tb (by ((repeat' (first | exact AllT.nil | refine AllT.cons ?_ ?_)); all_goals first | (with_reducible rfl) | (with_reducible assumption) | with_reducible exact t12a _ | with_reducible exact t12b _ | with_reducible exact t12c _ | with_reducible exact k3a _ | with_reducible exact k3b _ | with_reducible exact k3c _ | with_reducible exact k3d _ | with_reducible exact k3y _))).trans rfl⟩
  · rcases bt2 (opT.getD (0 + ((and64 n (255 : Int)).tmod (12 : Int)).toNat) (0 : Int) == (4 : Int)) with hC | hC
    · exact ⟨⟨_, _, _, _, _⟩, op_ok (opT_by opT (by decide) _) (fi24 _) (fi20 _) (fi0 _) (sm_le (dtR_ok _).1 (by decide)), (Tr.go_eval op_tc (by ((repeat' (first | exact AllT.nil | refine AllT.cons ?_ ?_)); all_goals first | (with_reducible rfl) | (with_reducible assumption) | with_reducible exact t12a _ | with_reducible exact t12b _ | with_reducible exact t12c _ | with_reducible exact k3a _ | with_reducible exact k3b _ | with_reducible exact k3c _ | with_reducible exact k3d _ | with_reducible exact k3y _))).trans rfl⟩
    · rcases bt2 (and64 (n.fdiv ((2 : Int) ^ min 40 IntKind.i64.bits)) (15 : Int) == (9 : Int)) with hD | hD
      · exact ⟨⟨_, _, _, _, _⟩, op_ok (opT_by opT (by decide) _) (fi24 _) (fi20 _) (fi0 _) (sm_le (sm_opTx _) (by decide)), (Tr.go_eval op_td (by ((repeat' (first | exact AllT.nil | refine AllT.cons ?_ ?_)); all_goals first | (with_reducible rfl) | (with_reducible assumption) | with_reducible exact t12a _ | with_reducible exact t12b _ | with_reducible exact t12c _ | with_reducible exact k3a _ | with_reducible exact k3b _ | with_reducible exact k3c _ | with_reducible exact k3d _ | with_reducible exact k3y _))).trans rfl⟩
      · exact ⟨⟨_, _, _, _, _⟩, op_ok (opT_by opT (by decide) _) (fi24 _) (fi20 _) (fi0 _) ht, (Tr.go_eval op_te (by ((repeat' (first | exact AllT.nil | refine AllT.cons ?_ ?_)); all_goals first | (with_reducible rfl) | (with_reducible assumption) | with_reducible exact t12a _ | with_reducible exact t12b _ | with_reducible exact t12c _ | with_reducible exact k3a _ | with_reducible exact k3b _ | with_reducible exact k3c _ | with_reducible exact k3d _ | with_reducible exact k3y _))).trans rfl⟩
  · exact ⟨⟨_, _, _, _, _⟩, op_ok (opT_by opT (by decide) _) (fi24 _) (fi20 _) (by decide : fits (-1) = true) (sm_le (dtR_ok _).1 (by decide)), (Tr.go_eval op_fb (by ((repeat' (first | exact AllT.nil | refine AllT.cons ?_ ?_)); all_goals first | (with_reducible rfl) | (with_reducible assumption) | with_reducible exact t12a _ | with_reducible exact t12b _ | with_reducible exact t12c _ | with_reducible exact k3a _ | with_reducible exact k3b _ | with_reducible exact k3c _ | with_reducible exact k3d _ | with_reducible exact k3y _))).trans rfl⟩
  · rcases bt2 (opT.getD (0 + ((and64 n (255 : Int)).tmod (12 : Int)).toNat) (0 : Int) == (4 : Int)) with hC | hC
    · exact ⟨⟨_, _, _, _, _⟩, op_ok (opT_by opT (by decide) _) (fi24 _) (fi20 _) (by decide : fits (-1) = true) (sm_le (dtR_ok _).1 (by decide)), (Tr.go_eval op_fc (by ((repeat' (first | exact AllT.nil | refine AllT.cons ?_ ?_)); all_goals first | (with_reducible rfl) | (with_reducible assumption) | with_reducible exact t12a _ | with_reducible exact t12b _ | with_reducible exact t12c _ | with_reducible exact k3a _ | with_reducible exact k3b _ | with_reducible exact k3c _ | with_reducible exact k3d _ | with_reducible exact k3y _))).trans rfl⟩
    · rcases bt2 (and64 (n.fdiv ((2 : Int) ^ min 40 IntKind.i64.bits)) (15 : Int) == (9 : Int)) with hD | hD
      · exact ⟨⟨_, _, _, _, _⟩, op_ok (opT_by opT (by decide) _) (fi24 _) (fi20 _) (by decide : fits (-1) = true) (sm_le (sm_opTx _) (by decide)), (Tr.go_eval op_fd (by ((repeat' (first | exact AllT.nil | refine AllT.cons ?_ ?_)); all_goals first | (with_reducible rfl) | (with_reducible assumption) | with_reducible exact t12a _ | with_reducible exact t12b _ | with_reducible exact t12c _ | with_reducible exact k3a _ | with_reducible exact k3b _ | with_reducible exact k3c _ | with_reducible exact k3d _ | with_reducible exact k3y _))).trans rfl⟩
      · exact ⟨⟨_, _, _, _, _⟩, op_ok (opT_by opT (by decide) _) (fi24 _) (fi20 _) (by decide : fits (-1) = true) ht, (Tr.go_eval op_fe (by ((repeat' (first | exact AllT.nil | refine AllT.cons ?_ ?_)); all_goals first | (with_reducible rfl) | (with_reducible assumption) | with_reducible exact t12a _ | with_reducible exact t12b _ | with_reducible exact t12c _ | with_reducible exact k3a _ | with_reducible exact k3b _ | with_reducible exact k3c _ | with_reducible exact k3d _ | with_reducible exact k3y _))).trans rfl⟩
noncomputable def opV (n m : Int) : Opp := Classical.choose (op_exi n m)
theorem opV_ok (n m : Int) : OpRes n m (opV n m) := Classical.choose_spec (op_exi n m)
noncomputable def opF : Spec := fun args h => match args, h with
  | [.c (.v (.int .i64 n)), .c (.v (.int .i64 m))], [] => .ret (.agg (encA (opV n m)), [])
  | _, _ => .fail
theorem opF_ok : SpecOk Try.prog 139 opF := by
  refine knownS KOP_ok Try.func139 fun args h r he => ?_
  unfold opF at he
  split at he
  · rename_i n m
    cases he
    exact ⟨_, [], 60, nol, noLoopsS, (opV_ok n m).2⟩
  · cases he
end
section
open Go Go.RowKit
def rowJ (own : Bool) (n : Nat) (g : Nat → Int) : Option ABlk := some ⟨2, own, .row 1 n fun j => v1 (g j)⟩
end
section
open Go Go.RowKit
noncomputable def KOS : Known := [(139, opF)]
theorem KOS_ok : KnownOk KOS := consK opF_ok (by kernel_rfl) nilK
abbrev osK : List (Nat × Option TypeId) := [(0,none),(3,some 121),(4,none)]
noncomputable def osG : Ctx2 := GT KOS (fun k => if k = 3 then osK else []) 0 []
theorem osG_ok : XOk osG := GT_ok KOS_ok _ _ _
def rowP (own : Bool) (n : Nat) (P : Nat → Opp) : Option ABlk := some ⟨121, own, .row 5 n fun j => encO (P j)⟩
def osO (own : Bool) (o K n : Nat) (g : Nat → Int) (na : Nat) (P : Nat → Opp) (i : Int) : St :=
  ⟨slots 30 [(0, .c (.sl 0 o K)), (3, .c (.sl 1 0 na)), (4, I64 i)], [rowJ own n g, rowP true na P]⟩
theorem os_go {own : Bool} {o K n : Nat} {g : Nat → Int} {na : Nat} {P : Nat → Opp} {i : Int} : (rT osG nol 1 54 (bodyOf Try.f100 0) osK osK (osO own o K n g na P i)).go [] = some ([decide (w64 (i + (1 : Int)) < ((K : Nat) : Int)), true, true, decide (i < (60 : Int)), decide ((0 : Int) ≤ i), decide (i < ((K : Nat) : Int)), decide (o + i.toNat < n), decide ((0 : Int) ≤ w64 (i + (1 : Int))), decide (w64 (i + (1 : Int)) < ((K : Nat) : Int)), decide (o + (w64 (i + (1 : Int))).toNat < n), decide (na = na), true, decide ((na + 1) * 48 ≤ maxCells)], Ex.normal, { sl := slots 30 [(0, .c (.sl 0 o K)), (3, .c (.sl 1 0 (na + 1))), (4, I64 (w64 (i + (2 : Int))))], h := [some ⟨2, own, .row 1 n fun j => [.int .i64 (g j)]⟩, some ⟨121, true, .row 5 (na + 1) fun k => [.int .i64 (bif decide (k = na) then (opV (g (o + i.toNat)) (g (o + (w64 (i + (1 : Int))).toNat))).k else (P k).k), .int .i64 (bif decide (k = na) then (opV (g (o + i.toNat)) (g (o + (w64 (i + (1 : Int))).toNat))).i else (P k).i), .int .i64 (bif decide (k = na) then (opV (g (o + i.toNat)) (g (o + (w64 (i + (1 : Int))).toNat))).a else (P k).a), .int .i64 (bif decide (k = na) then (opV (g (o + i.toNat)) (g (o + (w64 (i + (1 : Int))).toNat))).b else (P k).b), .string (bif decide (k = na) then (opV (g (o + i.toNat)) (g (o + (w64 (i + (1 : Int))).toNat))).s else (P k).s)]⟩] }) := by kernel_rfl
theorem os_e1 {own : Bool} {o K n : Nat} {g : Nat → Int} {na : Nat} {P : Nat → Opp} {i : Int} : (rT osG nol 1 54 (bodyOf Try.f100 0) osK osK (osO own o K n g na P i)).go [false, false, false, false] = some ([!decide (w64 (i + (1 : Int)) < ((K : Nat) : Int)), true, true, true], Ex.exit 0, { sl := slots 30 [(0, .c (.sl 0 o K)), (3, .c (.sl 1 0 na)), (4, I64 i)], h := [some ⟨2, own, .row 1 n fun j => [.int .i64 (g j)]⟩, some ⟨121, true, .row 5 na fun j => [.int .i64 (P j).k, .int .i64 (P j).i, .int .i64 (P j).a, .int .i64 (P j).b, .string (P j).s]⟩] }) := by kernel_rfl
theorem os_e2 {own : Bool} {o K n : Nat} {g : Nat → Int} {na : Nat} {P : Nat → Opp} {i : Int} : (rT osG nol 1 54 (bodyOf Try.f100 0) osK osK (osO own o K n g na P i)).go [true, true, true, false] = some ([decide (w64 (i + (1 : Int)) < ((K : Nat) : Int)), true, true, !decide (i < (60 : Int))], Ex.exit 0, { sl := slots 30 [(0, .c (.sl 0 o K)), (3, .c (.sl 1 0 na)), (4, I64 i)], h := [some ⟨2, own, .row 1 n fun j => [.int .i64 (g j)]⟩, some ⟨121, true, .row 5 na fun j => [.int .i64 (P j).k, .int .i64 (P j).i, .int .i64 (P j).a, .int .i64 (P j).b, .string (P j).s]⟩] }) := by kernel_rfl
theorem os_w {own : Bool} {o K n : Nat} {g : Nat → Int} {na : Nat} {P : Nat → Opp} {z : Int} : (lfun osG (tell (bodyOf Try.f100 0) (osO own o K n g 0 (fun _ => zOpp) 0) (.exit 0, osO own o K n g na P z)) 60 Try.f100 [.c (.sl 0 o K)] [rowJ own n g]).go [] = some ([yes (wasS (bodyOf Try.f100 0) (osO own o K n g 0 (fun _ => zOpp) 0))], .c (.sl 1 0 na), [some ⟨2, own, .row 1 n fun j => [.int .i64 (g j)]⟩, some ⟨121, true, .row 5 na fun j => [.int .i64 (P j).k, .int .i64 (P j).i, .int .i64 (P j).a, .int .i64 (P j).b, .string (P j).s]⟩]) := by kernel_rfl
def appP (P : Nat → Opp) (n : Nat) (x : Opp) : Nat → Opp := fun q => ⟨bif decide (q = n) then x.k else (P q).k, bif decide (q = n) then x.i else (P q).i, bif decide (q = n) then x.a else (P q).a, bif decide (q = n) then x.b else (P q).b, bif decide (q = n) then x.s else (P q).s⟩
theorem appP_self (P : Nat → Opp) (n : Nat) (x : Opp) : appP P n x n = x := by simp [appP]
theorem appP_ne (P : Nat → Opp) (n : Nat) (x : Opp) {q : Nat} (h : q ≠ n) : appP P n x q = P q := by simp [appP, h]
noncomputable def opsL (g : Nat → Int) : Nat → Nat → Opp
  | 0 => fun _ => zOpp
  | j + 1 => appP (opsL g j) j (opV (g (2 * j)) (g (2 * j + 1)))
theorem opsL_ok (g : Nat → Int) : ∀ N q, q < N → opOk (opsL g N q) = true
  | N + 1, q, h => by
    unfold opsL
    by_cases e : q = N
    · rw [e, appP_self]; exact (opV_ok _ _).1
    · rw [appP_ne _ _ _ e]; exact opsL_ok g N q (by omega)
def osN (K : Nat) : Nat := min (K / 2) 30
theorem os_loop {own : Bool} {o K n : Nat} {g : Nat → Int} (hn : o + K ≤ n) :
    CodeSem osG 1 (.loop (bodyOf Try.f100 0)) (osO own o K n g 0 (fun _ => zOpp) 0) (.exit 0, osO own o K n g (osN K) (opsL (fun j => g (o + j)) (osN K)) ((2 * osN K : Nat) : Int)) := by
  have hN : osN K = min (K / 2) 30 := rfl
  generalize osN K = N at hN
  refine loop_of (fun i => osO own o K n g i (opsL (fun j => g (o + j)) i) ((2 * i : Nat) : Int)) N (by simp) ?_ fun j hj => ?_
  · have e1 := succ64 (j := 2 * N) (by omega)
    by_cases h : 2 * N + 1 < K
    · have h2 : N = 30 := by omega
      subst h2
      exact rT_sem osG_ok noLoopsS (rT_go os_e2 ⟨by rw [e1]; exact decide_eq_true (by omega), rfl, rfl, rfl, trivial⟩)
    · exact rT_sem osG_ok noLoopsS (rT_go os_e1 ⟨by rw [e1, decide_eq_false (by omega)]; rfl, rfl, rfl, rfl, trivial⟩)
  · have e1 := succ64 (j := 2 * j) (by omega)
    have e2 : w64 (((2 * j : Nat) : Int) + 2) = ((2 * (j + 1) : Nat) : Int) := by rw [w64_id (by omega) (by omega)]; omega
    refine rT_sem osG_ok noLoopsS ((rT_go (os_go (own := own) (o := o) (K := K) (n := n) (g := g) (na := j) (P := opsL (fun j => g (o + j)) j) (i := ((2 * j : Nat) : Int))) ?_).trans ?_)
    · simp only [e1, Int.toNat_natCast]
      repeat' (first | exact AllT.nil | refine AllT.cons ?_ ?_)
      all_goals first | (with_reducible rfl) | exact decide_eq_true (by omega) | exact decide_eq_true trivial | exact decide_eq_true (by unfold maxCells; omega)
    · simp only [e1, e2, Int.toNat_natCast]
      rfl
noncomputable def osF : Spec := fun args h => match args, h with
  | [.c (.sl 0 o k)], [some ⟨2, own, .row 1 n f⟩] =>
    .need (yes (o + k ≤ n ∧ f = fun j => v1 (vd (f j)))) (.ret (.c (.sl 1 0 (osN k)), [some ⟨2, own, .row 1 n f⟩, rowP true (osN k) (opsL (fun j => vd (f (o + j))) (osN k))]))
  | _, _ => .fail
theorem osF_ok : SpecOk Try.prog 100 osF := by
  refine knownS KOS_ok Try.func100 fun args h r he => ?_
  unfold osF at he
  split at he
  · rename_i o k own n f
    obtain ⟨⟨h1, h2⟩, he⟩ := Tr.eval_ask.1 he
    cases he
    refine ⟨_, [], 60, _, tell_ok (os_loop (own := own) (g := fun j => vd (f j)) h1), ?_⟩
    have e1 : some ⟨2, own, .row 1 n f⟩ = rowJ own n fun j => vd (f j) := by rw [rowJ, ← h2]
    rw [e1]
    exact Tr.go_eval os_w ⟨yes_of ⟨rfl, rfl⟩, trivial⟩
  · cases he
end
section
open Go Go.RowKit
structure Qd where
  k : Int
  n : Int
  p : Int
  t : Int
  x : Int
  y : Int
  o : List Opp
def rQuery (s : List Int × Bool) : Qd × (List Int × Bool) :=
  bif (rByte s).1 == 1 then
    (⟨1, 0, 0, 0, 0, 0, (rOps (rByte (rByte s).2).1.toNat ((rByte (rByte s).2).2.1, (rByte (rByte s).2).2.2 || decide ((rByte (rByte s).2).1 > 100))).1⟩, (rOps (rByte (rByte s).2).1.toNat ((rByte (rByte s).2).2.1, (rByte (rByte s).2).2.2 || decide ((rByte (rByte s).2).1 > 100))).2)
  else bif (rByte s).1 == 2 || (rByte s).1 == 6 then (⟨(rByte s).1, 0, 0, 0, 0, 0, []⟩, (rByte s).2)
  else bif (rByte s).1 == 3 then (⟨3, 0, (rNum (rByte s).2).1, (rNum (rNum (rByte s).2).2).1, 0, 0, []⟩, (rNum (rNum (rByte s).2).2).2)
  else bif (rByte s).1 == 4 then (⟨4, (rNum (rNum (rNum (rByte s).2).2).2).1, (rNum (rByte s).2).1, (rNum (rNum (rByte s).2).2).1, 0, 0, []⟩, (rNum (rNum (rNum (rByte s).2).2).2).2)
  else bif (rByte s).1 == 5 then (⟨5, 0, (rNum (rByte s).2).1, (rNum (rNum (rByte s).2).2).1, (rNum (rNum (rNum (rByte s).2).2).2).1, (rNum (rNum (rNum (rNum (rByte s).2).2).2).2).1, []⟩, (rNum (rNum (rNum (rNum (rByte s).2).2).2).2).2)
  else (⟨(rByte s).1, 0, 0, 0, 0, 0, []⟩, (rByte s).2.1, true)
def reqB (q : Qd) : List Int := by8 q.k :: (bif q.k == 1 then by8 (q.o.length : Nat) :: q.o.flatMap opB
  else bif q.k == 2 || q.k == 6 then []
  else bif q.k == 3 then four q.p ++ four q.t
  else bif q.k == 4 then four q.p ++ four q.t ++ four q.n
  else four q.p ++ four q.t ++ four q.x ++ four q.y)
/-- What the writer takes; what else must be 0; whether a query can be told. -/
def wrOk (q : Qd) : Bool := bif q.k == 1 then decide (q.o.length ≤ 100) && q.o.all opOk
  else bif q.k == 2 || q.k == 6 then true
  else bif q.k == 3 then fits q.p && fits q.t
  else bif q.k == 4 then fits q.p && fits q.t && fits q.n
  else bif q.k == 5 then fits q.p && fits q.t && fits q.x && fits q.y else false
def bareQ (q : Qd) : Qd := bif q.k == 1 then ⟨1, 0, 0, 0, 0, 0, q.o⟩
  else bif q.k == 2 || q.k == 6 then ⟨q.k, 0, 0, 0, 0, 0, []⟩
  else bif q.k == 3 then ⟨3, 0, q.p, q.t, 0, 0, []⟩
  else bif q.k == 4 then ⟨4, q.n, q.p, q.t, 0, 0, []⟩
  else bif q.k == 5 then ⟨5, 0, q.p, q.t, q.x, q.y, []⟩ else ⟨q.k, 0, 0, 0, 0, 0, []⟩
theorem rQuery_reqB' {q : Qd} (h : wrOk q = true) (l : List Int) : rQuery (reqB q ++ l, false) = (bareQ q, l, false) := by
  obtain ⟨k, n, p, t, x, y, o⟩ := q
  unfold wrOk at h
  simp only at h
  by_cases h1 : k = 1
  · subst h1
    have h' : (decide (o.length ≤ 100) && o.all opOk) = true := h
    rw [Bool.and_eq_true, decide_eq_true_eq, List.all_eq_true] at h'
    have hb : by8 (o.length : Nat) = (o.length : Int) := by unfold by8; omega
    show rQuery (1 :: by8 (o.length : Nat) :: (o.flatMap opB ++ l), false) = _
    have hr := rOps_opB o l h'.2
    have e : rQuery (1 :: by8 (o.length : Nat) :: (o.flatMap opB ++ l), false) = (⟨1, 0, 0, 0, 0, 0, (rOps (by8 (o.length : Nat)).toNat (o.flatMap opB ++ l, false || decide (by8 (o.length : Nat) > 100))).1⟩, (rOps (by8 (o.length : Nat)).toNat (o.flatMap opB ++ l, false || decide (by8 (o.length : Nat) > 100))).2) := rfl
    rw [e, hb, Int.toNat_natCast, decide_eq_false (by omega), Bool.or_false, hr]
    rfl
  by_cases h2 : k = 2
  · subst h2; rfl
  by_cases h6 : k = 6
  · subst h6; rfl
  by_cases h3 : k = 3
  · subst h3
    have h' : (fits p && fits t) = true := h
    rw [Bool.and_eq_true] at h'
    show rQuery (3 :: (four p ++ four t ++ l), false) = _
    rw [List.append_assoc]
    have e : ∀ L, rQuery (3 :: L, false) = (⟨3, 0, (rNum (L, false)).1, (rNum (rNum (L, false)).2).1, 0, 0, []⟩, (rNum (rNum (L, false)).2).2) := fun L => rfl
    rw [e]
    simp only [rNum_four h'.1, rNum_four h'.2]
    rfl
  by_cases h4 : k = 4
  · subst h4
    have h' : (fits p && fits t && fits n) = true := h
    rw [Bool.and_eq_true, Bool.and_eq_true] at h'
    show rQuery (4 :: (four p ++ four t ++ four n ++ l), false) = _
    rw [List.append_assoc, List.append_assoc]
    have e : ∀ L, rQuery (4 :: L, false) = (⟨4, (rNum (rNum (rNum (L, false)).2).2).1, (rNum (L, false)).1, (rNum (rNum (L, false)).2).1, 0, 0, []⟩, (rNum (rNum (rNum (L, false)).2).2).2) := fun L => rfl
    rw [e]
    simp only [rNum_four h'.1.1, rNum_four h'.1.2, rNum_four h'.2]
    rfl
  by_cases h5 : k = 5
  · subst h5
    have h' : (fits p && fits t && fits x && fits y) = true := h
    rw [Bool.and_eq_true, Bool.and_eq_true, Bool.and_eq_true] at h'
    show rQuery (5 :: (four p ++ four t ++ four x ++ four y ++ l), false) = _
    rw [List.append_assoc, List.append_assoc, List.append_assoc]
    have e : ∀ L, rQuery (5 :: L, false) = (⟨5, 0, (rNum (L, false)).1, (rNum (rNum (L, false)).2).1, (rNum (rNum (rNum (L, false)).2).2).1, (rNum (rNum (rNum (rNum (L, false)).2).2).2).1, []⟩, (rNum (rNum (rNum (rNum (L, false)).2).2).2).2) := fun L => rfl
    rw [e]
    simp only [rNum_four h'.1.1.1, rNum_four h'.1.1.2, rNum_four h'.1.2, rNum_four h'.2]
    rfl
  · have b : ∀ c : Int, k ≠ c → (k == c) = false := fun c hc => by rw [beq_eq_false_iff_ne]; exact hc
    simp [b 1 h1, b 2 h2, b 6 h6, b 3 h3, b 4 h4, b 5 h5] at h
theorem rQuery_reqB {q : Qd} (h : wrOk q = true) : rQuery (reqB q, false) = (bareQ q, [], false) := by
  have := rQuery_reqB' h []
  rwa [List.append_nil] at this
/- More bytes behind what was read turn nothing. -/
abbrev Rdr (α : Type) := List Int × Bool → α × (List Int × Bool)
def Extn {α : Type} (f : Rdr α) : Prop := ∀ s M, (f s).2.2 = false → s.2 = false ∧ f (s.1 ++ M, s.2) = ((f s).1, (f s).2.1 ++ M, false)
def bndR {α β : Type} (f : Rdr α) (g : α → Rdr β) : Rdr β := fun s => g (f s).1 (f s).2
theorem Extn.bndR {α β : Type} {f : Rdr α} {g : α → Rdr β} (hf : Extn f) (hg : ∀ a, Extn (g a)) : Extn (bndR f g) := by
  intro s M h
  unfold QAI.bndR at h ⊢
  obtain ⟨h1, h2⟩ := hg _ _ M h
  obtain ⟨h3, h4⟩ := hf s M h1
  refine ⟨h3, ?_⟩
  rw [h4]
  rw [h1] at h2
  exact h2
theorem Extn.pure {α : Type} (a : α) : Extn (fun s => (a, s)) := by
  intro s M h
  have h' : s.2 = false := h
  exact ⟨h', by rw [h']⟩
theorem Extn.ite {α : Type} {c : Bool} {f g : Rdr α} (hf : Extn f) (hg : Extn g) : Extn (fun s => bif c then f s else g s) := by
  cases c
  · exact hg
  · exact hf
theorem ext_byte : Extn rByte := by
  intro s M h
  obtain ⟨L, b⟩ := s
  cases L with
  | nil => cases h
  | cons x l =>
    have h' : b = false := h
    subst h'
    exact ⟨rfl, rfl⟩
theorem ext_num : Extn rNum :=
  ext_byte.bndR fun a => ext_byte.bndR fun b => ext_byte.bndR fun c => ext_byte.bndR fun d => Extn.pure (num4 a b c d)
theorem ext_text : Extn rText := by
  refine ext_byte.bndR (g := fun a => bndR rByte fun b s => bif s.2 || decide (a * 256 + b > (s.1.length : Int)) then (⟨#[]⟩, s.1, true) else (toB (s.1.take (a * 256 + b).toNat), s.1.drop (a * 256 + b).toNat, s.2)) fun a => ext_byte.bndR fun b => ?_
  intro s M h
  obtain ⟨L, bad⟩ := s
  simp only at h ⊢
  by_cases hc : (bad || decide (a * 256 + b > (L.length : Int))) = true
  · rw [hc] at h; cases h
  · rw [Bool.not_eq_true] at hc
    rw [hc] at h ⊢
    rw [Bool.or_eq_false_iff, decide_eq_false_iff_not] at hc
    obtain ⟨rfl, hc⟩ := hc
    refine ⟨rfl, ?_⟩
    have hc2 : ¬ (a * 256 + b > ((L ++ M).length : Int)) := by rw [List.length_append]; omega
    rw [decide_eq_false hc2]
    simp only [Bool.false_or, cond_false]
    rw [List.take_append_of_le_length (by omega), List.drop_append_of_le_length (by omega)]
def rOp' : Rdr Opp := bndR rByte fun k => bndR rNum fun i => bndR rNum fun a => bndR rNum fun b => bndR rText fun t s => (⟨k, i, a, b, t⟩, s.1, s.2 || decide (t.size > 2000))
theorem rOp_eq : rOp = rOp' := by funext s; simp only [rOp, rOp', bndR]
theorem ext_op' : Extn rOp' :=
  ext_byte.bndR fun k => ext_num.bndR fun i => ext_num.bndR fun a => ext_num.bndR fun b => ext_text.bndR (g := fun t s => ((⟨k, i, a, b, t⟩ : Opp), s.1, s.2 || decide (t.size > 2000))) fun t => by
    intro s M h
    obtain ⟨L, bad⟩ := s
    have h' : (bad || decide (t.size > 2000)) = false := h
    rw [Bool.or_eq_false_iff] at h'
    obtain ⟨rfl, h2⟩ := h'
    refine ⟨rfl, ?_⟩
    simp only [h2, Bool.or_false]
theorem ext_op : Extn rOp := by rw [rOp_eq]; exact ext_op'
theorem ext_ops : ∀ n, Extn (rOps n)
  | 0 => Extn.pure []
  | n + 1 => by
    have ih := ext_ops n
    have hb : Extn (bndR rOp fun o => bndR (rOps n) fun r s => (o :: r, s)) := ext_op.bndR fun o => ih.bndR fun r => Extn.pure (o :: r)
    intro s M h
    obtain ⟨L, bad⟩ := s
    cases bad with
    | true => cases h
    | false => exact hb (L, false) M h
theorem ext_query : Extn rQuery := by
  refine ext_byte.bndR (g := fun k s => bif k == 1 then bndR rByte (fun c s => ((⟨1, 0, 0, 0, 0, 0, (rOps c.toNat (s.1, s.2 || decide (c > 100))).1⟩ : Qd), (rOps c.toNat (s.1, s.2 || decide (c > 100))).2)) s
    else bif k == 2 || k == 6 then (⟨k, 0, 0, 0, 0, 0, []⟩, s)
    else bif k == 3 then bndR rNum (fun p => bndR rNum fun t s => ((⟨3, 0, p, t, 0, 0, []⟩ : Qd), s)) s
    else bif k == 4 then bndR rNum (fun p => bndR rNum fun t => bndR rNum fun n s => ((⟨4, n, p, t, 0, 0, []⟩ : Qd), s)) s
    else bif k == 5 then bndR rNum (fun p => bndR rNum fun t => bndR rNum fun x => bndR rNum fun y s => ((⟨5, 0, p, t, x, y, []⟩ : Qd), s)) s
    else (⟨k, 0, 0, 0, 0, 0, []⟩, s.1, true)) fun k => ?_
  refine Extn.ite ?_ (Extn.ite (Extn.pure _) (Extn.ite ?_ (Extn.ite ?_ (Extn.ite ?_ ?_))))
  · refine ext_byte.bndR fun c => ?_
    intro s M h
    obtain ⟨L, bad⟩ := s
    obtain ⟨h1, h2⟩ := ext_ops c.toNat (L, bad || decide (c > 100)) M h
    have h1' : (bad || decide (c > 100)) = false := h1
    have h3 := Bool.or_eq_false_iff.1 h1'
    refine ⟨h3.1, ?_⟩
    simp only at h2 ⊢
    rw [h2]
  · exact ext_num.bndR fun p => ext_num.bndR fun t => Extn.pure _
  · exact ext_num.bndR fun p => ext_num.bndR fun t => ext_num.bndR fun n => Extn.pure _
  · exact ext_num.bndR fun p => ext_num.bndR fun t => ext_num.bndR fun x => ext_num.bndR fun y => Extn.pure _
  · intro s M h; cases h
/-- A byte less than a query, a byte more: none. -/
theorem rQuery_less {q : Qd} (h : wrOk q = true) {L : List Int} {x : Int} (e : L ++ [x] = reqB q) : (rQuery (L, false)).2.2 = true := by
  cases hb : (rQuery (L, false)).2.2 with
  | true => rfl
  | false =>
    obtain ⟨_, h2⟩ := ext_query (L, false) [x] hb
    simp only at h2
    rw [e, rQuery_reqB h] at h2
    have h3 := congrArg (fun z => z.2.1.length) h2
    simp at h3
end
section
open Go Go.RowKit
noncomputable def KLQ : Known := [(100, osF)]
theorem KLQ_ok : KnownOk KLQ := consK osF_ok (by kernel_rfl) nilK
noncomputable def lqG : Ctx2 := GT KLQ (fun _ => []) 0 []
theorem lq_t1 {own : Bool} {n : Int} {K : Nat} {f : Nat → Int} : (lfun lqG nol 60 Try.f112 [I64 n, .c (.sl 0 0 K)] [rowJ own K f]).go [] = some ([true, decide ((0 : Int) ≤ (and64 n 255).tmod 10), decide ((and64 n 255).tmod 10 < ((10 : Nat) : Int)), decide (0 + ((and64 n 255).tmod 10).toNat < 10), true, true, decide (w64 (and64 (n.fdiv (2 ^ min 8 IntKind.i64.bits)) 3 - (1 : Int)) < (0 : Int)), [(1 : Int), (1 : Int), (1 : Int), (2 : Int), (3 : Int), (4 : Int), (5 : Int), (6 : Int), (4 : Int), (5 : Int)].getD (0 + ((and64 n 255).tmod 10).toNat) (0 : Int) == (1 : Int), yes (0 + K ≤ K ∧ (fun j => v1 (f j)) = fun j => v1 (vd (v1 (f j))))], .agg [i64 ([(1 : Int), (1 : Int), (1 : Int), (2 : Int), (3 : Int), (4 : Int), (5 : Int), (6 : Int), (4 : Int), (5 : Int)].getD (0 + ((and64 n 255).tmod 10).toNat) (0 : Int)), i64 0, i64 0, i64 0, i64 0, i64 0, .sl 1 0 (osN K)], [some ⟨2, own, .row 1 K fun j => [.int .i64 (f j)]⟩, some ⟨121, true, .row 5 (osN K) fun j => [.int .i64 (opsL (fun j => vd (v1 (f (0 + j)))) (osN K) j).k, .int .i64 (opsL (fun j => vd (v1 (f (0 + j)))) (osN K) j).i, .int .i64 (opsL (fun j => vd (v1 (f (0 + j)))) (osN K) j).a, .int .i64 (opsL (fun j => vd (v1 (f (0 + j)))) (osN K) j).b, .string (opsL (fun j => vd (v1 (f (0 + j)))) (osN K) j).s]⟩]) := by kernel_rfl
theorem lq_t3 {own : Bool} {n : Int} {K : Nat} {f : Nat → Int} : (lfun lqG nol 60 Try.f112 [I64 n, .c (.sl 0 0 K)] [rowJ own K f]).go [true, true, true, true, true, true, true, false] = some ([true, decide ((0 : Int) ≤ (and64 n 255).tmod 10), decide ((and64 n 255).tmod 10 < ((10 : Nat) : Int)), decide (0 + ((and64 n 255).tmod 10).toNat < 10), true, true, decide (w64 (and64 (n.fdiv (2 ^ min 8 IntKind.i64.bits)) 3 - (1 : Int)) < (0 : Int)), ![(1 : Int), (1 : Int), (1 : Int), (2 : Int), (3 : Int), (4 : Int), (5 : Int), (6 : Int), (4 : Int), (5 : Int)].getD (0 + ((and64 n 255).tmod 10).toNat) (0 : Int) == (1 : Int), [(1 : Int), (1 : Int), (1 : Int), (2 : Int), (3 : Int), (4 : Int), (5 : Int), (6 : Int), (4 : Int), (5 : Int)].getD (0 + ((and64 n 255).tmod 10).toNat) (0 : Int) == (3 : Int)], .agg [i64 ([(1 : Int), (1 : Int), (1 : Int), (2 : Int), (3 : Int), (4 : Int), (5 : Int), (6 : Int), (4 : Int), (5 : Int)].getD (0 + ((and64 n 255).tmod 10).toNat) (0 : Int)), i64 0, i64 (w64 (and64 (n.fdiv (2 ^ min 8 IntKind.i64.bits)) 3 - (1 : Int))), i64 0, i64 0, i64 0, .v (.slice none 0 0)], [some ⟨2, own, .row 1 K fun j => [.int .i64 (f j)]⟩]) := by kernel_rfl
theorem lq_t4 {own : Bool} {n : Int} {K : Nat} {f : Nat → Int} : (lfun lqG nol 60 Try.f112 [I64 n, .c (.sl 0 0 K)] [rowJ own K f]).go [true, true, true, true, true, true, true, false, false] = some ([true, decide ((0 : Int) ≤ (and64 n 255).tmod 10), decide ((and64 n 255).tmod 10 < ((10 : Nat) : Int)), decide (0 + ((and64 n 255).tmod 10).toNat < 10), true, true, decide (w64 (and64 (n.fdiv (2 ^ min 8 IntKind.i64.bits)) 3 - (1 : Int)) < (0 : Int)), ![(1 : Int), (1 : Int), (1 : Int), (2 : Int), (3 : Int), (4 : Int), (5 : Int), (6 : Int), (4 : Int), (5 : Int)].getD (0 + ((and64 n 255).tmod 10).toNat) (0 : Int) == (1 : Int), ![(1 : Int), (1 : Int), (1 : Int), (2 : Int), (3 : Int), (4 : Int), (5 : Int), (6 : Int), (4 : Int), (5 : Int)].getD (0 + ((and64 n 255).tmod 10).toNat) (0 : Int) == (3 : Int), [(1 : Int), (1 : Int), (1 : Int), (2 : Int), (3 : Int), (4 : Int), (5 : Int), (6 : Int), (4 : Int), (5 : Int)].getD (0 + ((and64 n 255).tmod 10).toNat) (0 : Int) == (4 : Int), true, true], .agg [i64 ([(1 : Int), (1 : Int), (1 : Int), (2 : Int), (3 : Int), (4 : Int), (5 : Int), (6 : Int), (4 : Int), (5 : Int)].getD (0 + ((and64 n 255).tmod 10).toNat) (0 : Int)), i64 (w64 ((and64 (n.fdiv (2 ^ min 16 IntKind.i64.bits)) 255).tmod 24 - (1 : Int))), i64 (w64 (and64 (n.fdiv (2 ^ min 8 IntKind.i64.bits)) 3 - (1 : Int))), i64 0, i64 0, i64 0, .v (.slice none 0 0)], [some ⟨2, own, .row 1 K fun j => [.int .i64 (f j)]⟩]) := by kernel_rfl
theorem lq_t5 {own : Bool} {n : Int} {K : Nat} {f : Nat → Int} : (lfun lqG nol 60 Try.f112 [I64 n, .c (.sl 0 0 K)] [rowJ own K f]).go [true, true, true, true, true, true, true, false, false, false] = some ([true, decide ((0 : Int) ≤ (and64 n 255).tmod 10), decide ((and64 n 255).tmod 10 < ((10 : Nat) : Int)), decide (0 + ((and64 n 255).tmod 10).toNat < 10), true, true, decide (w64 (and64 (n.fdiv (2 ^ min 8 IntKind.i64.bits)) 3 - (1 : Int)) < (0 : Int)), ![(1 : Int), (1 : Int), (1 : Int), (2 : Int), (3 : Int), (4 : Int), (5 : Int), (6 : Int), (4 : Int), (5 : Int)].getD (0 + ((and64 n 255).tmod 10).toNat) (0 : Int) == (1 : Int), ![(1 : Int), (1 : Int), (1 : Int), (2 : Int), (3 : Int), (4 : Int), (5 : Int), (6 : Int), (4 : Int), (5 : Int)].getD (0 + ((and64 n 255).tmod 10).toNat) (0 : Int) == (3 : Int), ![(1 : Int), (1 : Int), (1 : Int), (2 : Int), (3 : Int), (4 : Int), (5 : Int), (6 : Int), (4 : Int), (5 : Int)].getD (0 + ((and64 n 255).tmod 10).toNat) (0 : Int) == (4 : Int), [(1 : Int), (1 : Int), (1 : Int), (2 : Int), (3 : Int), (4 : Int), (5 : Int), (6 : Int), (4 : Int), (5 : Int)].getD (0 + ((and64 n 255).tmod 10).toNat) (0 : Int) == (5 : Int), true, true], .agg [i64 ([(1 : Int), (1 : Int), (1 : Int), (2 : Int), (3 : Int), (4 : Int), (5 : Int), (6 : Int), (4 : Int), (5 : Int)].getD (0 + ((and64 n 255).tmod 10).toNat) (0 : Int)), i64 0, i64 (w64 (and64 (n.fdiv (2 ^ min 8 IntKind.i64.bits)) 3 - (1 : Int))), i64 0, i64 (w64 (and64 (n.fdiv (2 ^ min 16 IntKind.i64.bits)) 65535 - (100 : Int))), i64 (w64 (and64 (n.fdiv (2 ^ min 32 IntKind.i64.bits)) 4095 - (100 : Int))), .v (.slice none 0 0)], [some ⟨2, own, .row 1 K fun j => [.int .i64 (f j)]⟩]) := by kernel_rfl
theorem lq_tx {own : Bool} {n : Int} {K : Nat} {f : Nat → Int} : (lfun lqG nol 60 Try.f112 [I64 n, .c (.sl 0 0 K)] [rowJ own K f]).go [true, true, true, true, true, true, true, false, false, false, false] = some ([true, decide ((0 : Int) ≤ (and64 n 255).tmod 10), decide ((and64 n 255).tmod 10 < ((10 : Nat) : Int)), decide (0 + ((and64 n 255).tmod 10).toNat < 10), true, true, decide (w64 (and64 (n.fdiv (2 ^ min 8 IntKind.i64.bits)) 3 - (1 : Int)) < (0 : Int)), ![(1 : Int), (1 : Int), (1 : Int), (2 : Int), (3 : Int), (4 : Int), (5 : Int), (6 : Int), (4 : Int), (5 : Int)].getD (0 + ((and64 n 255).tmod 10).toNat) (0 : Int) == (1 : Int), ![(1 : Int), (1 : Int), (1 : Int), (2 : Int), (3 : Int), (4 : Int), (5 : Int), (6 : Int), (4 : Int), (5 : Int)].getD (0 + ((and64 n 255).tmod 10).toNat) (0 : Int) == (3 : Int), ![(1 : Int), (1 : Int), (1 : Int), (2 : Int), (3 : Int), (4 : Int), (5 : Int), (6 : Int), (4 : Int), (5 : Int)].getD (0 + ((and64 n 255).tmod 10).toNat) (0 : Int) == (4 : Int), ![(1 : Int), (1 : Int), (1 : Int), (2 : Int), (3 : Int), (4 : Int), (5 : Int), (6 : Int), (4 : Int), (5 : Int)].getD (0 + ((and64 n 255).tmod 10).toNat) (0 : Int) == (5 : Int)], .agg [i64 ([(1 : Int), (1 : Int), (1 : Int), (2 : Int), (3 : Int), (4 : Int), (5 : Int), (6 : Int), (4 : Int), (5 : Int)].getD (0 + ((and64 n 255).tmod 10).toNat) (0 : Int)), i64 0, i64 0, i64 0, i64 0, i64 0, .v (.slice none 0 0)], [some ⟨2, own, .row 1 K fun j => [.int .i64 (f j)]⟩]) := by kernel_rfl
theorem lq_f1 {own : Bool} {n : Int} {K : Nat} {f : Nat → Int} : (lfun lqG nol 60 Try.f112 [I64 n, .c (.sl 0 0 K)] [rowJ own K f]).go [true, true, true, true, true, true, false] = some ([true, decide ((0 : Int) ≤ (and64 n 255).tmod 10), decide ((and64 n 255).tmod 10 < ((10 : Nat) : Int)), decide (0 + ((and64 n 255).tmod 10).toNat < 10), true, true, !decide (w64 (and64 (n.fdiv (2 ^ min 8 IntKind.i64.bits)) 3 - (1 : Int)) < (0 : Int)), [(1 : Int), (1 : Int), (1 : Int), (2 : Int), (3 : Int), (4 : Int), (5 : Int), (6 : Int), (4 : Int), (5 : Int)].getD (0 + ((and64 n 255).tmod 10).toNat) (0 : Int) == (1 : Int), yes (0 + K ≤ K ∧ (fun j => v1 (f j)) = fun j => v1 (vd (v1 (f j))))], .agg [i64 ([(1 : Int), (1 : Int), (1 : Int), (2 : Int), (3 : Int), (4 : Int), (5 : Int), (6 : Int), (4 : Int), (5 : Int)].getD (0 + ((and64 n 255).tmod 10).toNat) (0 : Int)), i64 0, i64 0, i64 0, i64 0, i64 0, .sl 1 0 (osN K)], [some ⟨2, own, .row 1 K fun j => [.int .i64 (f j)]⟩, some ⟨121, true, .row 5 (osN K) fun j => [.int .i64 (opsL (fun j => vd (v1 (f (0 + j)))) (osN K) j).k, .int .i64 (opsL (fun j => vd (v1 (f (0 + j)))) (osN K) j).i, .int .i64 (opsL (fun j => vd (v1 (f (0 + j)))) (osN K) j).a, .int .i64 (opsL (fun j => vd (v1 (f (0 + j)))) (osN K) j).b, .string (opsL (fun j => vd (v1 (f (0 + j)))) (osN K) j).s]⟩]) := by kernel_rfl
theorem lq_f3 {own : Bool} {n : Int} {K : Nat} {f : Nat → Int} : (lfun lqG nol 60 Try.f112 [I64 n, .c (.sl 0 0 K)] [rowJ own K f]).go [true, true, true, true, true, true, false, false] = some ([true, decide ((0 : Int) ≤ (and64 n 255).tmod 10), decide ((and64 n 255).tmod 10 < ((10 : Nat) : Int)), decide (0 + ((and64 n 255).tmod 10).toNat < 10), true, true, !decide (w64 (and64 (n.fdiv (2 ^ min 8 IntKind.i64.bits)) 3 - (1 : Int)) < (0 : Int)), ![(1 : Int), (1 : Int), (1 : Int), (2 : Int), (3 : Int), (4 : Int), (5 : Int), (6 : Int), (4 : Int), (5 : Int)].getD (0 + ((and64 n 255).tmod 10).toNat) (0 : Int) == (1 : Int), [(1 : Int), (1 : Int), (1 : Int), (2 : Int), (3 : Int), (4 : Int), (5 : Int), (6 : Int), (4 : Int), (5 : Int)].getD (0 + ((and64 n 255).tmod 10).toNat) (0 : Int) == (3 : Int)], .agg [i64 ([(1 : Int), (1 : Int), (1 : Int), (2 : Int), (3 : Int), (4 : Int), (5 : Int), (6 : Int), (4 : Int), (5 : Int)].getD (0 + ((and64 n 255).tmod 10).toNat) (0 : Int)), i64 0, i64 (w64 (and64 (n.fdiv (2 ^ min 8 IntKind.i64.bits)) 3 - (1 : Int))), i64 (w64 (and64 (n.fdiv (2 ^ min 10 IntKind.i64.bits)) 3 + (1 : Int))), i64 0, i64 0, .v (.slice none 0 0)], [some ⟨2, own, .row 1 K fun j => [.int .i64 (f j)]⟩]) := by kernel_rfl
theorem lq_f4 {own : Bool} {n : Int} {K : Nat} {f : Nat → Int} : (lfun lqG nol 60 Try.f112 [I64 n, .c (.sl 0 0 K)] [rowJ own K f]).go [true, true, true, true, true, true, false, false, false] = some ([true, decide ((0 : Int) ≤ (and64 n 255).tmod 10), decide ((and64 n 255).tmod 10 < ((10 : Nat) : Int)), decide (0 + ((and64 n 255).tmod 10).toNat < 10), true, true, !decide (w64 (and64 (n.fdiv (2 ^ min 8 IntKind.i64.bits)) 3 - (1 : Int)) < (0 : Int)), ![(1 : Int), (1 : Int), (1 : Int), (2 : Int), (3 : Int), (4 : Int), (5 : Int), (6 : Int), (4 : Int), (5 : Int)].getD (0 + ((and64 n 255).tmod 10).toNat) (0 : Int) == (1 : Int), ![(1 : Int), (1 : Int), (1 : Int), (2 : Int), (3 : Int), (4 : Int), (5 : Int), (6 : Int), (4 : Int), (5 : Int)].getD (0 + ((and64 n 255).tmod 10).toNat) (0 : Int) == (3 : Int), [(1 : Int), (1 : Int), (1 : Int), (2 : Int), (3 : Int), (4 : Int), (5 : Int), (6 : Int), (4 : Int), (5 : Int)].getD (0 + ((and64 n 255).tmod 10).toNat) (0 : Int) == (4 : Int), true, true], .agg [i64 ([(1 : Int), (1 : Int), (1 : Int), (2 : Int), (3 : Int), (4 : Int), (5 : Int), (6 : Int), (4 : Int), (5 : Int)].getD (0 + ((and64 n 255).tmod 10).toNat) (0 : Int)), i64 (w64 ((and64 (n.fdiv (2 ^ min 16 IntKind.i64.bits)) 255).tmod 24 - (1 : Int))), i64 (w64 (and64 (n.fdiv (2 ^ min 8 IntKind.i64.bits)) 3 - (1 : Int))), i64 (w64 (and64 (n.fdiv (2 ^ min 10 IntKind.i64.bits)) 3 + (1 : Int))), i64 0, i64 0, .v (.slice none 0 0)], [some ⟨2, own, .row 1 K fun j => [.int .i64 (f j)]⟩]) := by kernel_rfl
theorem lq_f5 {own : Bool} {n : Int} {K : Nat} {f : Nat → Int} : (lfun lqG nol 60 Try.f112 [I64 n, .c (.sl 0 0 K)] [rowJ own K f]).go [true, true, true, true, true, true, false, false, false, false] = some ([true, decide ((0 : Int) ≤ (and64 n 255).tmod 10), decide ((and64 n 255).tmod 10 < ((10 : Nat) : Int)), decide (0 + ((and64 n 255).tmod 10).toNat < 10), true, true, !decide (w64 (and64 (n.fdiv (2 ^ min 8 IntKind.i64.bits)) 3 - (1 : Int)) < (0 : Int)), ![(1 : Int), (1 : Int), (1 : Int), (2 : Int), (3 : Int), (4 : Int), (5 : Int), (6 : Int), (4 : Int), (5 : Int)].getD (0 + ((and64 n 255).tmod 10).toNat) (0 : Int) == (1 : Int), ![(1 : Int), (1 : Int), (1 : Int), (2 : Int), (3 : Int), (4 : Int), (5 : Int), (6 : Int), (4 : Int), (5 : Int)].getD (0 + ((and64 n 255).tmod 10).toNat) (0 : Int) == (3 : Int), ![(1 : Int), (1 : Int), (1 : Int), (2 : Int), (3 : Int), (4 : Int), (5 : Int), (6 : Int), (4 : Int), (5 : Int)].getD (0 + ((and64 n 255).tmod 10).toNat) (0 : Int) == (4 : Int), [(1 : Int), (1 : Int), (1 : Int), (2 : Int), (3 : Int), (4 : Int), (5 : Int), (6 : Int), (4 : Int), (5 : Int)].getD (0 + ((and64 n 255).tmod 10).toNat) (0 : Int) == (5 : Int), true, true], .agg [i64 ([(1 : Int), (1 : Int), (1 : Int), (2 : Int), (3 : Int), (4 : Int), (5 : Int), (6 : Int), (4 : Int), (5 : Int)].getD (0 + ((and64 n 255).tmod 10).toNat) (0 : Int)), i64 0, i64 (w64 (and64 (n.fdiv (2 ^ min 8 IntKind.i64.bits)) 3 - (1 : Int))), i64 (w64 (and64 (n.fdiv (2 ^ min 10 IntKind.i64.bits)) 3 + (1 : Int))), i64 (w64 (and64 (n.fdiv (2 ^ min 16 IntKind.i64.bits)) 65535 - (100 : Int))), i64 (w64 (and64 (n.fdiv (2 ^ min 32 IntKind.i64.bits)) 4095 - (100 : Int))), .v (.slice none 0 0)], [some ⟨2, own, .row 1 K fun j => [.int .i64 (f j)]⟩]) := by kernel_rfl
theorem lq_fx {own : Bool} {n : Int} {K : Nat} {f : Nat → Int} : (lfun lqG nol 60 Try.f112 [I64 n, .c (.sl 0 0 K)] [rowJ own K f]).go [true, true, true, true, true, true, false, false, false, false, false] = some ([true, decide ((0 : Int) ≤ (and64 n 255).tmod 10), decide ((and64 n 255).tmod 10 < ((10 : Nat) : Int)), decide (0 + ((and64 n 255).tmod 10).toNat < 10), true, true, !decide (w64 (and64 (n.fdiv (2 ^ min 8 IntKind.i64.bits)) 3 - (1 : Int)) < (0 : Int)), ![(1 : Int), (1 : Int), (1 : Int), (2 : Int), (3 : Int), (4 : Int), (5 : Int), (6 : Int), (4 : Int), (5 : Int)].getD (0 + ((and64 n 255).tmod 10).toNat) (0 : Int) == (1 : Int), ![(1 : Int), (1 : Int), (1 : Int), (2 : Int), (3 : Int), (4 : Int), (5 : Int), (6 : Int), (4 : Int), (5 : Int)].getD (0 + ((and64 n 255).tmod 10).toNat) (0 : Int) == (3 : Int), ![(1 : Int), (1 : Int), (1 : Int), (2 : Int), (3 : Int), (4 : Int), (5 : Int), (6 : Int), (4 : Int), (5 : Int)].getD (0 + ((and64 n 255).tmod 10).toNat) (0 : Int) == (4 : Int), ![(1 : Int), (1 : Int), (1 : Int), (2 : Int), (3 : Int), (4 : Int), (5 : Int), (6 : Int), (4 : Int), (5 : Int)].getD (0 + ((and64 n 255).tmod 10).toNat) (0 : Int) == (5 : Int)], .agg [i64 ([(1 : Int), (1 : Int), (1 : Int), (2 : Int), (3 : Int), (4 : Int), (5 : Int), (6 : Int), (4 : Int), (5 : Int)].getD (0 + ((and64 n 255).tmod 10).toNat) (0 : Int)), i64 0, i64 0, i64 0, i64 0, i64 0, .v (.slice none 0 0)], [some ⟨2, own, .row 1 K fun j => [.int .i64 (f j)]⟩]) := by kernel_rfl
end
end Go.Proofs.Ytcpahifgdppkbaa.QAI
