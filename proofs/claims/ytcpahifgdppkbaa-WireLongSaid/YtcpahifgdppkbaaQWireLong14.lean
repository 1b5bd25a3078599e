/- WireLong: it is true. -/
import Derived.Test.YtcpahifgdppkbaaQWireLong13
set_option linter.unusedVariables false
set_option linter.unusedSimpArgs false
set_option maxRecDepth 100000
namespace Go.Proofs.Ytcpahifgdppkbaa.QAI
section
open Go Go.RowKit
theorem bytesOf_size (f : Nat → List Value) (i n : Nat) : (bytesOf f i n).size = n := by
  unfold bytesOf
  show ((List.range n).map _).toArray.size = n
  simp
def okb (q : Qd) : Bool := wrOk q && ((bareQ q).n == q.n && ((bareQ q).p == q.p && ((bareQ q).t == q.t && ((bareQ q).x == q.x && ((bareQ q).y == q.y && (bareQ q).o.length == q.o.length)))))
theorem okb_no {q : Qd} (h : okb q = false) (hr : reqOk q) : False := by
  obtain ⟨h1, h2⟩ := hr
  unfold okb at h
  rw [h2, h1] at h
  simp at h
theorem big_no : opOk ⟨0, 0, 0, 0, bytesOf (fun _ => [.int .u8 0]) 0 2001⟩ = false := by
  have e := bytesOf_size (fun _ => [.int .u8 0]) 0 2001
  generalize bytesOf (fun _ => [.int .u8 0]) 0 2001 = s at e ⊢
  unfold opOk
  have h : decide (s.size ≤ 2000) = false := decide_eq_false (by omega)
  show (_ && decide (s.size ≤ 2000)) = false
  rw [h, Bool.and_false]
theorem wqLen_hi (P : Nat → Opp) : ∀ m, (∀ q, q < m → opOk (P q) = true) → wqLen P 2 m ≤ 2 + 2015 * m
  | 0, _ => Nat.le_refl _
  | m + 1, h => by
    have h1 := wqLen_hi P m fun q hq => h q (by omega)
    have h2 := h m (by omega)
    unfold opOk at h2
    rw [Bool.and_eq_true, decide_eq_true_eq] at h2
    have h3 := h2.2
    show wqLen P 2 m + 1 + 1 + 1 + 1 + 1 + 1 + 1 + 1 + 1 + 1 + 1 + 1 + 1 + 2 + (P m).s.size ≤ _
    omega
theorem wl_loop {k : Nat} {f : Nat → Int} {wh : Int} {m : Nat} {P : Nat → Opp} (hW : wqLen P 2 m ≤ maxCells) :
    CodeSem wlG 1 (.loop (bodyOf Try.f37 0)) (wlS k f wh m P 2 0) (.exit 0, wlS k f wh m P (wqLen P 2 m : Nat) (m : Nat)) := by
  have h0 := wqLen_le P 2 0 m
  rw [Nat.zero_add] at h0
  have hM : maxCells < 2 ^ 60 := by unfold maxCells; omega
  refine loop_of (fun i => wlS k f wh m P (wqLen P 2 i : Nat) (i : Nat)) m (by simp) ?_ fun j hj => ?_
  · exact rT_sem wlG_ok noLoopsS (rT_go wl_e ⟨by rw [decide_eq_false (by omega)]; rfl, trivial⟩)
  · have e1 := succ64 (j := j) (by omega)
    have h1 := wqLen_le P 2 (j + 1) (m - (j + 1))
    rw [show j + 1 + (m - (j + 1)) = m by omega] at h1
    have h2 : wqLen P 2 (j + 1) = wqLen P 2 j + 1 + 1 + 1 + 1 + 1 + 1 + 1 + 1 + 1 + 1 + 1 + 1 + 1 + 2 + (P j).s.size := rfl
    have e2 : w64 (w64 (((wqLen P 2 j : Nat) : Int) + 15) + (((P j).s.size : Nat) : Int)) = ((wqLen P 2 (j + 1) : Nat) : Int) := by
      rw [w64_id (x := ((wqLen P 2 j : Nat) : Int) + 15) (by omega) (by omega), w64_id (by omega) (by omega)]; omega
    refine rT_sem wlG_ok noLoopsS ((rT_go wl_go ?_).trans ?_)
    · simp only [Int.toNat_natCast, Nat.zero_add]
      repeat' (first | exact AllT.nil | refine AllT.cons ?_ ?_)
      all_goals first | (with_reducible rfl) | exact decide_eq_true (by omega)
    · simp only [Int.toNat_natCast, Nat.zero_add, e1, e2]
      rfl
theorem wireLong_true (k : Nat) (f : Nat → Int) (wh : Int) : ∃ keep tm d ℓ, LoopsSem (GT KWL keep 0 tm) 1 ℓ ∧ (lfun (GT KWL keep 0 tm) ℓ d Try.f37 [.c (.sl 0 0 k), I64 wh] [rowJ false k f]).eval = some (Bo true, [rowJ false k f]) := by
  have hok := opsL_ok (fun j => f (0 + j)) (osN k)
  have hm : osN k ≤ 30 := Nat.min_le_right _ _
  have hW0 := wqLen_hi _ _ hok
  have hW : wqLen (opsL (fun j => f (0 + j)) (osN k)) 2 (osN k) ≤ maxCells := by unfold maxCells; omega
  have hR1 : reqOk ⟨1, 0, 0, 0, 0, 0, opsP (opsL (fun j => f (0 + j)) (osN k)) (osN k)⟩ := by
    refine ⟨?_, rfl⟩
    show (decide ((opsP (opsL (fun j => f (0 + j)) (osN k)) (osN k)).length ≤ 100) && (opsP (opsL (fun j => f (0 + j)) (osN k)) (osN k)).all opOk) = true
    rw [opsP_len, decide_eq_true (by omega), Bool.true_and, List.all_eq_true]
    intro x hx
    obtain ⟨q, hq, rfl⟩ := List.mem_map.1 hx
    exact hok q (List.mem_range.1 hq)
  have hR5 : reqOk ⟨5, 0, 0, 0, 2147483647, -2147483648, []⟩ := ⟨by kernel_rfl, by kernel_rfl⟩
  have hl0 := (wq_ops (opsL (fun j => f (0 + j)) (osN k)) (osN k) ⟨1, 0, 0, 0, 0, 0, opsP (opsL (fun j => f (0 + j)) (osN k)) (osN k)⟩ rfl rfl).1
  have hN : (!((((reqB ⟨1, 0, 0, 0, 0, 0, opsP (opsL (fun j => f (0 + j)) (osN k)) (osN k)⟩).length : Nat) : Int) != ((wqLen (opsL (fun j => f (0 + j)) (osN k)) 2 (osN k) : Nat) : Int))) = true := by rw [hl0]; simp
  have hD : decInt 0 (mnI 0 ((osN k : Nat) : Int)) (osN k) = true := by
    rw [mnI_eq]; unfold decInt; simp only [Bool.and_eq_true, decide_eq_true_eq]; omega
  have hl := wl_loop (k := k) (f := f) (wh := wh) hW
  have ha : and64 wh 255 = wh % (2 ^ 8 : Int) := and_mask 8 (by omega) wh 255 (by decide)
  have hb : 0 ≤ wh % (2 ^ 8 : Int) ∧ wh % (2 ^ 8 : Int) < 256 := by omega
  have ht : (and64 wh 255).tmod ((16 : Nat) : Int) = (wh % (2 ^ 8 : Int)) % 16 := by rw [ha]; exact Int.tmod_eq_emod_of_nonneg hb.1
  have hr : 0 ≤ (and64 wh 255).tmod ((16 : Nat) : Int) ∧ (and64 wh 255).tmod ((16 : Nat) : Int) < 16 := by rw [ht]; omega
  generalize hz : (and64 wh 255).tmod ((16 : Nat) : Int) = z at hr
  have g0 : decide ((0 : Int) ≤ (and64 wh 255).tmod ((16 : Nat) : Int)) = true := decide_eq_true (by rw [hz]; omega)
  have g1 : decide ((and64 wh 255).tmod ((16 : Nat) : Int) < ((16 : Nat) : Int)) = true := decide_eq_true (by rw [hz]; omega)
  refine ⟨(fun k => if k = 4 then wlK else []), [], 60, _, tell_ok hl, ?_⟩
  by_cases h0 : z = 0
  · exact (Tr.go_eval (wl_0 (P := fun _ => zOpp)) ⟨yes_of ⟨by omega, rfl⟩, yes_of ⟨rfl, rfl⟩, yes_of ⟨rfl, fun _ => ⟨rfl, hW⟩⟩, yes_of hR1, rfl, rfl, rfl, rfl, rfl, hN, rfl, rfl, rfl, rfl, rfl, rfl, rfl, rfl, hD, rfl, g0, g1, decide_eq_true (by omega), not_eq (yes_no fun h => okb_no (by kernel_rfl) h), yes_of hR5, rfl, rfl, rfl, rfl, rfl, rfl, rfl, rfl, rfl, rfl, rfl, rfl, trivial⟩).trans rfl
  by_cases h1 : z = 1
  · exact (Tr.go_eval (wl_1 (P := fun _ => zOpp)) ⟨yes_of ⟨by omega, rfl⟩, yes_of ⟨rfl, rfl⟩, yes_of ⟨rfl, fun _ => ⟨rfl, hW⟩⟩, yes_of hR1, rfl, rfl, rfl, rfl, rfl, hN, rfl, rfl, rfl, rfl, rfl, rfl, rfl, rfl, hD, rfl, g0, g1, not_eq (decide_eq_false (by omega)), decide_eq_true (by omega), not_eq (yes_no fun h => okb_no (by kernel_rfl) h), yes_of hR5, rfl, rfl, rfl, rfl, rfl, rfl, rfl, rfl, rfl, rfl, rfl, rfl, trivial⟩).trans rfl
  by_cases h2 : z = 2
  · exact (Tr.go_eval (wl_2 (P := fun _ => zOpp)) ⟨yes_of ⟨by omega, rfl⟩, yes_of ⟨rfl, rfl⟩, yes_of ⟨rfl, fun _ => ⟨rfl, hW⟩⟩, yes_of hR1, rfl, rfl, rfl, rfl, rfl, hN, rfl, rfl, rfl, rfl, rfl, rfl, rfl, rfl, hD, rfl, g0, g1, not_eq (decide_eq_false (by omega)), not_eq (decide_eq_false (by omega)), decide_eq_true (by omega), not_eq (yes_no fun h => okb_no (by kernel_rfl) h), yes_of hR5, rfl, rfl, rfl, rfl, rfl, rfl, rfl, rfl, rfl, rfl, rfl, rfl, trivial⟩).trans rfl
  by_cases h3 : z = 3
  · exact (Tr.go_eval (wl_3 (P := fun _ => zOpp)) ⟨yes_of ⟨by omega, rfl⟩, yes_of ⟨rfl, rfl⟩, yes_of ⟨rfl, fun _ => ⟨rfl, hW⟩⟩, yes_of hR1, rfl, rfl, rfl, rfl, rfl, hN, rfl, rfl, rfl, rfl, rfl, rfl, rfl, rfl, hD, rfl, g0, g1, not_eq (decide_eq_false (by omega)), not_eq (decide_eq_false (by omega)), not_eq (decide_eq_false (by omega)), decide_eq_true (by omega), yes_of ⟨rfl, fun _ => ⟨rfl, Nat.le_of_ble_eq_true (by kernel_rfl)⟩⟩, not_eq (yes_no fun h => okb_no (by kernel_rfl) h), yes_of hR5, rfl, rfl, rfl, rfl, rfl, rfl, rfl, rfl, rfl, rfl, rfl, rfl, trivial⟩).trans rfl
  by_cases h4 : z = 4
  · exact (Tr.go_eval (wl_4 (P := fun _ => zOpp)) ⟨yes_of ⟨by omega, rfl⟩, yes_of ⟨rfl, rfl⟩, yes_of ⟨rfl, fun _ => ⟨rfl, hW⟩⟩, yes_of hR1, rfl, rfl, rfl, rfl, rfl, hN, rfl, rfl, rfl, rfl, rfl, rfl, rfl, rfl, hD, rfl, g0, g1, not_eq (decide_eq_false (by omega)), not_eq (decide_eq_false (by omega)), not_eq (decide_eq_false (by omega)), not_eq (decide_eq_false (by omega)), decide_eq_true (by omega), yes_of ⟨rfl, by rw [bytesOf_size]; unfold maxCells; omega, big_no⟩, yes_of hR5, rfl, rfl, rfl, rfl, rfl, rfl, rfl, rfl, rfl, rfl, rfl, rfl, trivial⟩).trans rfl
  by_cases h5 : z = 5
  · exact (Tr.go_eval (wl_5 (P := fun _ => zOpp)) ⟨yes_of ⟨by omega, rfl⟩, yes_of ⟨rfl, rfl⟩, yes_of ⟨rfl, fun _ => ⟨rfl, hW⟩⟩, yes_of hR1, rfl, rfl, rfl, rfl, rfl, hN, rfl, rfl, rfl, rfl, rfl, rfl, rfl, rfl, hD, rfl, g0, g1, not_eq (decide_eq_false (by omega)), not_eq (decide_eq_false (by omega)), not_eq (decide_eq_false (by omega)), not_eq (decide_eq_false (by omega)), not_eq (decide_eq_false (by omega)), decide_eq_true (by omega), yes_of ⟨rfl, by show 0 + 17 ≤ maxCells; unfold maxCells; omega, by kernel_rfl⟩, yes_of hR5, rfl, rfl, rfl, rfl, rfl, rfl, rfl, rfl, rfl, rfl, rfl, rfl, trivial⟩).trans rfl
  by_cases h6 : z = 6
  · exact (Tr.go_eval (wl_6 (P := fun _ => zOpp)) ⟨yes_of ⟨by omega, rfl⟩, yes_of ⟨rfl, rfl⟩, yes_of ⟨rfl, fun _ => ⟨rfl, hW⟩⟩, yes_of hR1, rfl, rfl, rfl, rfl, rfl, hN, rfl, rfl, rfl, rfl, rfl, rfl, rfl, rfl, hD, rfl, g0, g1, not_eq (decide_eq_false (by omega)), not_eq (decide_eq_false (by omega)), not_eq (decide_eq_false (by omega)), not_eq (decide_eq_false (by omega)), not_eq (decide_eq_false (by omega)), not_eq (decide_eq_false (by omega)), decide_eq_true (by omega), yes_of ⟨rfl, by show 0 + 17 ≤ maxCells; unfold maxCells; omega, by kernel_rfl⟩, yes_of hR5, rfl, rfl, rfl, rfl, rfl, rfl, rfl, rfl, rfl, rfl, rfl, rfl, trivial⟩).trans rfl
  by_cases h7 : z = 7
  · exact (Tr.go_eval (wl_7 (P := fun _ => zOpp)) ⟨yes_of ⟨by omega, rfl⟩, yes_of ⟨rfl, rfl⟩, yes_of ⟨rfl, fun _ => ⟨rfl, hW⟩⟩, yes_of hR1, rfl, rfl, rfl, rfl, rfl, hN, rfl, rfl, rfl, rfl, rfl, rfl, rfl, rfl, hD, rfl, g0, g1, not_eq (decide_eq_false (by omega)), not_eq (decide_eq_false (by omega)), not_eq (decide_eq_false (by omega)), not_eq (decide_eq_false (by omega)), not_eq (decide_eq_false (by omega)), not_eq (decide_eq_false (by omega)), not_eq (decide_eq_false (by omega)), decide_eq_true (by omega), not_eq (yes_no fun h => okb_no (by kernel_rfl) h), yes_of hR5, rfl, rfl, rfl, rfl, rfl, rfl, rfl, rfl, rfl, rfl, rfl, rfl, trivial⟩).trans rfl
  by_cases h8 : z = 8
  · exact (Tr.go_eval (wl_8 (P := fun _ => zOpp)) ⟨yes_of ⟨by omega, rfl⟩, yes_of ⟨rfl, rfl⟩, yes_of ⟨rfl, fun _ => ⟨rfl, hW⟩⟩, yes_of hR1, rfl, rfl, rfl, rfl, rfl, hN, rfl, rfl, rfl, rfl, rfl, rfl, rfl, rfl, hD, rfl, g0, g1, not_eq (decide_eq_false (by omega)), not_eq (decide_eq_false (by omega)), not_eq (decide_eq_false (by omega)), not_eq (decide_eq_false (by omega)), not_eq (decide_eq_false (by omega)), not_eq (decide_eq_false (by omega)), not_eq (decide_eq_false (by omega)), not_eq (decide_eq_false (by omega)), decide_eq_true (by omega), not_eq (yes_no fun h => okb_no (by kernel_rfl) h), yes_of hR5, rfl, rfl, rfl, rfl, rfl, rfl, rfl, rfl, rfl, rfl, rfl, rfl, trivial⟩).trans rfl
  by_cases h9 : z = 9
  · exact (Tr.go_eval (wl_9 (P := fun _ => zOpp)) ⟨yes_of ⟨by omega, rfl⟩, yes_of ⟨rfl, rfl⟩, yes_of ⟨rfl, fun _ => ⟨rfl, hW⟩⟩, yes_of hR1, rfl, rfl, rfl, rfl, rfl, hN, rfl, rfl, rfl, rfl, rfl, rfl, rfl, rfl, hD, rfl, g0, g1, not_eq (decide_eq_false (by omega)), not_eq (decide_eq_false (by omega)), not_eq (decide_eq_false (by omega)), not_eq (decide_eq_false (by omega)), not_eq (decide_eq_false (by omega)), not_eq (decide_eq_false (by omega)), not_eq (decide_eq_false (by omega)), not_eq (decide_eq_false (by omega)), not_eq (decide_eq_false (by omega)), decide_eq_true (by omega), not_eq (yes_no fun h => okb_no (by kernel_rfl) h), yes_of hR5, rfl, rfl, rfl, rfl, rfl, rfl, rfl, rfl, rfl, rfl, rfl, rfl, trivial⟩).trans rfl
  by_cases h10 : z = 10
  · exact (Tr.go_eval (wl_10 (P := fun _ => zOpp)) ⟨yes_of ⟨by omega, rfl⟩, yes_of ⟨rfl, rfl⟩, yes_of ⟨rfl, fun _ => ⟨rfl, hW⟩⟩, yes_of hR1, rfl, rfl, rfl, rfl, rfl, hN, rfl, rfl, rfl, rfl, rfl, rfl, rfl, rfl, hD, rfl, g0, g1, not_eq (decide_eq_false (by omega)), not_eq (decide_eq_false (by omega)), not_eq (decide_eq_false (by omega)), not_eq (decide_eq_false (by omega)), not_eq (decide_eq_false (by omega)), not_eq (decide_eq_false (by omega)), not_eq (decide_eq_false (by omega)), not_eq (decide_eq_false (by omega)), not_eq (decide_eq_false (by omega)), not_eq (decide_eq_false (by omega)), decide_eq_true (by omega), not_eq (yes_no fun h => okb_no (by kernel_rfl) h), yes_of hR5, rfl, rfl, rfl, rfl, rfl, rfl, rfl, rfl, rfl, rfl, rfl, rfl, trivial⟩).trans rfl
  by_cases h11 : z = 11
  · exact (Tr.go_eval (wl_11 (P := fun _ => zOpp)) ⟨yes_of ⟨by omega, rfl⟩, yes_of ⟨rfl, rfl⟩, yes_of ⟨rfl, fun _ => ⟨rfl, hW⟩⟩, yes_of hR1, rfl, rfl, rfl, rfl, rfl, hN, rfl, rfl, rfl, rfl, rfl, rfl, rfl, rfl, hD, rfl, g0, g1, not_eq (decide_eq_false (by omega)), not_eq (decide_eq_false (by omega)), not_eq (decide_eq_false (by omega)), not_eq (decide_eq_false (by omega)), not_eq (decide_eq_false (by omega)), not_eq (decide_eq_false (by omega)), not_eq (decide_eq_false (by omega)), not_eq (decide_eq_false (by omega)), not_eq (decide_eq_false (by omega)), not_eq (decide_eq_false (by omega)), not_eq (decide_eq_false (by omega)), decide_eq_true (by omega), not_eq (yes_no fun h => okb_no (by kernel_rfl) h), yes_of hR5, rfl, rfl, rfl, rfl, rfl, rfl, rfl, rfl, rfl, rfl, rfl, rfl, trivial⟩).trans rfl
  by_cases h12 : z = 12
  · exact (Tr.go_eval (wl_12 (P := fun _ => zOpp)) ⟨yes_of ⟨by omega, rfl⟩, yes_of ⟨rfl, rfl⟩, yes_of ⟨rfl, fun _ => ⟨rfl, hW⟩⟩, yes_of hR1, rfl, rfl, rfl, rfl, rfl, hN, rfl, rfl, rfl, rfl, rfl, rfl, rfl, rfl, hD, rfl, g0, g1, not_eq (decide_eq_false (by omega)), not_eq (decide_eq_false (by omega)), not_eq (decide_eq_false (by omega)), not_eq (decide_eq_false (by omega)), not_eq (decide_eq_false (by omega)), not_eq (decide_eq_false (by omega)), not_eq (decide_eq_false (by omega)), not_eq (decide_eq_false (by omega)), not_eq (decide_eq_false (by omega)), not_eq (decide_eq_false (by omega)), not_eq (decide_eq_false (by omega)), not_eq (decide_eq_false (by omega)), decide_eq_true (by omega), not_eq (yes_no fun h => okb_no (by kernel_rfl) h), yes_of hR5, rfl, rfl, rfl, rfl, rfl, rfl, rfl, rfl, rfl, rfl, rfl, rfl, trivial⟩).trans rfl
  by_cases h13 : z = 13
  · exact (Tr.go_eval (wl_13 (P := fun _ => zOpp)) ⟨yes_of ⟨by omega, rfl⟩, yes_of ⟨rfl, rfl⟩, yes_of ⟨rfl, fun _ => ⟨rfl, hW⟩⟩, yes_of hR1, rfl, rfl, rfl, rfl, rfl, hN, rfl, rfl, rfl, rfl, rfl, rfl, rfl, rfl, hD, rfl, g0, g1, not_eq (decide_eq_false (by omega)), not_eq (decide_eq_false (by omega)), not_eq (decide_eq_false (by omega)), not_eq (decide_eq_false (by omega)), not_eq (decide_eq_false (by omega)), not_eq (decide_eq_false (by omega)), not_eq (decide_eq_false (by omega)), not_eq (decide_eq_false (by omega)), not_eq (decide_eq_false (by omega)), not_eq (decide_eq_false (by omega)), not_eq (decide_eq_false (by omega)), not_eq (decide_eq_false (by omega)), not_eq (decide_eq_false (by omega)), decide_eq_true (by omega), not_eq (yes_no fun h => okb_no (by kernel_rfl) h), yes_of hR5, rfl, rfl, rfl, rfl, rfl, rfl, rfl, rfl, rfl, rfl, rfl, rfl, trivial⟩).trans rfl
  by_cases h14 : z = 14
  · exact (Tr.go_eval (wl_14 (P := fun _ => zOpp)) ⟨yes_of ⟨by omega, rfl⟩, yes_of ⟨rfl, rfl⟩, yes_of ⟨rfl, fun _ => ⟨rfl, hW⟩⟩, yes_of hR1, rfl, rfl, rfl, rfl, rfl, hN, rfl, rfl, rfl, rfl, rfl, rfl, rfl, rfl, hD, rfl, g0, g1, not_eq (decide_eq_false (by omega)), not_eq (decide_eq_false (by omega)), not_eq (decide_eq_false (by omega)), not_eq (decide_eq_false (by omega)), not_eq (decide_eq_false (by omega)), not_eq (decide_eq_false (by omega)), not_eq (decide_eq_false (by omega)), not_eq (decide_eq_false (by omega)), not_eq (decide_eq_false (by omega)), not_eq (decide_eq_false (by omega)), not_eq (decide_eq_false (by omega)), not_eq (decide_eq_false (by omega)), not_eq (decide_eq_false (by omega)), not_eq (decide_eq_false (by omega)), decide_eq_true (by omega), not_eq (yes_no fun h => okb_no (by kernel_rfl) h), yes_of hR5, rfl, rfl, rfl, rfl, rfl, rfl, rfl, rfl, rfl, rfl, rfl, rfl, trivial⟩).trans rfl
  by_cases h15 : z = 15
  · exact (Tr.go_eval (wl_15 (P := fun _ => zOpp)) ⟨yes_of ⟨by omega, rfl⟩, yes_of ⟨rfl, rfl⟩, yes_of ⟨rfl, fun _ => ⟨rfl, hW⟩⟩, yes_of hR1, rfl, rfl, rfl, rfl, rfl, hN, rfl, rfl, rfl, rfl, rfl, rfl, rfl, rfl, hD, rfl, g0, g1, not_eq (decide_eq_false (by omega)), not_eq (decide_eq_false (by omega)), not_eq (decide_eq_false (by omega)), not_eq (decide_eq_false (by omega)), not_eq (decide_eq_false (by omega)), not_eq (decide_eq_false (by omega)), not_eq (decide_eq_false (by omega)), not_eq (decide_eq_false (by omega)), not_eq (decide_eq_false (by omega)), not_eq (decide_eq_false (by omega)), not_eq (decide_eq_false (by omega)), not_eq (decide_eq_false (by omega)), not_eq (decide_eq_false (by omega)), not_eq (decide_eq_false (by omega)), not_eq (decide_eq_false (by omega)), decide_eq_true (by omega), yes_of ⟨rfl, fun h => absurd h (by decide)⟩, not_eq (yes_no fun h => okb_no (by kernel_rfl) h), yes_of hR5, rfl, rfl, rfl, rfl, rfl, rfl, rfl, rfl, rfl, rfl, rfl, rfl, trivial⟩).trans rfl
  · omega
def wireLongS : List Shp := [.rows 2 [.int .i64], .one (.int .i64)]
theorem wireLong_core : ∀ is, InsOk wireLongS is → ∃ keep tm d ℓ, LoopsSem (GT KWL keep 0 tm) (blksIn wireLongS is).length ℓ ∧ (lfun (GT KWL keep 0 tm) ℓ d Try.f37 (avsIn 0 wireLongS is) (blksIn wireLongS is)).eval = some (Bo true, blksIn wireLongS is) := by
  intro is0 h0
  obtain ⟨k1, v1, is1, rfl, h1, _⟩ := ins_ints h0
  obtain ⟨v2, is2, rfl, h2⟩ := ins_i64 h1
  obtain rfl := ins_nil h2
  exact wireLong_true k1 v1 v2
end
end Go.Proofs.Ytcpahifgdppkbaa.QAI
