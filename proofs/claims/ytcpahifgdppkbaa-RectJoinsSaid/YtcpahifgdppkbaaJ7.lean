/- RectJoins: the end. -/
import Derived.Test.YtcpahifgdppkbaaJ6
set_option linter.unusedVariables false
set_option linter.unusedSimpArgs false
namespace Go.Proofs.Ytcpahifgdppkbaa.QAI
open Go Go.RowKit
set_option maxRecDepth 100000
theorem rowOf_row (ti : TI) (a b : Nat) (f : Nat → List Value) : (rowOf ti (Cont.row a b f)).n = b := rfl
theorem rowOf_nil (z : List AC) : (rowOf ti44 (Cont.lst 4 [] z)).n = 0 := rfl
theorem wr_b {t : Nat → Rc} (ht : ∀ j, RcB (t j)) (C n j : Nat) : RcB (wr t C n j) := by
  unfold wr
  split
  · exact ht _
  · split
    · exact ht _
    · simp only [RcB]; omega
theorem box_w {A B R D : Int} (h : BoxOk A B R D) : w64 (A + w64 (R - A)) = R ∧ w64 (B + w64 (D - B)) = D := by
  obtain ⟨ha, hb, hr, hd⟩ := h
  rw [w64_in (x := R - A) (by omega), w64_in (x := D - B) (by omega), w64_in (by omega), w64_in (by omega)]
  omega
theorem rowOk_of (t : Nat → Rc) {o k n : Nat} (h : 0 < k) (h' : o + k ≤ n) (h'' : k < 2 ^ 60) : rowOk (fun j => encR (t j)) o k n := ⟨h, h', h'', rfl⟩
theorem rectJoins_true (k : Nat) (g : Nat → Rc) (c : Int) (z : Bool) : (afun (rjnG 21) 60 Try.f9 [.c (.sl 0 0 k), I64 c, Bo z] [rowR false k g]).eval = some (Bo true, [rowR false k g]) := by
  obtain ⟨m, bx, b1, p, q, h20, hk, hl⟩ := jl_loop (L := 21) (k := k) (g := g) (c := c) (z := z) (by omega)
  have ht := tm_b z g m
  by_cases h0 : m = 0
  · subst h0
    exact lfun_go (h := [rowR false k g]) (told_ok hl) jw_0 ⟨yes_of ⟨rfl, rfl, rfl⟩, rfl, rfl, rfl, rfl, trivial⟩
  · have hm : 0 < m := by omega
    refine lfun_go (h := [rowR false k g]) (byReg_ok (told_ok hl) (told_ok (jq_loop hm h20 (by omega) ht))) jw_2 ?_
    generalize trR z g m = t at *
    have ha := and_mask 8 (by decide) c 255 rfl
    generalize hC : (and64 c 255).tmod (m : Int) = C
    have hC0 : 0 ≤ C ∧ C < m := by
      rw [← hC, tmod_nn (by omega)]
      have h1 := Int.emod_nonneg (and64 c 255) (show (m : Int) ≠ 0 by omega)
      have h2 := Int.emod_lt_of_pos (and64 c 255) (show (0 : Int) < (m : Int) by omega)
      omega
    obtain ⟨n, rfl⟩ : ∃ n : Nat, C = n := ⟨C.toNat, by omega⟩
    have hn : n < m := by omega
    have t0 : Int.toNat 0 = 0 := rfl
    have hw : w64 ((n : Int) + 1) = ((n + 1 : Nat) : Int) := by rw [w64_in (by omega)]; omega
    have B1 := box_ok ht hm
    have B2 := box_ok ht (show 0 < n + 1 by omega)
    have B3 := box_ok (wr_b ht n (m - n)) (show 0 < m - n + 1 by omega)
    have E1 : mnI (bX (rowE (wr t n (m - n))) 0 (m - n + 1)) (bX (rowE t) 0 (n + 1)) = bX (rowE t) 0 m := mn_parts Rc.x t hn
    have E2 : mnI (bY (rowE (wr t n (m - n))) 0 (m - n + 1)) (bY (rowE t) 0 (n + 1)) = bY (rowE t) 0 m := mn_parts Rc.y t hn
    have E3 : mxI (bX2 (rowE (wr t n (m - n))) 0 (m - n + 1)) (bX2 (rowE t) 0 (n + 1)) = bX2 (rowE t) 0 m := mx_parts (fun r => w64 (r.x + r.w)) t hn
    have E4 : mxI (bY2 (rowE (wr t n (m - n))) 0 (m - n + 1)) (bY2 (rowE t) 0 (n + 1)) = bY2 (rowE t) 0 m := mx_parts (fun r => w64 (r.y + r.h)) t hn
    simp only [hw, Int.toNat_natCast, t0, Nat.zero_add, Nat.sub_zero, Nat.add_zero, rowOf_row, rowOf_nil, cat_eq, (box_w B2).1, (box_w B2).2, (box_w B3).1, (box_w B3).2, E1, E2, E3, E4]
    repeat' (first | exact AllT.nil | refine AllT.cons ?_ ?_)
    all_goals first | with_reducible rfl | exact trivial | exact yes_of ⟨rfl, rfl, rfl⟩ | exact decide_eq_true (by omega) | exact yes_of (rowOk_of _ (by omega) (by omega) (by omega)) | exact yes_of trivial | exact yes_of rfl | exact decide_eq_true trivial | exact decide_eq_true (show (m - n) * 32 ≤ 140737488355328 by omega) | exact decide_eq_true (show (m - n + 1) * 32 ≤ 140737488355328 by omega) | (simp [decInt]; omega) | (simp only [beq_self_eq_true, Bool.and_self, Bool.not_true, Bool.not_false]; done) | skip
end Go.Proofs.Ytcpahifgdppkbaa.QAI
