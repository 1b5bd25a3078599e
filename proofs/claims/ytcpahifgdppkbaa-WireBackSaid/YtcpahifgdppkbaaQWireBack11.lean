/- Requests as bytes: a query read; its loop. -/
import Derived.Test.YtcpahifgdppkbaaQWireBack10
set_option linter.unusedVariables false
set_option linter.unusedSimpArgs false
set_option maxRecDepth 100000
namespace Go.Proofs.Ytcpahifgdppkbaa.QAI
section
open Go Go.RowKit
def zN (n : Nat) : Nat := n - 1 - 1 - 1 - 1 - 1 - 1 - 1 - 1 - 1 - 1 - 1 - 1 - 1
def zI (i n : Nat) : Nat := rdI4 (rdI4 (rdI4 (rdI i n) (n - 1)) (n - 1 - 1 - 1 - 1 - 1)) (n - 1 - 1 - 1 - 1 - 1 - 1 - 1 - 1 - 1)
def zB (bad : Bool) (n : Nat) : Bool := rdB4 (rdB4 (rdB4 (bad || ((n : Nat) : Int) == (0 : Int)) (n - 1)) (n - 1 - 1 - 1 - 1 - 1)) (n - 1 - 1 - 1 - 1 - 1 - 1 - 1 - 1 - 1)
def rqO (bad : Bool) (B : Nat → Int) (i n : Nat) : Opp := ⟨rdX B i n, rnV4 B (rdI i n) (n - 1), rnV4 B (rdI4 (rdI i n) (n - 1)) (n - 1 - 1 - 1 - 1 - 1), rnV4 B (rdI4 (rdI4 (rdI i n) (n - 1)) (n - 1 - 1 - 1 - 1 - 1)) (n - 1 - 1 - 1 - 1 - 1 - 1 - 1 - 1 - 1), rtS (zB bad n) B (zI i n) (zN n)⟩
def zE (bad : Bool) (B : Nat → Int) (i n : Nat) : Bool := rtE (zB bad n) B (zI i n) (zN n)
def zJ (bad : Bool) (B : Nat → Int) (i n : Nat) : Nat := rtJ (zB bad n) B (zI i n) (zN n)
def zM (bad : Bool) (B : Nat → Int) (i n : Nat) : Nat := rtN (zB bad n) B (zI i n) (zN n)
def zZ (bad : Bool) (B : Nat → Int) (i n : Nat) : Bool := zE bad B i n || decide ((rqO bad B i n).s.size > 2000)
theorem rOp_lst {B : Nat → Int} (hB : rng B) (i n : Nat) (bad : Bool) : rOp (lst B i n, bad) = (rqO bad B i n, lst B (zJ bad B i n) (zM bad B i n), zZ bad B i n) := by
  unfold rOp
  simp only [rByte_lst hB, rNum_lst hB, rText_lst hB]
  rfl
theorem zI_sum (i n : Nat) : zI i n + zN n = i + n := by
  unfold zI zN; rw [rdI4_sum, rdI4_sum, rdI4_sum, rdI_sum]
theorem z_sum {B : Nat → Int} (hB : rng B) (bad : Bool) (i n : Nat) : zJ bad B i n + zM bad B i n = i + n := by
  unfold zJ zM; rw [rt_sum hB, zI_sum]
theorem rq_round {own : Bool} {m : Nat} {B : Nat → Int} {i n : Nat} {q c j : Int} {na : Nat} {P : Nat → Opp} (hB : rng B) (hm : i + n ≤ m) (hj : j < c) (h0 : 0 ≤ j) (hc : c < 256) (hna : na < 300) :
    CodeSem rqG 2 (bodyOf Try.f145 0) (rqS own m B false i n q c j na P) (.normal, rqS own m B (zZ false B i n) (zJ false B i n) (zM false B i n) q c (j + 1) (na + 1) (appP P na (rqO false B i n))) := by
  have e1 : w64 (j + 1) = j + 1 := w64_id (by omega) (by omega)
  have hL := rtL_nn hB (zI i n) (zN n)
  have k1 := rdI_le hm
  have k2 := rdI4_le k1
  have k3 := rdI4_le k2
  have k4 := rdI4_le k3
  cases he : zE false B i n with
  | true =>
    have hz : zZ false B i n = true := by unfold zZ; rw [he]; rfl
    rw [hz]
    refine rT_sem rqG_ok noLoopsS ((rT_go rq_t ?_).trans ?_)
    · repeat' (first | exact AllT.nil | refine AllT.cons ?_ ?_)
      all_goals first | (with_reducible rfl) | exact he | exact yes_of ⟨by assumption, rfl⟩ | exact yes_of ⟨by assumption, rfl, hL⟩ | exact decide_eq_true (by omega) | exact decide_eq_true trivial | exact decide_eq_true (by unfold maxCells; omega)
    · simp only [e1]
      rfl
  | false =>
    have hz : zZ false B i n = decide (((rqO false B i n).s.size : Nat) > 2000) := by unfold zZ; rw [he]; rfl
    have hz2 : decide (((rqO false B i n).s.size : Nat) > 2000) = decide ((((rqO false B i n).s.size : Nat) : Int) > 2000) := by
      by_cases h : (rqO false B i n).s.size > 2000
      · rw [decide_eq_true h, decide_eq_true (by omega)]
      · rw [decide_eq_false h, decide_eq_false (by omega)]
    rw [hz, hz2]
    refine rT_sem rqG_ok noLoopsS ((rT_go rq_f ?_).trans ?_)
    · repeat' (first | exact AllT.nil | refine AllT.cons ?_ ?_)
      all_goals first | (with_reducible rfl) | exact (congrArg (!·) he).trans rfl | exact yes_of ⟨by assumption, rfl⟩ | exact yes_of ⟨by assumption, rfl, hL⟩ | exact decide_eq_true (by omega) | exact decide_eq_true trivial | exact decide_eq_true (by unfold maxCells; omega)
    · simp only [e1]
      rfl
theorem rq_round0 {own : Bool} {m : Nat} {B : Nat → Int} {i n : Nat} {q c j : Int} (hB : rng B) (hm : i + n ≤ m) (hj : j < c) (h0 : 0 ≤ j) (hc : c < 256) :
    CodeSem rqG 2 (bodyOf Try.f145 0) (rq0S own m B false i n q c j) (.normal, rqS own m B (zZ false B i n) (zJ false B i n) (zM false B i n) q c (j + 1) 1 (appP (fun _ => zOpp) 0 (rqO false B i n))) := by
  have e1 : w64 (j + 1) = j + 1 := w64_id (by omega) (by omega)
  have hL := rtL_nn hB (zI i n) (zN n)
  have k1 := rdI_le hm
  have k2 := rdI4_le k1
  have k3 := rdI4_le k2
  have k4 := rdI4_le k3
  cases he : zE false B i n with
  | true =>
    have hz : zZ false B i n = true := by unfold zZ; rw [he]; rfl
    rw [hz]
    refine rT_sem rqG_ok noLoopsS ((rT_go rq0_t ?_).trans ?_)
    · repeat' (first | exact AllT.nil | refine AllT.cons ?_ ?_)
      all_goals first | (with_reducible rfl) | exact he | exact yes_of ⟨by assumption, rfl⟩ | exact yes_of ⟨by assumption, rfl, hL⟩ | exact decide_eq_true (by omega) | exact decide_eq_true trivial | exact decide_eq_true (by unfold maxCells; omega)
    · simp only [e1]
      rfl
  | false =>
    have hz : zZ false B i n = decide (((rqO false B i n).s.size : Nat) > 2000) := by unfold zZ; rw [he]; rfl
    have hz2 : decide (((rqO false B i n).s.size : Nat) > 2000) = decide ((((rqO false B i n).s.size : Nat) : Int) > 2000) := by
      by_cases h : (rqO false B i n).s.size > 2000
      · rw [decide_eq_true h, decide_eq_true (by omega)]
      · rw [decide_eq_false h, decide_eq_false (by omega)]
    rw [hz, hz2]
    refine rT_sem rqG_ok noLoopsS ((rT_go rq0_f ?_).trans ?_)
    · repeat' (first | exact AllT.nil | refine AllT.cons ?_ ?_)
      all_goals first | (with_reducible rfl) | exact (congrArg (!·) he).trans rfl | exact yes_of ⟨by assumption, rfl⟩ | exact yes_of ⟨by assumption, rfl, hL⟩ | exact decide_eq_true (by omega) | exact decide_eq_true trivial | exact decide_eq_true (by unfold maxCells; omega)
    · simp only [e1]
      rfl
/-- The loop's rounds from Ops that are there. -/
theorem rq_rounds {own : Bool} {m : Nat} {B : Nat → Int} {q c : Int} (hB : rng B) (hc : c < 256) : ∀ (d : Nat) (bad : Bool) (i n : Nat) (j : Int) (P : List Opp), i + n ≤ m → 0 ≤ j → c = j + d → P.length ≤ j.toNat →
    LoopR rqG 2 (bodyOf Try.f145 0) (rqS own m B bad i n q c j P.length (gP P)) (.exit 1, rqS own m B (rOps d (lst B i n, bad)).2.2 (i + n - (rOps d (lst B i n, bad)).2.1.length) (rOps d (lst B i n, bad)).2.1.length q c (j + (rOps d (lst B i n, bad)).1.length) (P ++ (rOps d (lst B i n, bad)).1).length (gP (P ++ (rOps d (lst B i n, bad)).1)))
  | 0, bad, i, n, j, P, hm, h0, hd, hP => by
    simp only [rOps, lst_len, List.append_nil, List.length_nil, Nat.add_sub_cancel]
    refine LoopR.stop (by simp) (rT_sem rqG_ok noLoopsS ((rT_go rq_e1 ?_).trans ?_))
    · refine ⟨by rw [decide_eq_false (by omega)]; rfl, rfl, rfl, rfl, rfl, rfl, rfl, trivial⟩
    · simp only [Int.natCast_zero, Int.add_zero]; rfl
  | d + 1, true, i, n, j, P, hm, h0, hd, hP => by
    simp only [rOps, cond_true, lst_len, List.append_nil, List.length_nil, Nat.add_sub_cancel]
    refine LoopR.stop (by simp) (rT_sem rqG_ok noLoopsS ((rT_go rq_e2 ?_).trans ?_))
    · refine ⟨decide_eq_true (by omega), rfl, rfl, rfl, rfl, rfl, rfl, trivial⟩
    · simp only [Int.natCast_zero, Int.add_zero]; rfl
  | d + 1, false, i, n, j, P, hm, h0, hd, hP => by
    have hs := z_sum hB false i n
    have ih := rq_rounds (own := own) (m := m) (q := q) hB hc d (zZ false B i n) (zJ false B i n) (zM false B i n) (j + 1) (P ++ [rqO false B i n]) (by omega) (by omega) (by omega) (by simp; omega)
    refine LoopR.next (rq_round hB hm (by omega) h0 hc (by omega)) ?_
    rw [gP_app]
    have e2 : P.length + 1 = (P ++ [rqO false B i n]).length := by simp
    rw [e2]
    refine cast ?_ ih
    have e3 : rOps (d + 1) (lst B i n, false) = (rqO false B i n :: (rOps d (lst B (zJ false B i n) (zM false B i n), zZ false B i n)).1, (rOps d (lst B (zJ false B i n) (zM false B i n), zZ false B i n)).2) := by
      simp only [rOps, cond_false, rOp_lst hB]
    rw [e3]
    simp only [hs, List.append_assoc, List.cons_append, List.nil_append, List.length_cons]
    rw [show j + 1 + ((rOps d (lst B (zJ false B i n) (zM false B i n), zZ false B i n)).1.length : Int) = j + (((rOps d (lst B (zJ false B i n) (zM false B i n), zZ false B i n)).1.length + 1 : Nat) : Int) by omega]
def rqEnd (own : Bool) (m : Nat) (B : Nat → Int) (bad : Bool) (i n : Nat) (q c j : Int) : List Opp → St
  | [] => rq0S own m B bad i n q c j
  | o :: l => rqS own m B bad i n q c j (o :: l).length (gP (o :: l))
theorem rq_loop {own : Bool} {m : Nat} {B : Nat → Int} {q c : Int} (hB : rng B) (hc : c < 256) (h0 : 0 ≤ c) (bad : Bool) (i n : Nat) (hm : i + n ≤ m) :
    LoopR rqG 2 (bodyOf Try.f145 0) (rq0S own m B bad i n q c 0) (.exit 1, rqEnd own m B (rOps c.toNat (lst B i n, bad)).2.2 (i + n - (rOps c.toNat (lst B i n, bad)).2.1.length) (rOps c.toNat (lst B i n, bad)).2.1.length q c ((rOps c.toNat (lst B i n, bad)).1.length : Nat) (rOps c.toNat (lst B i n, bad)).1) := by
  obtain ⟨d, rfl⟩ := Int.eq_ofNat_of_zero_le h0
  rw [Int.toNat_natCast]
  cases d with
  | zero =>
    simp only [rOps, lst_len, List.length_nil, Nat.add_sub_cancel, rqEnd]
    refine LoopR.stop (by simp) (rT_sem rqG_ok noLoopsS ((rT_go rq0_e1 ?_).trans ?_))
    · refine ⟨rfl, rfl, rfl, rfl, rfl, rfl, rfl, trivial⟩
    · rfl
  | succ d =>
    cases bad with
    | true =>
      simp only [rOps, cond_true, lst_len, List.length_nil, Nat.add_sub_cancel, rqEnd]
      refine LoopR.stop (by simp) (rT_sem rqG_ok noLoopsS ((rT_go rq0_e2 ?_).trans ?_))
      · refine ⟨decide_eq_true (by omega), rfl, rfl, rfl, rfl, rfl, rfl, trivial⟩
      · rfl
    | false =>
      have hs := z_sum hB false i n
      have ih := rq_rounds (own := own) (m := m) (q := q) (c := ((d + 1 : Nat) : Int)) hB hc d (zZ false B i n) (zJ false B i n) (zM false B i n) (0 + 1) ([] ++ [rqO false B i n]) (by omega) (by omega) (by omega) (by simp)
      refine LoopR.next (rq_round0 hB hm (by omega) (by omega) hc) ?_
      have e1 : (fun _ => zOpp) = gP [] := rfl
      have e2 := gP_app [] (rqO false B i n)
      rw [List.length_nil] at e2
      rw [e1, e2]
      refine cast ?_ ih
      have e3 : rOps (d + 1) (lst B i n, false) = (rqO false B i n :: (rOps d (lst B (zJ false B i n) (zM false B i n), zZ false B i n)).1, (rOps d (lst B (zJ false B i n) (zM false B i n), zZ false B i n)).2) := by
        simp only [rOps, cond_false, rOp_lst hB]
      rw [e3]
      simp only [hs, List.cons_append, List.nil_append, List.length_cons, List.length_nil, rqEnd]
      rw [show (0 : Int) + 1 + ((rOps d (lst B (zJ false B i n) (zM false B i n), zZ false B i n)).1.length : Int) = (((rOps d (lst B (zJ false B i n) (zM false B i n), zZ false B i n)).1.length + 1 : Nat) : Int) by omega]
end
section
open Go Go.RowKit
theorem rw_1t0 {own : Bool} {m : Nat} {B : Nat → Int} {b0 : Bool} {i n i0 n0 : Nat} {q c j : Int} : (lfun rqG (tell (bodyOf Try.f145 0) (rq0S own m B true (rdI (rdI i n) (n - 1)) (n - 1 - 1) (rdX B i n) (rdX B (rdI i n) (n - 1)) 0) (.exit 1, rq0S own m B b0 i0 n0 q c j)) 60 Try.f145 [.c (.ptr 0 0 0)] [rdB false i n, rowU own m B]).go [] = some ([yes (i + n ≤ m ∧ (fun j => ub (B j)) = fun j => ub (ud (ub (B j)))), rdX (fun j => ud (ub (B j))) i n == (1 : Int), yes (rdI i n + (n - 1) ≤ m ∧ (fun j => ub (ud (ub (B j)))) = fun j => ub (ud (ub (ud (ub (B j)))))), false || ((n : Nat) : Int) == (0 : Int) || ((n - 1 : Nat) : Int) == (0 : Int), true, true, yes (wasS (bodyOf Try.f145 0) (rq0S own m B true (rdI (rdI i n) (n - 1)) (n - 1 - 1) (rdX B i n) (rdX B (rdI i n) (n - 1)) 0))], .agg [i64 q, i64 0, i64 0, i64 0, i64 0, i64 0, .v (.slice none 0 0)], [some ⟨175, true, .one [.sl 1 i0 n0, .v (.bool b0)]⟩, some ⟨5, own, .row 1 m fun j => [.int .u8 (B j)]⟩]) := by kernel_rfl
theorem rw_1t1 {own : Bool} {m : Nat} {B : Nat → Int} {b0 : Bool} {i n i0 n0 na : Nat} {q c j : Int} {P : Nat → Opp} : (lfun rqG (tell (bodyOf Try.f145 0) (rq0S own m B true (rdI (rdI i n) (n - 1)) (n - 1 - 1) (rdX B i n) (rdX B (rdI i n) (n - 1)) 0) (.exit 1, rqS own m B b0 i0 n0 q c j na P)) 60 Try.f145 [.c (.ptr 0 0 0)] [rdB false i n, rowU own m B]).go [] = some ([yes (i + n ≤ m ∧ (fun j => ub (B j)) = fun j => ub (ud (ub (B j)))), rdX (fun j => ud (ub (B j))) i n == (1 : Int), yes (rdI i n + (n - 1) ≤ m ∧ (fun j => ub (ud (ub (B j)))) = fun j => ub (ud (ub (ud (ub (B j)))))), false || ((n : Nat) : Int) == (0 : Int) || ((n - 1 : Nat) : Int) == (0 : Int), true, true, yes (wasS (bodyOf Try.f145 0) (rq0S own m B true (rdI (rdI i n) (n - 1)) (n - 1 - 1) (rdX B i n) (rdX B (rdI i n) (n - 1)) 0))], .agg [i64 q, i64 0, i64 0, i64 0, i64 0, i64 0, .sl 2 0 na], [some ⟨175, true, .one [.sl 1 i0 n0, .v (.bool b0)]⟩, some ⟨5, own, .row 1 m fun j => [.int .u8 (B j)]⟩, some ⟨121, true, .row 5 na fun j => [.int .i64 (P j).k, .int .i64 (P j).i, .int .i64 (P j).a, .int .i64 (P j).b, .string (P j).s]⟩]) := by kernel_rfl
theorem rw_1f0 {own : Bool} {m : Nat} {B : Nat → Int} {b0 : Bool} {i n i0 n0 : Nat} {q c j : Int} : (lfun rqG (tell (bodyOf Try.f145 0) (rq0S own m B (decide (rdX B (rdI i n) (n - 1) > 100)) (rdI (rdI i n) (n - 1)) (n - 1 - 1) (rdX B i n) (rdX B (rdI i n) (n - 1)) 0) (.exit 1, rq0S own m B b0 i0 n0 q c j)) 60 Try.f145 [.c (.ptr 0 0 0)] [rdB false i n, rowU own m B]).go [true, true, true, false, false, false] = some ([yes (i + n ≤ m ∧ (fun j => ub (B j)) = fun j => ub (ud (ub (B j)))), rdX (fun j => ud (ub (B j))) i n == (1 : Int), yes (rdI i n + (n - 1) ≤ m ∧ (fun j => ub (ud (ub (B j)))) = fun j => ub (ud (ub (ud (ub (B j)))))), !(false || ((n : Nat) : Int) == (0 : Int) || ((n - 1 : Nat) : Int) == (0 : Int)), true, true, yes (wasS (bodyOf Try.f145 0) (rq0S own m B (decide (rdX B (rdI i n) (n - 1) > 100)) (rdI (rdI i n) (n - 1)) (n - 1 - 1) (rdX B i n) (rdX B (rdI i n) (n - 1)) 0))], .agg [i64 q, i64 0, i64 0, i64 0, i64 0, i64 0, .v (.slice none 0 0)], [some ⟨175, true, .one [.sl 1 i0 n0, .v (.bool b0)]⟩, some ⟨5, own, .row 1 m fun j => [.int .u8 (B j)]⟩]) := by kernel_rfl
theorem rw_1f1 {own : Bool} {m : Nat} {B : Nat → Int} {b0 : Bool} {i n i0 n0 na : Nat} {q c j : Int} {P : Nat → Opp} : (lfun rqG (tell (bodyOf Try.f145 0) (rq0S own m B (decide (rdX B (rdI i n) (n - 1) > 100)) (rdI (rdI i n) (n - 1)) (n - 1 - 1) (rdX B i n) (rdX B (rdI i n) (n - 1)) 0) (.exit 1, rqS own m B b0 i0 n0 q c j na P)) 60 Try.f145 [.c (.ptr 0 0 0)] [rdB false i n, rowU own m B]).go [true, true, true, false, false, false] = some ([yes (i + n ≤ m ∧ (fun j => ub (B j)) = fun j => ub (ud (ub (B j)))), rdX (fun j => ud (ub (B j))) i n == (1 : Int), yes (rdI i n + (n - 1) ≤ m ∧ (fun j => ub (ud (ub (B j)))) = fun j => ub (ud (ub (ud (ub (B j)))))), !(false || ((n : Nat) : Int) == (0 : Int) || ((n - 1 : Nat) : Int) == (0 : Int)), true, true, yes (wasS (bodyOf Try.f145 0) (rq0S own m B (decide (rdX B (rdI i n) (n - 1) > 100)) (rdI (rdI i n) (n - 1)) (n - 1 - 1) (rdX B i n) (rdX B (rdI i n) (n - 1)) 0))], .agg [i64 q, i64 0, i64 0, i64 0, i64 0, i64 0, .sl 2 0 na], [some ⟨175, true, .one [.sl 1 i0 n0, .v (.bool b0)]⟩, some ⟨5, own, .row 1 m fun j => [.int .u8 (B j)]⟩, some ⟨121, true, .row 5 na fun j => [.int .i64 (P j).k, .int .i64 (P j).i, .int .i64 (P j).a, .int .i64 (P j).b, .string (P j).s]⟩]) := by kernel_rfl
theorem rw_2 {own : Bool} {m : Nat} {B : Nat → Int} {i n : Nat} : (lfun rqG nol 60 Try.f145 [.c (.ptr 0 0 0)] [rdB false i n, rowU own m B]).go [true, false] = some ([yes (i + n ≤ m ∧ (fun j => ub (B j)) = fun j => ub (ud (ub (B j)))), !rdX (fun j => ud (ub (B j))) i n == (1 : Int), rdX (fun j => ud (ub (B j))) i n == (2 : Int), true], .agg [i64 (rdX (fun j => ud (ub (B j))) i n), i64 0, i64 0, i64 0, i64 0, i64 0, .v (.slice none 0 0)], [some ⟨175, true, .one [.sl 1 (rdI i n) (n - 1), .v (.bool (false || ((n : Nat) : Int) == (0 : Int)))]⟩, some ⟨5, own, .row 1 m fun j => [.int .u8 (ud (ub (B j)))]⟩]) := by kernel_rfl
theorem rw_6 {own : Bool} {m : Nat} {B : Nat → Int} {i n : Nat} : (lfun rqG nol 60 Try.f145 [.c (.ptr 0 0 0)] [rdB false i n, rowU own m B]).go [true, false, false] = some ([yes (i + n ≤ m ∧ (fun j => ub (B j)) = fun j => ub (ud (ub (B j)))), !rdX (fun j => ud (ub (B j))) i n == (1 : Int), !rdX (fun j => ud (ub (B j))) i n == (2 : Int), rdX (fun j => ud (ub (B j))) i n == (6 : Int)], .agg [i64 (rdX (fun j => ud (ub (B j))) i n), i64 0, i64 0, i64 0, i64 0, i64 0, .v (.slice none 0 0)], [some ⟨175, true, .one [.sl 1 (rdI i n) (n - 1), .v (.bool (false || ((n : Nat) : Int) == (0 : Int)))]⟩, some ⟨5, own, .row 1 m fun j => [.int .u8 (ud (ub (B j)))]⟩]) := by kernel_rfl
theorem rw_3 {own : Bool} {m : Nat} {B : Nat → Int} {i n : Nat} : (lfun rqG nol 60 Try.f145 [.c (.ptr 0 0 0)] [rdB false i n, rowU own m B]).go [true, false, false, false] = some ([yes (i + n ≤ m ∧ (fun j => ub (B j)) = fun j => ub (ud (ub (B j)))), !rdX (fun j => ud (ub (B j))) i n == (1 : Int), !rdX (fun j => ud (ub (B j))) i n == (2 : Int), !rdX (fun j => ud (ub (B j))) i n == (6 : Int), rdX (fun j => ud (ub (B j))) i n == (3 : Int), yes (rdI i n + (n - 1) ≤ m ∧ (fun j => ub (ud (ub (B j)))) = fun j => ub (ud (ub (ud (ub (B j))))))], .agg [i64 (rdX (fun j => ud (ub (B j))) i n), i64 0, i64 (rnV4 (fun j => ud (ub (ud (ub (B j))))) (rdI i n) (n - 1)), i64 (rnV4 (fun j => ud (ub (ud (ub (B j))))) (rdI4 (rdI i n) (n - 1)) (n - 1 - 1 - 1 - 1 - 1)), i64 0, i64 0, .v (.slice none 0 0)], [some ⟨175, true, .one [.sl 1 (rdI4 (rdI4 (rdI i n) (n - 1)) (n - 1 - 1 - 1 - 1 - 1)) (n - 1 - 1 - 1 - 1 - 1 - 1 - 1 - 1 - 1), .v (.bool (rdB4 (rdB4 (false || ((n : Nat) : Int) == (0 : Int)) (n - 1)) (n - 1 - 1 - 1 - 1 - 1)))]⟩, some ⟨5, own, .row 1 m fun j => [.int .u8 (ud (ub (ud (ub (B j)))))]⟩]) := by kernel_rfl
theorem rw_4 {own : Bool} {m : Nat} {B : Nat → Int} {i n : Nat} : (lfun rqG nol 60 Try.f145 [.c (.ptr 0 0 0)] [rdB false i n, rowU own m B]).go [true, false, false, false, false] = some ([yes (i + n ≤ m ∧ (fun j => ub (B j)) = fun j => ub (ud (ub (B j)))), !rdX (fun j => ud (ub (B j))) i n == (1 : Int), !rdX (fun j => ud (ub (B j))) i n == (2 : Int), !rdX (fun j => ud (ub (B j))) i n == (6 : Int), !rdX (fun j => ud (ub (B j))) i n == (3 : Int), rdX (fun j => ud (ub (B j))) i n == (4 : Int), yes (rdI i n + (n - 1) ≤ m ∧ (fun j => ub (ud (ub (B j)))) = fun j => ub (ud (ub (ud (ub (B j)))))), yes (rdI4 (rdI4 (rdI i n) (n - 1)) (n - 1 - 1 - 1 - 1 - 1) + (n - 1 - 1 - 1 - 1 - 1 - 1 - 1 - 1 - 1) ≤ m ∧ (fun j => ub (ud (ub (ud (ub (B j)))))) = fun j => ub (ud (ub (ud (ub (ud (ub (B j))))))))], .agg [i64 (rdX (fun j => ud (ub (B j))) i n), i64 (rnV4 (fun j => ud (ub (ud (ub (ud (ub (B j))))))) (rdI4 (rdI4 (rdI i n) (n - 1)) (n - 1 - 1 - 1 - 1 - 1)) (n - 1 - 1 - 1 - 1 - 1 - 1 - 1 - 1 - 1)), i64 (rnV4 (fun j => ud (ub (ud (ub (B j))))) (rdI i n) (n - 1)), i64 (rnV4 (fun j => ud (ub (ud (ub (B j))))) (rdI4 (rdI i n) (n - 1)) (n - 1 - 1 - 1 - 1 - 1)), i64 0, i64 0, .v (.slice none 0 0)], [some ⟨175, true, .one [.sl 1 (rdI4 (rdI4 (rdI4 (rdI i n) (n - 1)) (n - 1 - 1 - 1 - 1 - 1)) (n - 1 - 1 - 1 - 1 - 1 - 1 - 1 - 1 - 1)) (n - 1 - 1 - 1 - 1 - 1 - 1 - 1 - 1 - 1 - 1 - 1 - 1 - 1), .v (.bool (rdB4 (rdB4 (rdB4 (false || ((n : Nat) : Int) == (0 : Int)) (n - 1)) (n - 1 - 1 - 1 - 1 - 1)) (n - 1 - 1 - 1 - 1 - 1 - 1 - 1 - 1 - 1)))]⟩, some ⟨5, own, .row 1 m fun j => [.int .u8 (ud (ub (ud (ub (ud (ub (B j)))))))]⟩]) := by kernel_rfl
theorem rw_5 {own : Bool} {m : Nat} {B : Nat → Int} {i n : Nat} : (lfun rqG nol 60 Try.f145 [.c (.ptr 0 0 0)] [rdB false i n, rowU own m B]).go [true, false, false, false, false, false] = some ([yes (i + n ≤ m ∧ (fun j => ub (B j)) = fun j => ub (ud (ub (B j)))), !rdX (fun j => ud (ub (B j))) i n == (1 : Int), !rdX (fun j => ud (ub (B j))) i n == (2 : Int), !rdX (fun j => ud (ub (B j))) i n == (6 : Int), !rdX (fun j => ud (ub (B j))) i n == (3 : Int), !rdX (fun j => ud (ub (B j))) i n == (4 : Int), rdX (fun j => ud (ub (B j))) i n == (5 : Int), yes (rdI i n + (n - 1) ≤ m ∧ (fun j => ub (ud (ub (B j)))) = fun j => ub (ud (ub (ud (ub (B j)))))), yes (rdI4 (rdI4 (rdI i n) (n - 1)) (n - 1 - 1 - 1 - 1 - 1) + (n - 1 - 1 - 1 - 1 - 1 - 1 - 1 - 1 - 1) ≤ m ∧ (fun j => ub (ud (ub (ud (ub (B j)))))) = fun j => ub (ud (ub (ud (ub (ud (ub (B j)))))))), yes (rdI4 (rdI4 (rdI4 (rdI i n) (n - 1)) (n - 1 - 1 - 1 - 1 - 1)) (n - 1 - 1 - 1 - 1 - 1 - 1 - 1 - 1 - 1) + (n - 1 - 1 - 1 - 1 - 1 - 1 - 1 - 1 - 1 - 1 - 1 - 1 - 1) ≤ m ∧ (fun j => ub (ud (ub (ud (ub (ud (ub (B j)))))))) = fun j => ub (ud (ub (ud (ub (ud (ub (ud (ub (B j))))))))))], .agg [i64 (rdX (fun j => ud (ub (B j))) i n), i64 0, i64 (rnV4 (fun j => ud (ub (ud (ub (B j))))) (rdI i n) (n - 1)), i64 (rnV4 (fun j => ud (ub (ud (ub (B j))))) (rdI4 (rdI i n) (n - 1)) (n - 1 - 1 - 1 - 1 - 1)), i64 (rnV4 (fun j => ud (ub (ud (ub (ud (ub (B j))))))) (rdI4 (rdI4 (rdI i n) (n - 1)) (n - 1 - 1 - 1 - 1 - 1)) (n - 1 - 1 - 1 - 1 - 1 - 1 - 1 - 1 - 1)), i64 (rnV4 (fun j => ud (ub (ud (ub (ud (ub (ud (ub (B j))))))))) (rdI4 (rdI4 (rdI4 (rdI i n) (n - 1)) (n - 1 - 1 - 1 - 1 - 1)) (n - 1 - 1 - 1 - 1 - 1 - 1 - 1 - 1 - 1)) (n - 1 - 1 - 1 - 1 - 1 - 1 - 1 - 1 - 1 - 1 - 1 - 1 - 1)), .v (.slice none 0 0)], [some ⟨175, true, .one [.sl 1 (rdI4 (rdI4 (rdI4 (rdI4 (rdI i n) (n - 1)) (n - 1 - 1 - 1 - 1 - 1)) (n - 1 - 1 - 1 - 1 - 1 - 1 - 1 - 1 - 1)) (n - 1 - 1 - 1 - 1 - 1 - 1 - 1 - 1 - 1 - 1 - 1 - 1 - 1)) (n - 1 - 1 - 1 - 1 - 1 - 1 - 1 - 1 - 1 - 1 - 1 - 1 - 1 - 1 - 1 - 1 - 1), .v (.bool (rdB4 (rdB4 (rdB4 (rdB4 (false || ((n : Nat) : Int) == (0 : Int)) (n - 1)) (n - 1 - 1 - 1 - 1 - 1)) (n - 1 - 1 - 1 - 1 - 1 - 1 - 1 - 1 - 1)) (n - 1 - 1 - 1 - 1 - 1 - 1 - 1 - 1 - 1 - 1 - 1 - 1 - 1)))]⟩, some ⟨5, own, .row 1 m fun j => [.int .u8 (ud (ub (ud (ub (ud (ub (ud (ub (B j)))))))))]⟩]) := by kernel_rfl
theorem rw_x {own : Bool} {m : Nat} {B : Nat → Int} {i n : Nat} : (lfun rqG nol 60 Try.f145 [.c (.ptr 0 0 0)] [rdB false i n, rowU own m B]).go [true, false, false, false, false, false, false] = some ([yes (i + n ≤ m ∧ (fun j => ub (B j)) = fun j => ub (ud (ub (B j)))), !rdX (fun j => ud (ub (B j))) i n == (1 : Int), !rdX (fun j => ud (ub (B j))) i n == (2 : Int), !rdX (fun j => ud (ub (B j))) i n == (6 : Int), !rdX (fun j => ud (ub (B j))) i n == (3 : Int), !rdX (fun j => ud (ub (B j))) i n == (4 : Int), !rdX (fun j => ud (ub (B j))) i n == (5 : Int)], .agg [i64 (rdX (fun j => ud (ub (B j))) i n), i64 0, i64 0, i64 0, i64 0, i64 0, .v (.slice none 0 0)], [some ⟨175, true, .one [.sl 1 (rdI i n) (n - 1), .v (.bool true)]⟩, some ⟨5, own, .row 1 m fun j => [.int .u8 (ud (ub (B j)))]⟩]) := by kernel_rfl
end
section
open Go Go.RowKit
def qV (q : Qd) (s : AC) : AV := .agg [i64 q.k, i64 q.n, i64 q.p, i64 q.t, i64 q.x, i64 q.y, s]
def rqR (B : Nat → Int) (i n : Nat) : Qd × (List Int × Bool) := rQuery (lst B i n, false)
def rqO1 (own : Bool) (m : Nat) (B : Nat → Int) (i n : Nat) (r : Qd × (List Int × Bool)) : AV × AHeap := (qV r.1 (.v (.slice none 0 0)), [rdB r.2.2 (i + n - r.2.1.length) r.2.1.length, rowU own m B])
def rqO2 (own : Bool) (m : Nat) (B : Nat → Int) (i n : Nat) (r : Qd × (List Int × Bool)) : AV × AHeap := (qV r.1 (.sl 2 0 r.1.o.length), [rdB r.2.2 (i + n - r.2.1.length) r.2.1.length, rowU own m B, rowP true r.1.o.length (gP r.1.o)])
def rqOut (own : Bool) (m : Nat) (B : Nat → Int) (i n : Nat) : AV × AHeap := bif (rqR B i n).1.o.isEmpty then rqO1 own m B i n (rqR B i n) else rqO2 own m B i n (rqR B i n)
theorem end_eq {I N i n : Nat} (h : I + N = i + n) : i + n - N = I := by omega
theorem nb {x c : Int} (h : x ≠ c) : (x == c) = false := by rw [beq_eq_false_iff_ne]; exact h
theorem rq_eval {own : Bool} {m : Nat} {B : Nat → Int} {i n : Nat} (hB : rng B) (hm : i + n ≤ m) : ∃ ℓ, LoopsSem rqG 2 ℓ ∧ (lfun rqG ℓ 60 Try.f145 [.c (.ptr 0 0 0)] [rdB false i n, rowU own m B]).eval = some (rqOut own m B i n) := by
  have k1 := rdI_le hm
  have s1 := rdI_sum i n
  have s2 := rdI4_sum (rdI i n) (n - 1)
  have s3 := rdI4_sum (rdI4 (rdI i n) (n - 1)) (n - 1 - 1 - 1 - 1 - 1)
  have s4 := rdI4_sum (rdI4 (rdI4 (rdI i n) (n - 1)) (n - 1 - 1 - 1 - 1 - 1)) (n - 1 - 1 - 1 - 1 - 1 - 1 - 1 - 1 - 1)
  have s5 := rdI4_sum (rdI4 (rdI4 (rdI4 (rdI i n) (n - 1)) (n - 1 - 1 - 1 - 1 - 1)) (n - 1 - 1 - 1 - 1 - 1 - 1 - 1 - 1 - 1)) (n - 1 - 1 - 1 - 1 - 1 - 1 - 1 - 1 - 1 - 1 - 1 - 1 - 1)
  by_cases h1 : rdX B i n = 1
  · have hc := rdX_in hB (rdI i n) (n - 1)
    have h2 : rdI (rdI i n) (n - 1) + (n - 1 - 1) ≤ m := rdI_le k1
    have hs : rdI (rdI i n) (n - 1) + (n - 1 - 1) = i + n := by rw [rdI_sum, rdI_sum]
    have hq : rqR B i n = (⟨rdX B i n, 0, 0, 0, 0, 0, (rOps (rdX B (rdI i n) (n - 1)).toNat (lst B (rdI (rdI i n) (n - 1)) (n - 1 - 1), ((false || ((n : Nat) : Int) == (0 : Int)) || ((n - 1 : Nat) : Int) == (0 : Int)) || decide (rdX B (rdI i n) (n - 1) > 100))).1⟩, (rOps (rdX B (rdI i n) (n - 1)).toNat (lst B (rdI (rdI i n) (n - 1)) (n - 1 - 1), ((false || ((n : Nat) : Int) == (0 : Int)) || ((n - 1 : Nat) : Int) == (0 : Int)) || decide (rdX B (rdI i n) (n - 1) > 100))).2) := by
      unfold rqR rQuery
      simp only [rByte_lst hB]
      rw [h1]
      rfl
    cases hb : ((false || ((n : Nat) : Int) == (0 : Int)) || ((n - 1 : Nat) : Int) == (0 : Int)) with
    | true =>
      have hl := (rq_loop (own := own) (m := m) (q := rdX B i n) hB hc.2 hc.1 true _ _ h2).sem
      rw [hs] at hl
      rw [hb, Bool.true_or] at hq
      revert hl hq
      generalize rOps (rdX B (rdI i n) (n - 1)).toNat (lst B (rdI (rdI i n) (n - 1)) (n - 1 - 1), true) = R
      intro hq hl
      obtain ⟨os, L, b⟩ := R
      cases os with
      | nil =>
        refine ⟨_, tell_ok hl, (Tr.go_eval rw_1t0 ⟨yes_of ⟨hm, rfl⟩, beq_iff_eq.2 h1, yes_of ⟨k1, rfl⟩, hb, rfl, rfl, yes_of ⟨rfl, rfl⟩, trivial⟩).trans ?_⟩
        unfold rqOut; rw [hq]; rfl
      | cons o l =>
        refine ⟨_, tell_ok hl, (Tr.go_eval rw_1t1 ⟨yes_of ⟨hm, rfl⟩, beq_iff_eq.2 h1, yes_of ⟨k1, rfl⟩, hb, rfl, rfl, yes_of ⟨rfl, rfl⟩, trivial⟩).trans ?_⟩
        unfold rqOut; rw [hq]; rfl
    | false =>
      have hl := (rq_loop (own := own) (m := m) (q := rdX B i n) hB hc.2 hc.1 (decide (rdX B (rdI i n) (n - 1) > 100)) _ _ h2).sem
      rw [hs] at hl
      rw [hb, Bool.false_or] at hq
      revert hl hq
      generalize rOps (rdX B (rdI i n) (n - 1)).toNat (lst B (rdI (rdI i n) (n - 1)) (n - 1 - 1), decide (rdX B (rdI i n) (n - 1) > 100)) = R
      intro hq hl
      have hb' : (!((false || ((n : Nat) : Int) == (0 : Int)) || ((n - 1 : Nat) : Int) == (0 : Int))) = true := by rw [hb]; rfl
      obtain ⟨os, L, b⟩ := R
      cases os with
      | nil =>
        refine ⟨_, tell_ok hl, (Tr.go_eval rw_1f0 ⟨yes_of ⟨hm, rfl⟩, beq_iff_eq.2 h1, yes_of ⟨k1, rfl⟩, hb', rfl, rfl, yes_of ⟨rfl, rfl⟩, trivial⟩).trans ?_⟩
        unfold rqOut; rw [hq]; rfl
      | cons o l =>
        refine ⟨_, tell_ok hl, (Tr.go_eval rw_1f1 ⟨yes_of ⟨hm, rfl⟩, beq_iff_eq.2 h1, yes_of ⟨k1, rfl⟩, hb', rfl, rfl, yes_of ⟨rfl, rfl⟩, trivial⟩).trans ?_⟩
        unfold rqOut; rw [hq]; rfl
  have n1 : (!(rdX B i n == (1 : Int))) = true := by rw [nb h1]; rfl
  by_cases h2 : rdX B i n = 2
  · have hq : rqR B i n = (⟨rdX B i n, 0, 0, 0, 0, 0, []⟩, lst B (rdI i n) (n - 1), false || ((n : Nat) : Int) == (0 : Int)) := by
      unfold rqR rQuery; simp only [rByte_lst hB]; rw [h2]; rfl
    refine ⟨_, noLoopsS, (Tr.go_eval rw_2 ⟨yes_of ⟨hm, rfl⟩, n1, beq_iff_eq.2 h2, rfl, trivial⟩).trans ?_⟩
    unfold rqOut rqO1; rw [hq]; simp only [lst_len]; rw [end_eq s1]; rfl
  have n2 : (!(rdX B i n == (2 : Int))) = true := by rw [nb h2]; rfl
  by_cases h6 : rdX B i n = 6
  · have hq : rqR B i n = (⟨rdX B i n, 0, 0, 0, 0, 0, []⟩, lst B (rdI i n) (n - 1), false || ((n : Nat) : Int) == (0 : Int)) := by
      unfold rqR rQuery; simp only [rByte_lst hB]; rw [h6]; rfl
    refine ⟨_, noLoopsS, (Tr.go_eval rw_6 ?_).trans ?_⟩
    · repeat' (first | exact AllT.nil | refine AllT.cons ?_ ?_)
      all_goals first | (with_reducible rfl) | exact n1 | exact n2 | exact beq_iff_eq.2 h6 | exact yes_of ⟨hm, rfl⟩
    unfold rqOut rqO1; rw [hq]; simp only [lst_len]; rw [end_eq s1]; rfl
  have n6 : (!(rdX B i n == (6 : Int))) = true := by rw [nb h6]; rfl
  by_cases h3 : rdX B i n = 3
  · have hq : rqR B i n = (⟨rdX B i n, 0, rnV4 B (rdI i n) (n - 1), rnV4 B (rdI4 (rdI i n) (n - 1)) (n - 1 - 1 - 1 - 1 - 1), 0, 0, []⟩, lst B (rdI4 (rdI4 (rdI i n) (n - 1)) (n - 1 - 1 - 1 - 1 - 1)) (n - 1 - 1 - 1 - 1 - 1 - 1 - 1 - 1 - 1), rdB4 (rdB4 (false || ((n : Nat) : Int) == (0 : Int)) (n - 1)) (n - 1 - 1 - 1 - 1 - 1)) := by
      unfold rqR rQuery; simp only [rByte_lst hB, rNum_lst hB]; rw [h3]; rfl
    refine ⟨_, noLoopsS, (Tr.go_eval rw_3 ?_).trans ?_⟩
    · repeat' (first | exact AllT.nil | refine AllT.cons ?_ ?_)
      all_goals first | (with_reducible rfl) | exact n1 | exact n2 | exact n6 | exact beq_iff_eq.2 h3 | exact yes_of ⟨hm, rfl⟩ | exact yes_of ⟨k1, rfl⟩ | exact yes_of ⟨rdI4_le k1, rfl⟩ | exact yes_of ⟨rdI4_le (rdI4_le k1), rfl⟩
    · unfold rqOut rqO1; rw [hq]; simp only [lst_len]; rw [end_eq (s3.trans (s2.trans s1))]; rfl
  have n3 : (!(rdX B i n == (3 : Int))) = true := by rw [nb h3]; rfl
  by_cases h4 : rdX B i n = 4
  · have hq : rqR B i n = (⟨rdX B i n, rnV4 B (rdI4 (rdI4 (rdI i n) (n - 1)) (n - 1 - 1 - 1 - 1 - 1)) (n - 1 - 1 - 1 - 1 - 1 - 1 - 1 - 1 - 1), rnV4 B (rdI i n) (n - 1), rnV4 B (rdI4 (rdI i n) (n - 1)) (n - 1 - 1 - 1 - 1 - 1), 0, 0, []⟩, lst B (rdI4 (rdI4 (rdI4 (rdI i n) (n - 1)) (n - 1 - 1 - 1 - 1 - 1)) (n - 1 - 1 - 1 - 1 - 1 - 1 - 1 - 1 - 1)) (n - 1 - 1 - 1 - 1 - 1 - 1 - 1 - 1 - 1 - 1 - 1 - 1 - 1), rdB4 (rdB4 (rdB4 (false || ((n : Nat) : Int) == (0 : Int)) (n - 1)) (n - 1 - 1 - 1 - 1 - 1)) (n - 1 - 1 - 1 - 1 - 1 - 1 - 1 - 1 - 1)) := by
      unfold rqR rQuery; simp only [rByte_lst hB, rNum_lst hB]; rw [h4]; rfl
    refine ⟨_, noLoopsS, (Tr.go_eval rw_4 ?_).trans ?_⟩
    · repeat' (first | exact AllT.nil | refine AllT.cons ?_ ?_)
      all_goals first | (with_reducible rfl) | exact n1 | exact n2 | exact n6 | exact n3 | exact beq_iff_eq.2 h4 | exact yes_of ⟨hm, rfl⟩ | exact yes_of ⟨k1, rfl⟩ | exact yes_of ⟨rdI4_le k1, rfl⟩ | exact yes_of ⟨rdI4_le (rdI4_le k1), rfl⟩
    · unfold rqOut rqO1; rw [hq]; simp only [lst_len]; rw [end_eq (s4.trans (s3.trans (s2.trans s1)))]; rfl
  have n4 : (!(rdX B i n == (4 : Int))) = true := by rw [nb h4]; rfl
  by_cases h5 : rdX B i n = 5
  · have hq : rqR B i n = (⟨rdX B i n, 0, rnV4 B (rdI i n) (n - 1), rnV4 B (rdI4 (rdI i n) (n - 1)) (n - 1 - 1 - 1 - 1 - 1), rnV4 B (rdI4 (rdI4 (rdI i n) (n - 1)) (n - 1 - 1 - 1 - 1 - 1)) (n - 1 - 1 - 1 - 1 - 1 - 1 - 1 - 1 - 1), rnV4 B (rdI4 (rdI4 (rdI4 (rdI i n) (n - 1)) (n - 1 - 1 - 1 - 1 - 1)) (n - 1 - 1 - 1 - 1 - 1 - 1 - 1 - 1 - 1)) (n - 1 - 1 - 1 - 1 - 1 - 1 - 1 - 1 - 1 - 1 - 1 - 1 - 1), []⟩, lst B (rdI4 (rdI4 (rdI4 (rdI4 (rdI i n) (n - 1)) (n - 1 - 1 - 1 - 1 - 1)) (n - 1 - 1 - 1 - 1 - 1 - 1 - 1 - 1 - 1)) (n - 1 - 1 - 1 - 1 - 1 - 1 - 1 - 1 - 1 - 1 - 1 - 1 - 1)) (n - 1 - 1 - 1 - 1 - 1 - 1 - 1 - 1 - 1 - 1 - 1 - 1 - 1 - 1 - 1 - 1 - 1), rdB4 (rdB4 (rdB4 (rdB4 (false || ((n : Nat) : Int) == (0 : Int)) (n - 1)) (n - 1 - 1 - 1 - 1 - 1)) (n - 1 - 1 - 1 - 1 - 1 - 1 - 1 - 1 - 1)) (n - 1 - 1 - 1 - 1 - 1 - 1 - 1 - 1 - 1 - 1 - 1 - 1 - 1)) := by
      unfold rqR rQuery; simp only [rByte_lst hB, rNum_lst hB]; rw [h5]; rfl
    refine ⟨_, noLoopsS, (Tr.go_eval rw_5 ?_).trans ?_⟩
    · repeat' (first | exact AllT.nil | refine AllT.cons ?_ ?_)
      all_goals first | (with_reducible rfl) | exact n1 | exact n2 | exact n6 | exact n3 | exact n4 | exact beq_iff_eq.2 h5 | exact yes_of ⟨hm, rfl⟩ | exact yes_of ⟨k1, rfl⟩ | exact yes_of ⟨rdI4_le k1, rfl⟩ | exact yes_of ⟨rdI4_le (rdI4_le k1), rfl⟩ | exact yes_of ⟨rdI4_le (rdI4_le (rdI4_le k1)), rfl⟩
    · unfold rqOut rqO1; rw [hq]; simp only [lst_len]; rw [end_eq (s5.trans (s4.trans (s3.trans (s2.trans s1))))]; rfl
  have n5 : (!(rdX B i n == (5 : Int))) = true := by rw [nb h5]; rfl
  have hq : rqR B i n = (⟨rdX B i n, 0, 0, 0, 0, 0, []⟩, lst B (rdI i n) (n - 1), true) := by
    unfold rqR rQuery; simp only [rByte_lst hB, nb h1, nb h2, nb h6, nb h3, nb h4, nb h5, Bool.or_self, cond_false]
  refine ⟨_, noLoopsS, (Tr.go_eval rw_x ?_).trans ?_⟩
  · repeat' (first | exact AllT.nil | refine AllT.cons ?_ ?_)
    all_goals first | (with_reducible rfl) | exact n1 | exact n2 | exact n6 | exact n3 | exact n4 | exact n5 | exact yes_of ⟨hm, rfl⟩ | exact yes_of ⟨k1, rfl⟩
  · unfold rqOut rqO1; rw [hq]; simp only [lst_len]; rw [end_eq s1]; rfl
noncomputable def rqF : Spec := fun args h => match args, h with
  | [.c (.ptr 0 0 0)], [some ⟨175, true, .one [.sl 1 i n, .v (.bool false)]⟩, some ⟨5, own, .row 1 m f⟩] =>
    .need (yes (i + n ≤ m ∧ (f = fun j => ub (ud (f j))) ∧ rng fun j => ud (f j)))
      (.ite (rqR (fun j => ud (f j)) i n).1.o.isEmpty (.ret (rqO1 own m (fun j => ud (f j)) i n (rqR (fun j => ud (f j)) i n))) (.ret (rqO2 own m (fun j => ud (f j)) i n (rqR (fun j => ud (f j)) i n))))
  | _, _ => .fail
theorem rqF_ok : SpecOk Try.prog 145 rqF := by
  refine knownS KRQ_ok Try.func145 fun args h r he => ?_
  unfold rqF at he
  split at he
  · rename_i i n own m f
    obtain ⟨⟨h1, h2, h3⟩, he'⟩ := Tr.eval_ask.1 he
    have e1 : some ⟨5, own, .row 1 m f⟩ = rowU own m fun j => ud (f j) := by rw [rowU, ← h2]
    obtain ⟨ℓ, hℓ, hv⟩ := rq_eval (own := own) h3 h1
    refine ⟨_, [], 60, ℓ, hℓ, ?_⟩
    rw [e1]
    refine hv.trans ?_
    unfold rqOut
    revert he'
    simp only [Tr.eval]
    cases (rqR (fun j => ud (f j)) i n).1.o.isEmpty <;> exact id
  · cases he
end
section
open Go Go.RowKit
def rV (r : Rd) : AV := .agg [i64 r.k, i64 r.e, i64 r.a, i64 r.n, i64 r.p, i64 r.t, i64 r.x, i64 r.y, i64 r.w, i64 r.h]
def rrR (B : Nat → Int) (i n : Nat) : Rd × (List Int × Bool) := rReply (lst B i n, false)
def rrOut (own : Bool) (m : Nat) (B : Nat → Int) (i n : Nat) (r : Rd × (List Int × Bool)) : AV × AHeap := (rV r.1, [rdB r.2.2 (i + n - r.2.1.length) r.2.1.length, rowU own m B])
theorem rr_eval {own : Bool} {m : Nat} {B : Nat → Int} {i n : Nat} (hB : rng B) (hm : i + n ≤ m) : (lfun rqG nol 60 Try.f149 [.c (.ptr 0 0 0)] [rdB false i n, rowU own m B]).eval = some (rrOut own m B i n (rrR B i n)) := by
  have k1 := rdI_le hm
  have s1 := rdI_sum i n
  have s2 := rdI4_sum (rdI i n) (n - 1)
  have s3 := rdI4_sum (rdI4 (rdI i n) (n - 1)) (n - 1 - 1 - 1 - 1 - 1)
  have s4 := rdI4_sum (rdI4 (rdI4 (rdI i n) (n - 1)) (n - 1 - 1 - 1 - 1 - 1)) (n - 1 - 1 - 1 - 1 - 1 - 1 - 1 - 1 - 1)
  have s5 := rdI4_sum (rdI4 (rdI4 (rdI4 (rdI i n) (n - 1)) (n - 1 - 1 - 1 - 1 - 1)) (n - 1 - 1 - 1 - 1 - 1 - 1 - 1 - 1 - 1)) (n - 1 - 1 - 1 - 1 - 1 - 1 - 1 - 1 - 1 - 1 - 1 - 1 - 1)
  have t2 := rdI_sum (rdI i n) (n - 1)
  have t3 := rdI4_sum (rdI (rdI i n) (n - 1)) (n - 1 - 1)
  by_cases h1 : rdX B i n = 1
  · have hq : rrR B i n = (⟨rdX B i n, 0, 0, 0, 0, 0, 0, 0, 0, 0⟩, lst B (rdI i n) (n - 1), false || ((n : Nat) : Int) == (0 : Int)) := by
      unfold rrR rReply; simp only [rByte_lst hB]; rw [h1]; rfl
    refine (Tr.go_eval rr_1 ?_).trans ?_
    · repeat' (first | exact AllT.nil | refine AllT.cons ?_ ?_)
      all_goals first | (with_reducible rfl) | exact beq_iff_eq.2 h1 | exact yes_of ⟨hm, rfl⟩
    · unfold rrOut; rw [hq]; simp only [lst_len]; rw [end_eq s1]; rfl
  have n1 : (!(rdX B i n == (1 : Int))) = true := by rw [nb h1]; rfl
  by_cases h2 : rdX B i n = 2
  · have hq : rrR B i n = (⟨rdX B i n, rdX B (rdI i n) (n - 1), rnV4 B (rdI (rdI i n) (n - 1)) (n - 1 - 1), 0, 0, 0, 0, 0, 0, 0⟩, lst B (rdI4 (rdI (rdI i n) (n - 1)) (n - 1 - 1)) (n - 1 - 1 - 1 - 1 - 1 - 1), rdB4 ((false || ((n : Nat) : Int) == (0 : Int)) || ((n - 1 : Nat) : Int) == (0 : Int)) (n - 1 - 1)) := by
      unfold rrR rReply; simp only [rByte_lst hB, rNum_lst hB]; rw [h2]; rfl
    refine (Tr.go_eval rr_2 ?_).trans ?_
    · repeat' (first | exact AllT.nil | refine AllT.cons ?_ ?_)
      all_goals first | (with_reducible rfl) | exact n1 | exact beq_iff_eq.2 h2 | exact yes_of ⟨hm, rfl⟩ | exact yes_of ⟨k1, rfl⟩ | exact yes_of ⟨rdI_le k1, rfl⟩
    · unfold rrOut; rw [hq]; simp only [lst_len]; rw [end_eq (t3.trans (t2.trans s1))]; rfl
  have n2 : (!(rdX B i n == (2 : Int))) = true := by rw [nb h2]; rfl
  by_cases h3 : rdX B i n = 3
  · have hq : rrR B i n = (⟨rdX B i n, 0, 0, 0, rnV4 B (rdI i n) (n - 1), rnV4 B (rdI4 (rdI i n) (n - 1)) (n - 1 - 1 - 1 - 1 - 1), 0, 0, 0, 0⟩, lst B (rdI4 (rdI4 (rdI i n) (n - 1)) (n - 1 - 1 - 1 - 1 - 1)) (n - 1 - 1 - 1 - 1 - 1 - 1 - 1 - 1 - 1), rdB4 (rdB4 (false || ((n : Nat) : Int) == (0 : Int)) (n - 1)) (n - 1 - 1 - 1 - 1 - 1)) := by
      unfold rrR rReply; simp only [rByte_lst hB, rNum_lst hB]; rw [h3]; rfl
    refine (Tr.go_eval rr_3 ?_).trans ?_
    · repeat' (first | exact AllT.nil | refine AllT.cons ?_ ?_)
      all_goals first | (with_reducible rfl) | exact n1 | exact n2 | exact beq_iff_eq.2 h3 | exact yes_of ⟨hm, rfl⟩ | exact yes_of ⟨k1, rfl⟩ | exact yes_of ⟨rdI4_le k1, rfl⟩
    · unfold rrOut; rw [hq]; simp only [lst_len]; rw [end_eq (s3.trans (s2.trans s1))]; rfl
  have n3 : (!(rdX B i n == (3 : Int))) = true := by rw [nb h3]; rfl
  by_cases h4 : rdX B i n = 4
  · have hq : rrR B i n = (⟨rdX B i n, 0, 0, 0, 0, 0, rnV4 B (rdI i n) (n - 1), rnV4 B (rdI4 (rdI i n) (n - 1)) (n - 1 - 1 - 1 - 1 - 1), rnV4 B (rdI4 (rdI4 (rdI i n) (n - 1)) (n - 1 - 1 - 1 - 1 - 1)) (n - 1 - 1 - 1 - 1 - 1 - 1 - 1 - 1 - 1), rnV4 B (rdI4 (rdI4 (rdI4 (rdI i n) (n - 1)) (n - 1 - 1 - 1 - 1 - 1)) (n - 1 - 1 - 1 - 1 - 1 - 1 - 1 - 1 - 1)) (n - 1 - 1 - 1 - 1 - 1 - 1 - 1 - 1 - 1 - 1 - 1 - 1 - 1)⟩, lst B (rdI4 (rdI4 (rdI4 (rdI4 (rdI i n) (n - 1)) (n - 1 - 1 - 1 - 1 - 1)) (n - 1 - 1 - 1 - 1 - 1 - 1 - 1 - 1 - 1)) (n - 1 - 1 - 1 - 1 - 1 - 1 - 1 - 1 - 1 - 1 - 1 - 1 - 1)) (n - 1 - 1 - 1 - 1 - 1 - 1 - 1 - 1 - 1 - 1 - 1 - 1 - 1 - 1 - 1 - 1 - 1), rdB4 (rdB4 (rdB4 (rdB4 (false || ((n : Nat) : Int) == (0 : Int)) (n - 1)) (n - 1 - 1 - 1 - 1 - 1)) (n - 1 - 1 - 1 - 1 - 1 - 1 - 1 - 1 - 1)) (n - 1 - 1 - 1 - 1 - 1 - 1 - 1 - 1 - 1 - 1 - 1 - 1 - 1)) := by
      unfold rrR rReply; simp only [rByte_lst hB, rNum_lst hB]; rw [h4]; rfl
    refine (Tr.go_eval rr_4 ?_).trans ?_
    · repeat' (first | exact AllT.nil | refine AllT.cons ?_ ?_)
      all_goals first | (with_reducible rfl) | exact n1 | exact n2 | exact n3 | exact beq_iff_eq.2 h4 | exact yes_of ⟨hm, rfl⟩ | exact yes_of ⟨k1, rfl⟩ | exact yes_of ⟨rdI4_le k1, rfl⟩ | exact yes_of ⟨rdI4_le (rdI4_le k1), rfl⟩ | exact yes_of ⟨rdI4_le (rdI4_le (rdI4_le k1)), rfl⟩
    · unfold rrOut; rw [hq]; simp only [lst_len]; rw [end_eq (s5.trans (s4.trans (s3.trans (s2.trans s1))))]; rfl
  have n4 : (!(rdX B i n == (4 : Int))) = true := by rw [nb h4]; rfl
  by_cases h5 : rdX B i n = 5
  · have hq : rrR B i n = (⟨rdX B i n, 0, 0, rnV4 B (rdI i n) (n - 1), 0, 0, 0, 0, 0, 0⟩, lst B (rdI4 (rdI i n) (n - 1)) (n - 1 - 1 - 1 - 1 - 1), rdB4 (false || ((n : Nat) : Int) == (0 : Int)) (n - 1)) := by
      unfold rrR rReply; simp only [rByte_lst hB, rNum_lst hB]; rw [h5]; rfl
    refine (Tr.go_eval rr_5 ?_).trans ?_
    · repeat' (first | exact AllT.nil | refine AllT.cons ?_ ?_)
      all_goals first | (with_reducible rfl) | exact n1 | exact n2 | exact n3 | exact n4 | exact beq_iff_eq.2 h5 | exact yes_of ⟨hm, rfl⟩ | exact yes_of ⟨k1, rfl⟩
    · unfold rrOut; rw [hq]; simp only [lst_len]; rw [end_eq (s2.trans s1)]; rfl
  have n5 : (!(rdX B i n == (5 : Int))) = true := by rw [nb h5]; rfl
  by_cases h6 : rdX B i n = 6
  · have hq : rrR B i n = (⟨rdX B i n, 0, 0, rnV4 B (rdI i n) (n - 1), 0, 0, 0, 0, 0, 0⟩, lst B (rdI4 (rdI i n) (n - 1)) (n - 1 - 1 - 1 - 1 - 1), rdB4 (false || ((n : Nat) : Int) == (0 : Int)) (n - 1)) := by
      unfold rrR rReply; simp only [rByte_lst hB, rNum_lst hB]; rw [h6]; rfl
    refine (Tr.go_eval rr_6 ?_).trans ?_
    · repeat' (first | exact AllT.nil | refine AllT.cons ?_ ?_)
      all_goals first | (with_reducible rfl) | exact n1 | exact n2 | exact n3 | exact n4 | exact n5 | exact beq_iff_eq.2 h6 | exact yes_of ⟨hm, rfl⟩ | exact yes_of ⟨k1, rfl⟩
    · unfold rrOut; rw [hq]; simp only [lst_len]; rw [end_eq (s2.trans s1)]; rfl
  have n6 : (!(rdX B i n == (6 : Int))) = true := by rw [nb h6]; rfl
  have hq : rrR B i n = (⟨rdX B i n, 0, 0, 0, 0, 0, 0, 0, 0, 0⟩, lst B (rdI i n) (n - 1), true) := by
    unfold rrR rReply; simp only [rByte_lst hB, nb h1, nb h2, nb h6, nb h3, nb h4, nb h5, Bool.or_self, cond_false]
  refine (Tr.go_eval rr_x ?_).trans ?_
  · repeat' (first | exact AllT.nil | refine AllT.cons ?_ ?_)
    all_goals first | (with_reducible rfl) | exact n1 | exact n2 | exact n6 | exact n3 | exact n4 | exact n5 | exact yes_of ⟨hm, rfl⟩ | exact yes_of ⟨k1, rfl⟩
  · unfold rrOut; rw [hq]; simp only [lst_len]; rw [end_eq s1]; rfl
noncomputable def rrF : Spec := fun args h => match args, h with
  | [.c (.ptr 0 0 0)], [some ⟨175, true, .one [.sl 1 i n, .v (.bool false)]⟩, some ⟨5, own, .row 1 m f⟩] =>
    .need (yes (i + n ≤ m ∧ (f = fun j => ub (ud (f j))) ∧ rng fun j => ud (f j)))
      (.ret (rrOut own m (fun j => ud (f j)) i n (rrR (fun j => ud (f j)) i n)))
  | _, _ => .fail
theorem rrF_ok : SpecOk Try.prog 149 rrF := by
  refine knownS KRQ_ok Try.func149 fun args h r he => ?_
  unfold rrF at he
  split at he
  · rename_i i n own m f
    obtain ⟨⟨h1, h2, h3⟩, he'⟩ := Tr.eval_ask.1 he
    cases he'
    have e1 : some ⟨5, own, .row 1 m f⟩ = rowU own m fun j => ud (f j) := by rw [rowU, ← h2]
    refine ⟨(fun k => if k = 8 then rqK else []), [], 60, nol, noLoopsS, ?_⟩
    rw [e1]
    exact rr_eval (own := own) h3 h1
  · cases he
end
section
open Go Go.RowKit
noncomputable def KAN : Known := [(140, wbF), (142, haF), (143, wnF), (148, wheF), (149, rrF)]
theorem KAN_ok : KnownOk KAN := consK wbF_ok (by kernel_rfl) (consK haF_ok (by kernel_rfl) (consK wnF_ok (by kernel_rfl) (consK wheF_ok (by kernel_rfl) (consK rrF_ok (by kernel_rfl) nilK))))
noncomputable def anG : Ctx2 := GK KAN (fun k => if k = 13 then [(1,none),(4,none),(15,none),(48,none),(49,none),(50,none)] else []) 6
noncomputable def mc0 (a : Rd) : Bool := yes (5 ≤ maxCells ∧ 1 = 1 ∧ (fun j => ub (appB (fun x => 0) 0 (IntKind.u8.wrap a.k) j)) = fun j => ub (ud (ub (appB (fun x => 0) 0 (IntKind.u8.wrap a.k) j))))
noncomputable def mc1 (a : Rd) : Bool := yes (5 ≤ 5 ∧ ((fun j => ub (fourB (fun j => ud (ub (appB (fun x => 0) 0 (IntKind.u8.wrap a.k) j))) 1 a.n j)) = fun j => ub (ud (ub (fourB (fun j => ud (ub (appB (fun x => 0) 0 (IntKind.u8.wrap a.k) j))) 1 a.n j)))) ∧ rng fun j => ud (ub (fourB (fun j => ud (ub (appB (fun x => 0) 0 (IntKind.u8.wrap a.k) j))) 1 a.n j)))
noncomputable def mc2 (a : Rd) : Bool := ((rrR (fun j => ud (ub (fourB (fun j => ud (ub (appB (fun x => 0) 0 (IntKind.u8.wrap a.k) j))) 1 a.n j))) 0 5).fst.k == a.k && ((rrR (fun j => ud (ub (fourB (fun j => ud (ub (appB (fun x => 0) 0 (IntKind.u8.wrap a.k) j))) 1 a.n j))) 0 5).fst.e == a.e && ((rrR (fun j => ud (ub (fourB (fun j => ud (ub (appB (fun x => 0) 0 (IntKind.u8.wrap a.k) j))) 1 a.n j))) 0 5).fst.a == a.a && ((rrR (fun j => ud (ub (fourB (fun j => ud (ub (appB (fun x => 0) 0 (IntKind.u8.wrap a.k) j))) 1 a.n j))) 0 5).fst.n == a.n && ((rrR (fun j => ud (ub (fourB (fun j => ud (ub (appB (fun x => 0) 0 (IntKind.u8.wrap a.k) j))) 1 a.n j))) 0 5).fst.p == a.p && ((rrR (fun j => ud (ub (fourB (fun j => ud (ub (appB (fun x => 0) 0 (IntKind.u8.wrap a.k) j))) 1 a.n j))) 0 5).fst.t == a.t && ((rrR (fun j => ud (ub (fourB (fun j => ud (ub (appB (fun x => 0) 0 (IntKind.u8.wrap a.k) j))) 1 a.n j))) 0 5).fst.x == a.x && ((rrR (fun j => ud (ub (fourB (fun j => ud (ub (appB (fun x => 0) 0 (IntKind.u8.wrap a.k) j))) 1 a.n j))) 0 5).fst.y == a.y && ((rrR (fun j => ud (ub (fourB (fun j => ud (ub (appB (fun x => 0) 0 (IntKind.u8.wrap a.k) j))) 1 a.n j))) 0 5).fst.w == a.w && ((rrR (fun j => ud (ub (fourB (fun j => ud (ub (appB (fun x => 0) 0 (IntKind.u8.wrap a.k) j))) 1 a.n j))) 0 5).fst.h == a.h && true))))))))))
noncomputable def mc3 (a : Rd) : Bool := yes (2 ≤ maxCells ∧ 1 = 1 ∧ (fun j => ub (appB (fun x => 0) 0 (IntKind.u8.wrap a.k) j)) = fun j => ub (ud (ub (appB (fun x => 0) 0 (IntKind.u8.wrap a.k) j))))
noncomputable def mc4 (a : Rd) : Bool := yes (6 ≤ maxCells ∧ 2 = 2 ∧ (fun j => ub (appB (fun j => ud (ub (appB (fun x => 0) 0 (IntKind.u8.wrap a.k) j))) 1 (IntKind.u8.wrap a.e) j)) = fun j => ub (ud (ub (appB (fun j => ud (ub (appB (fun x => 0) 0 (IntKind.u8.wrap a.k) j))) 1 (IntKind.u8.wrap a.e) j))))
noncomputable def mc5 (a : Rd) : Bool := yes (6 ≤ 6 ∧ ((fun j => ub (fourB (fun j => ud (ub (appB (fun j => ud (ub (appB (fun x => 0) 0 (IntKind.u8.wrap a.k) j))) 1 (IntKind.u8.wrap a.e) j))) 2 a.a j)) = fun j => ub (ud (ub (fourB (fun j => ud (ub (appB (fun j => ud (ub (appB (fun x => 0) 0 (IntKind.u8.wrap a.k) j))) 1 (IntKind.u8.wrap a.e) j))) 2 a.a j)))) ∧ rng fun j => ud (ub (fourB (fun j => ud (ub (appB (fun j => ud (ub (appB (fun x => 0) 0 (IntKind.u8.wrap a.k) j))) 1 (IntKind.u8.wrap a.e) j))) 2 a.a j)))
noncomputable def mc6 (a : Rd) : Bool := yes (9 ≤ maxCells ∧ 1 = 1 ∧ (fun j => ub (appB (fun x => 0) 0 (IntKind.u8.wrap a.k) j)) = fun j => ub (ud (ub (appB (fun x => 0) 0 (IntKind.u8.wrap a.k) j))))
noncomputable def mc7 (a : Rd) : Bool := yes (9 ≤ 9 ∧ ((fun j => ub (fourB (fourB (fun j => ud (ub (appB (fun x => 0) 0 (IntKind.u8.wrap a.k) j))) 1 a.p) 5 a.t j)) = fun j => ub (ud (ub (fourB (fourB (fun j => ud (ub (appB (fun x => 0) 0 (IntKind.u8.wrap a.k) j))) 1 a.p) 5 a.t j)))) ∧ rng fun j => ud (ub (fourB (fourB (fun j => ud (ub (appB (fun x => 0) 0 (IntKind.u8.wrap a.k) j))) 1 a.p) 5 a.t j)))
theorem an_1t {a : Rd} : (afun anG 60 Try.f105 [rV a] []).go [true, true, false, false, false, false, false] = some ([a.k == (1 : Int), yes (1 ≤ 1 ∧ ((fun j => ub (appB (fun x => 0) 0 (IntKind.u8.wrap a.k) j)) = fun j => ub (ud (ub (appB (fun x => 0) 0 (IntKind.u8.wrap a.k) j)))) ∧ rng fun j => ud (ub (appB (fun x => 0) 0 (IntKind.u8.wrap a.k) j))), !a.k == (4 : Int), !(false || !byOk a.k), true, true, true, !((rrR (fun j => ud (ub (appB (fun x => 0) 0 (IntKind.u8.wrap a.k) j))) 0 1).fst.k == a.k && ((rrR (fun j => ud (ub (appB (fun x => 0) 0 (IntKind.u8.wrap a.k) j))) 0 1).fst.e == a.e && ((rrR (fun j => ud (ub (appB (fun x => 0) 0 (IntKind.u8.wrap a.k) j))) 0 1).fst.a == a.a && ((rrR (fun j => ud (ub (appB (fun x => 0) 0 (IntKind.u8.wrap a.k) j))) 0 1).fst.n == a.n && ((rrR (fun j => ud (ub (appB (fun x => 0) 0 (IntKind.u8.wrap a.k) j))) 0 1).fst.p == a.p && ((rrR (fun j => ud (ub (appB (fun x => 0) 0 (IntKind.u8.wrap a.k) j))) 0 1).fst.t == a.t && ((rrR (fun j => ud (ub (appB (fun x => 0) 0 (IntKind.u8.wrap a.k) j))) 0 1).fst.x == a.x && ((rrR (fun j => ud (ub (appB (fun x => 0) 0 (IntKind.u8.wrap a.k) j))) 0 1).fst.y == a.y && ((rrR (fun j => ud (ub (appB (fun x => 0) 0 (IntKind.u8.wrap a.k) j))) 0 1).fst.w == a.w && ((rrR (fun j => ud (ub (appB (fun x => 0) 0 (IntKind.u8.wrap a.k) j))) 0 1).fst.h == a.h && true))))))))))], .tup [.c (.v (.slice none 0 0)), Bo false], []) := by kernel_rfl
theorem an_1f {a : Rd} : (afun anG 60 Try.f105 [rV a] []).go [true, true, false, false, false, false, false, false] = some ([a.k == (1 : Int), yes (1 ≤ 1 ∧ ((fun j => ub (appB (fun x => 0) 0 (IntKind.u8.wrap a.k) j)) = fun j => ub (ud (ub (appB (fun x => 0) 0 (IntKind.u8.wrap a.k) j)))) ∧ rng fun j => ud (ub (appB (fun x => 0) 0 (IntKind.u8.wrap a.k) j))), !a.k == (4 : Int), !(false || !byOk a.k), true, true, true, !!((rrR (fun j => ud (ub (appB (fun x => 0) 0 (IntKind.u8.wrap a.k) j))) 0 1).fst.k == a.k && ((rrR (fun j => ud (ub (appB (fun x => 0) 0 (IntKind.u8.wrap a.k) j))) 0 1).fst.e == a.e && ((rrR (fun j => ud (ub (appB (fun x => 0) 0 (IntKind.u8.wrap a.k) j))) 0 1).fst.a == a.a && ((rrR (fun j => ud (ub (appB (fun x => 0) 0 (IntKind.u8.wrap a.k) j))) 0 1).fst.n == a.n && ((rrR (fun j => ud (ub (appB (fun x => 0) 0 (IntKind.u8.wrap a.k) j))) 0 1).fst.p == a.p && ((rrR (fun j => ud (ub (appB (fun x => 0) 0 (IntKind.u8.wrap a.k) j))) 0 1).fst.t == a.t && ((rrR (fun j => ud (ub (appB (fun x => 0) 0 (IntKind.u8.wrap a.k) j))) 0 1).fst.x == a.x && ((rrR (fun j => ud (ub (appB (fun x => 0) 0 (IntKind.u8.wrap a.k) j))) 0 1).fst.y == a.y && ((rrR (fun j => ud (ub (appB (fun x => 0) 0 (IntKind.u8.wrap a.k) j))) 0 1).fst.w == a.w && ((rrR (fun j => ud (ub (appB (fun x => 0) 0 (IntKind.u8.wrap a.k) j))) 0 1).fst.h == a.h && true))))))))))], .tup [.c (.sl 0 0 1), Bo true], [some ⟨5, true, .row 1 1 fun j => [.int .u8 (ud (ub (appB (fun x => 0) 0 (IntKind.u8.wrap a.k) j)))]⟩]) := by kernel_rfl
theorem an_2b {a : Rd} : (afun anG 60 Try.f105 [rV a] []).go [false, true, true, true, true, false] = some ([!a.k == (1 : Int), a.k == (2 : Int), mc3 a, mc4 a, mc5 a, !a.k == (4 : Int), false || !byOk a.k || !byOk a.e || !fits a.a, true, true, true, true], .tup [.c (.v (.slice none 0 0)), Bo false], []) := by kernel_rfl
theorem an_2t {a : Rd} : (afun anG 60 Try.f105 [rV a] []).go [false, true, true, true, true, false, false, false, false, false] = some ([!a.k == (1 : Int), a.k == (2 : Int), mc3 a, mc4 a, mc5 a, !a.k == (4 : Int), !(false || !byOk a.k || !byOk a.e || !fits a.a), true, true, true, !((rrR (fun j => ud (ub (fourB (fun j => ud (ub (appB (fun j => ud (ub (appB (fun x => 0) 0 (IntKind.u8.wrap a.k) j))) 1 (IntKind.u8.wrap a.e) j))) 2 a.a j))) 0 6).fst.k == a.k && ((rrR (fun j => ud (ub (fourB (fun j => ud (ub (appB (fun j => ud (ub (appB (fun x => 0) 0 (IntKind.u8.wrap a.k) j))) 1 (IntKind.u8.wrap a.e) j))) 2 a.a j))) 0 6).fst.e == a.e && ((rrR (fun j => ud (ub (fourB (fun j => ud (ub (appB (fun j => ud (ub (appB (fun x => 0) 0 (IntKind.u8.wrap a.k) j))) 1 (IntKind.u8.wrap a.e) j))) 2 a.a j))) 0 6).fst.a == a.a && ((rrR (fun j => ud (ub (fourB (fun j => ud (ub (appB (fun j => ud (ub (appB (fun x => 0) 0 (IntKind.u8.wrap a.k) j))) 1 (IntKind.u8.wrap a.e) j))) 2 a.a j))) 0 6).fst.n == a.n && ((rrR (fun j => ud (ub (fourB (fun j => ud (ub (appB (fun j => ud (ub (appB (fun x => 0) 0 (IntKind.u8.wrap a.k) j))) 1 (IntKind.u8.wrap a.e) j))) 2 a.a j))) 0 6).fst.p == a.p && ((rrR (fun j => ud (ub (fourB (fun j => ud (ub (appB (fun j => ud (ub (appB (fun x => 0) 0 (IntKind.u8.wrap a.k) j))) 1 (IntKind.u8.wrap a.e) j))) 2 a.a j))) 0 6).fst.t == a.t && ((rrR (fun j => ud (ub (fourB (fun j => ud (ub (appB (fun j => ud (ub (appB (fun x => 0) 0 (IntKind.u8.wrap a.k) j))) 1 (IntKind.u8.wrap a.e) j))) 2 a.a j))) 0 6).fst.x == a.x && ((rrR (fun j => ud (ub (fourB (fun j => ud (ub (appB (fun j => ud (ub (appB (fun x => 0) 0 (IntKind.u8.wrap a.k) j))) 1 (IntKind.u8.wrap a.e) j))) 2 a.a j))) 0 6).fst.y == a.y && ((rrR (fun j => ud (ub (fourB (fun j => ud (ub (appB (fun j => ud (ub (appB (fun x => 0) 0 (IntKind.u8.wrap a.k) j))) 1 (IntKind.u8.wrap a.e) j))) 2 a.a j))) 0 6).fst.w == a.w && ((rrR (fun j => ud (ub (fourB (fun j => ud (ub (appB (fun j => ud (ub (appB (fun x => 0) 0 (IntKind.u8.wrap a.k) j))) 1 (IntKind.u8.wrap a.e) j))) 2 a.a j))) 0 6).fst.h == a.h && true))))))))))], .tup [.c (.v (.slice none 0 0)), Bo false], []) := by kernel_rfl
theorem an_2f {a : Rd} : (afun anG 60 Try.f105 [rV a] []).go [false, true, true, true, true, false, false, false, false, false, false] = some ([!a.k == (1 : Int), a.k == (2 : Int), mc3 a, mc4 a, mc5 a, !a.k == (4 : Int), !(false || !byOk a.k || !byOk a.e || !fits a.a), true, true, true, !!((rrR (fun j => ud (ub (fourB (fun j => ud (ub (appB (fun j => ud (ub (appB (fun x => 0) 0 (IntKind.u8.wrap a.k) j))) 1 (IntKind.u8.wrap a.e) j))) 2 a.a j))) 0 6).fst.k == a.k && ((rrR (fun j => ud (ub (fourB (fun j => ud (ub (appB (fun j => ud (ub (appB (fun x => 0) 0 (IntKind.u8.wrap a.k) j))) 1 (IntKind.u8.wrap a.e) j))) 2 a.a j))) 0 6).fst.e == a.e && ((rrR (fun j => ud (ub (fourB (fun j => ud (ub (appB (fun j => ud (ub (appB (fun x => 0) 0 (IntKind.u8.wrap a.k) j))) 1 (IntKind.u8.wrap a.e) j))) 2 a.a j))) 0 6).fst.a == a.a && ((rrR (fun j => ud (ub (fourB (fun j => ud (ub (appB (fun j => ud (ub (appB (fun x => 0) 0 (IntKind.u8.wrap a.k) j))) 1 (IntKind.u8.wrap a.e) j))) 2 a.a j))) 0 6).fst.n == a.n && ((rrR (fun j => ud (ub (fourB (fun j => ud (ub (appB (fun j => ud (ub (appB (fun x => 0) 0 (IntKind.u8.wrap a.k) j))) 1 (IntKind.u8.wrap a.e) j))) 2 a.a j))) 0 6).fst.p == a.p && ((rrR (fun j => ud (ub (fourB (fun j => ud (ub (appB (fun j => ud (ub (appB (fun x => 0) 0 (IntKind.u8.wrap a.k) j))) 1 (IntKind.u8.wrap a.e) j))) 2 a.a j))) 0 6).fst.t == a.t && ((rrR (fun j => ud (ub (fourB (fun j => ud (ub (appB (fun j => ud (ub (appB (fun x => 0) 0 (IntKind.u8.wrap a.k) j))) 1 (IntKind.u8.wrap a.e) j))) 2 a.a j))) 0 6).fst.x == a.x && ((rrR (fun j => ud (ub (fourB (fun j => ud (ub (appB (fun j => ud (ub (appB (fun x => 0) 0 (IntKind.u8.wrap a.k) j))) 1 (IntKind.u8.wrap a.e) j))) 2 a.a j))) 0 6).fst.y == a.y && ((rrR (fun j => ud (ub (fourB (fun j => ud (ub (appB (fun j => ud (ub (appB (fun x => 0) 0 (IntKind.u8.wrap a.k) j))) 1 (IntKind.u8.wrap a.e) j))) 2 a.a j))) 0 6).fst.w == a.w && ((rrR (fun j => ud (ub (fourB (fun j => ud (ub (appB (fun j => ud (ub (appB (fun x => 0) 0 (IntKind.u8.wrap a.k) j))) 1 (IntKind.u8.wrap a.e) j))) 2 a.a j))) 0 6).fst.h == a.h && true))))))))))], .tup [.c (.sl 0 0 6), Bo true], [some ⟨5, true, .row 1 6 fun j => [.int .u8 (ud (ub (fourB (fun j => ud (ub (appB (fun j => ud (ub (appB (fun x => 0) 0 (IntKind.u8.wrap a.k) j))) 1 (IntKind.u8.wrap a.e) j))) 2 a.a j)))]⟩]) := by kernel_rfl
theorem an_3b {a : Rd} : (afun anG 60 Try.f105 [rV a] []).go [false, false, true, true, true, false] = some ([!a.k == (1 : Int), !a.k == (2 : Int), a.k == (3 : Int), mc6 a, mc7 a, !a.k == (4 : Int), false || !byOk a.k || !fits a.p || !fits a.t, true, true, true, true], .tup [.c (.v (.slice none 0 0)), Bo false], []) := by kernel_rfl
theorem an_3t {a : Rd} : (afun anG 60 Try.f105 [rV a] []).go [false, false, true, true, true, false, false, false, false, false] = some ([!a.k == (1 : Int), !a.k == (2 : Int), a.k == (3 : Int), mc6 a, mc7 a, !a.k == (4 : Int), !(false || !byOk a.k || !fits a.p || !fits a.t), true, true, true, !((rrR (fun j => ud (ub (fourB (fourB (fun j => ud (ub (appB (fun x => 0) 0 (IntKind.u8.wrap a.k) j))) 1 a.p) 5 a.t j))) 0 9).fst.k == a.k && ((rrR (fun j => ud (ub (fourB (fourB (fun j => ud (ub (appB (fun x => 0) 0 (IntKind.u8.wrap a.k) j))) 1 a.p) 5 a.t j))) 0 9).fst.e == a.e && ((rrR (fun j => ud (ub (fourB (fourB (fun j => ud (ub (appB (fun x => 0) 0 (IntKind.u8.wrap a.k) j))) 1 a.p) 5 a.t j))) 0 9).fst.a == a.a && ((rrR (fun j => ud (ub (fourB (fourB (fun j => ud (ub (appB (fun x => 0) 0 (IntKind.u8.wrap a.k) j))) 1 a.p) 5 a.t j))) 0 9).fst.n == a.n && ((rrR (fun j => ud (ub (fourB (fourB (fun j => ud (ub (appB (fun x => 0) 0 (IntKind.u8.wrap a.k) j))) 1 a.p) 5 a.t j))) 0 9).fst.p == a.p && ((rrR (fun j => ud (ub (fourB (fourB (fun j => ud (ub (appB (fun x => 0) 0 (IntKind.u8.wrap a.k) j))) 1 a.p) 5 a.t j))) 0 9).fst.t == a.t && ((rrR (fun j => ud (ub (fourB (fourB (fun j => ud (ub (appB (fun x => 0) 0 (IntKind.u8.wrap a.k) j))) 1 a.p) 5 a.t j))) 0 9).fst.x == a.x && ((rrR (fun j => ud (ub (fourB (fourB (fun j => ud (ub (appB (fun x => 0) 0 (IntKind.u8.wrap a.k) j))) 1 a.p) 5 a.t j))) 0 9).fst.y == a.y && ((rrR (fun j => ud (ub (fourB (fourB (fun j => ud (ub (appB (fun x => 0) 0 (IntKind.u8.wrap a.k) j))) 1 a.p) 5 a.t j))) 0 9).fst.w == a.w && ((rrR (fun j => ud (ub (fourB (fourB (fun j => ud (ub (appB (fun x => 0) 0 (IntKind.u8.wrap a.k) j))) 1 a.p) 5 a.t j))) 0 9).fst.h == a.h && true))))))))))], .tup [.c (.v (.slice none 0 0)), Bo false], []) := by kernel_rfl
theorem an_3f {a : Rd} : (afun anG 60 Try.f105 [rV a] []).go [false, false, true, true, true, false, false, false, false, false, false] = some ([!a.k == (1 : Int), !a.k == (2 : Int), a.k == (3 : Int), mc6 a, mc7 a, !a.k == (4 : Int), !(false || !byOk a.k || !fits a.p || !fits a.t), true, true, true, !!((rrR (fun j => ud (ub (fourB (fourB (fun j => ud (ub (appB (fun x => 0) 0 (IntKind.u8.wrap a.k) j))) 1 a.p) 5 a.t j))) 0 9).fst.k == a.k && ((rrR (fun j => ud (ub (fourB (fourB (fun j => ud (ub (appB (fun x => 0) 0 (IntKind.u8.wrap a.k) j))) 1 a.p) 5 a.t j))) 0 9).fst.e == a.e && ((rrR (fun j => ud (ub (fourB (fourB (fun j => ud (ub (appB (fun x => 0) 0 (IntKind.u8.wrap a.k) j))) 1 a.p) 5 a.t j))) 0 9).fst.a == a.a && ((rrR (fun j => ud (ub (fourB (fourB (fun j => ud (ub (appB (fun x => 0) 0 (IntKind.u8.wrap a.k) j))) 1 a.p) 5 a.t j))) 0 9).fst.n == a.n && ((rrR (fun j => ud (ub (fourB (fourB (fun j => ud (ub (appB (fun x => 0) 0 (IntKind.u8.wrap a.k) j))) 1 a.p) 5 a.t j))) 0 9).fst.p == a.p && ((rrR (fun j => ud (ub (fourB (fourB (fun j => ud (ub (appB (fun x => 0) 0 (IntKind.u8.wrap a.k) j))) 1 a.p) 5 a.t j))) 0 9).fst.t == a.t && ((rrR (fun j => ud (ub (fourB (fourB (fun j => ud (ub (appB (fun x => 0) 0 (IntKind.u8.wrap a.k) j))) 1 a.p) 5 a.t j))) 0 9).fst.x == a.x && ((rrR (fun j => ud (ub (fourB (fourB (fun j => ud (ub (appB (fun x => 0) 0 (IntKind.u8.wrap a.k) j))) 1 a.p) 5 a.t j))) 0 9).fst.y == a.y && ((rrR (fun j => ud (ub (fourB (fourB (fun j => ud (ub (appB (fun x => 0) 0 (IntKind.u8.wrap a.k) j))) 1 a.p) 5 a.t j))) 0 9).fst.w == a.w && ((rrR (fun j => ud (ub (fourB (fourB (fun j => ud (ub (appB (fun x => 0) 0 (IntKind.u8.wrap a.k) j))) 1 a.p) 5 a.t j))) 0 9).fst.h == a.h && true))))))))))], .tup [.c (.sl 0 0 9), Bo true], [some ⟨5, true, .row 1 9 fun j => [.int .u8 (ud (ub (fourB (fourB (fun j => ud (ub (appB (fun x => 0) 0 (IntKind.u8.wrap a.k) j))) 1 a.p) 5 a.t j)))]⟩]) := by kernel_rfl
theorem an_4t {a : Rd} : (afun anG 60 Try.f105 [rV a] []).go [false, false, false, true, true, true, true, true, true, true, true, true, true, true, true, true, true, true, true, true, true, true, true, true, false, true, true, false, false, false, false] = some ([!a.k == (1 : Int), !a.k == (2 : Int), !a.k == (3 : Int), a.k == (4 : Int), true, true, true, true, mc0 a, true, true, true, true, yes (9 ≤ maxCells ∧ 5 = 5 ∧ (fun j => ub (fourB (fun j => ud (ub (appB (fun x => 0) 0 (IntKind.u8.wrap a.k) j))) 1 (held4 ([a.x, a.y, a.w, a.h].getD 0 (0 : Int))) j)) = fun j => ub (ud (ub (fourB (fun j => ud (ub (appB (fun x => 0) 0 (IntKind.u8.wrap a.k) j))) 1 (held4 ([a.x, a.y, a.w, a.h].getD 0 (0 : Int))) j)))), true, true, true, true, yes (13 ≤ maxCells ∧ 9 = 9 ∧ (fun j => ub (fourB (fun j => ud (ub (fourB (fun j => ud (ub (appB (fun x => 0) 0 (IntKind.u8.wrap a.k) j))) 1 (held4 ([a.x, a.y, a.w, a.h].getD 0 (0 : Int))) j))) 5 (held4 ([a.x, a.y, a.w, a.h].getD 1 (0 : Int))) j)) = fun j => ub (ud (ub (fourB (fun j => ud (ub (fourB (fun j => ud (ub (appB (fun x => 0) 0 (IntKind.u8.wrap a.k) j))) 1 (held4 ([a.x, a.y, a.w, a.h].getD 0 (0 : Int))) j))) 5 (held4 ([a.x, a.y, a.w, a.h].getD 1 (0 : Int))) j)))), true, true, true, true, yes (17 ≤ maxCells ∧ 13 = 13 ∧ (fun j => ub (fourB (fun j => ud (ub (fourB (fun j => ud (ub (fourB (fun j => ud (ub (appB (fun x => 0) 0 (IntKind.u8.wrap a.k) j))) 1 (held4 ([a.x, a.y, a.w, a.h].getD 0 (0 : Int))) j))) 5 (held4 ([a.x, a.y, a.w, a.h].getD 1 (0 : Int))) j))) 9 (held4 ([a.x, a.y, a.w, a.h].getD 2 (0 : Int))) j)) = fun j => ub (ud (ub (fourB (fun j => ud (ub (fourB (fun j => ud (ub (fourB (fun j => ud (ub (appB (fun x => 0) 0 (IntKind.u8.wrap a.k) j))) 1 (held4 ([a.x, a.y, a.w, a.h].getD 0 (0 : Int))) j))) 5 (held4 ([a.x, a.y, a.w, a.h].getD 1 (0 : Int))) j))) 9 (held4 ([a.x, a.y, a.w, a.h].getD 2 (0 : Int))) j)))), true, yes (17 ≤ 17 ∧ ((fun j => ub (fourB (fun j => ud (ub (fourB (fun j => ud (ub (fourB (fun j => ud (ub (fourB (fun j => ud (ub (appB (fun x => 0) 0 (IntKind.u8.wrap a.k) j))) 1 (held4 ([a.x, a.y, a.w, a.h].getD 0 (0 : Int))) j))) 5 (held4 ([a.x, a.y, a.w, a.h].getD 1 (0 : Int))) j))) 9 (held4 ([a.x, a.y, a.w, a.h].getD 2 (0 : Int))) j))) 13 (held4 ([a.x, a.y, a.w, a.h].getD 3 (0 : Int))) j)) = fun j => ub (ud (ub (fourB (fun j => ud (ub (fourB (fun j => ud (ub (fourB (fun j => ud (ub (fourB (fun j => ud (ub (appB (fun x => 0) 0 (IntKind.u8.wrap a.k) j))) 1 (held4 ([a.x, a.y, a.w, a.h].getD 0 (0 : Int))) j))) 5 (held4 ([a.x, a.y, a.w, a.h].getD 1 (0 : Int))) j))) 9 (held4 ([a.x, a.y, a.w, a.h].getD 2 (0 : Int))) j))) 13 (held4 ([a.x, a.y, a.w, a.h].getD 3 (0 : Int))) j)))) ∧ rng fun j => ud (ub (fourB (fun j => ud (ub (fourB (fun j => ud (ub (fourB (fun j => ud (ub (fourB (fun j => ud (ub (appB (fun x => 0) 0 (IntKind.u8.wrap a.k) j))) 1 (held4 ([a.x, a.y, a.w, a.h].getD 0 (0 : Int))) j))) 5 (held4 ([a.x, a.y, a.w, a.h].getD 1 (0 : Int))) j))) 9 (held4 ([a.x, a.y, a.w, a.h].getD 2 (0 : Int))) j))) 13 (held4 ([a.x, a.y, a.w, a.h].getD 3 (0 : Int))) j))), a.k == (4 : Int), !(false || !byOk a.k), true, true, true, !((rrR (fun j => ud (ub (fourB (fun j => ud (ub (fourB (fun j => ud (ub (fourB (fun j => ud (ub (fourB (fun j => ud (ub (appB (fun x => 0) 0 (IntKind.u8.wrap a.k) j))) 1 (held4 ([a.x, a.y, a.w, a.h].getD 0 (0 : Int))) j))) 5 (held4 ([a.x, a.y, a.w, a.h].getD 1 (0 : Int))) j))) 9 (held4 ([a.x, a.y, a.w, a.h].getD 2 (0 : Int))) j))) 13 (held4 ([a.x, a.y, a.w, a.h].getD 3 (0 : Int))) j))) 0 17).fst.k == a.k && ((rrR (fun j => ud (ub (fourB (fun j => ud (ub (fourB (fun j => ud (ub (fourB (fun j => ud (ub (fourB (fun j => ud (ub (appB (fun x => 0) 0 (IntKind.u8.wrap a.k) j))) 1 (held4 ([a.x, a.y, a.w, a.h].getD 0 (0 : Int))) j))) 5 (held4 ([a.x, a.y, a.w, a.h].getD 1 (0 : Int))) j))) 9 (held4 ([a.x, a.y, a.w, a.h].getD 2 (0 : Int))) j))) 13 (held4 ([a.x, a.y, a.w, a.h].getD 3 (0 : Int))) j))) 0 17).fst.e == a.e && ((rrR (fun j => ud (ub (fourB (fun j => ud (ub (fourB (fun j => ud (ub (fourB (fun j => ud (ub (fourB (fun j => ud (ub (appB (fun x => 0) 0 (IntKind.u8.wrap a.k) j))) 1 (held4 ([a.x, a.y, a.w, a.h].getD 0 (0 : Int))) j))) 5 (held4 ([a.x, a.y, a.w, a.h].getD 1 (0 : Int))) j))) 9 (held4 ([a.x, a.y, a.w, a.h].getD 2 (0 : Int))) j))) 13 (held4 ([a.x, a.y, a.w, a.h].getD 3 (0 : Int))) j))) 0 17).fst.a == a.a && ((rrR (fun j => ud (ub (fourB (fun j => ud (ub (fourB (fun j => ud (ub (fourB (fun j => ud (ub (fourB (fun j => ud (ub (appB (fun x => 0) 0 (IntKind.u8.wrap a.k) j))) 1 (held4 ([a.x, a.y, a.w, a.h].getD 0 (0 : Int))) j))) 5 (held4 ([a.x, a.y, a.w, a.h].getD 1 (0 : Int))) j))) 9 (held4 ([a.x, a.y, a.w, a.h].getD 2 (0 : Int))) j))) 13 (held4 ([a.x, a.y, a.w, a.h].getD 3 (0 : Int))) j))) 0 17).fst.n == a.n && ((rrR (fun j => ud (ub (fourB (fun j => ud (ub (fourB (fun j => ud (ub (fourB (fun j => ud (ub (fourB (fun j => ud (ub (appB (fun x => 0) 0 (IntKind.u8.wrap a.k) j))) 1 (held4 ([a.x, a.y, a.w, a.h].getD 0 (0 : Int))) j))) 5 (held4 ([a.x, a.y, a.w, a.h].getD 1 (0 : Int))) j))) 9 (held4 ([a.x, a.y, a.w, a.h].getD 2 (0 : Int))) j))) 13 (held4 ([a.x, a.y, a.w, a.h].getD 3 (0 : Int))) j))) 0 17).fst.p == a.p && ((rrR (fun j => ud (ub (fourB (fun j => ud (ub (fourB (fun j => ud (ub (fourB (fun j => ud (ub (fourB (fun j => ud (ub (appB (fun x => 0) 0 (IntKind.u8.wrap a.k) j))) 1 (held4 ([a.x, a.y, a.w, a.h].getD 0 (0 : Int))) j))) 5 (held4 ([a.x, a.y, a.w, a.h].getD 1 (0 : Int))) j))) 9 (held4 ([a.x, a.y, a.w, a.h].getD 2 (0 : Int))) j))) 13 (held4 ([a.x, a.y, a.w, a.h].getD 3 (0 : Int))) j))) 0 17).fst.t == a.t && (a.x == a.x && (a.y == a.y && (a.w == a.w && (a.h == a.h && true))))))))))], .tup [.c (.v (.slice none 0 0)), Bo false], []) := by kernel_rfl
theorem an_4f {a : Rd} : (afun anG 60 Try.f105 [rV a] []).go [false, false, false, true, true, true, true, true, true, true, true, true, true, true, true, true, true, true, true, true, true, true, true, true, false, true, true, false, false, false, false, false] = some ([!a.k == (1 : Int), !a.k == (2 : Int), !a.k == (3 : Int), a.k == (4 : Int), true, true, true, true, mc0 a, true, true, true, true, yes (9 ≤ maxCells ∧ 5 = 5 ∧ (fun j => ub (fourB (fun j => ud (ub (appB (fun x => 0) 0 (IntKind.u8.wrap a.k) j))) 1 (held4 ([a.x, a.y, a.w, a.h].getD 0 (0 : Int))) j)) = fun j => ub (ud (ub (fourB (fun j => ud (ub (appB (fun x => 0) 0 (IntKind.u8.wrap a.k) j))) 1 (held4 ([a.x, a.y, a.w, a.h].getD 0 (0 : Int))) j)))), true, true, true, true, yes (13 ≤ maxCells ∧ 9 = 9 ∧ (fun j => ub (fourB (fun j => ud (ub (fourB (fun j => ud (ub (appB (fun x => 0) 0 (IntKind.u8.wrap a.k) j))) 1 (held4 ([a.x, a.y, a.w, a.h].getD 0 (0 : Int))) j))) 5 (held4 ([a.x, a.y, a.w, a.h].getD 1 (0 : Int))) j)) = fun j => ub (ud (ub (fourB (fun j => ud (ub (fourB (fun j => ud (ub (appB (fun x => 0) 0 (IntKind.u8.wrap a.k) j))) 1 (held4 ([a.x, a.y, a.w, a.h].getD 0 (0 : Int))) j))) 5 (held4 ([a.x, a.y, a.w, a.h].getD 1 (0 : Int))) j)))), true, true, true, true, yes (17 ≤ maxCells ∧ 13 = 13 ∧ (fun j => ub (fourB (fun j => ud (ub (fourB (fun j => ud (ub (fourB (fun j => ud (ub (appB (fun x => 0) 0 (IntKind.u8.wrap a.k) j))) 1 (held4 ([a.x, a.y, a.w, a.h].getD 0 (0 : Int))) j))) 5 (held4 ([a.x, a.y, a.w, a.h].getD 1 (0 : Int))) j))) 9 (held4 ([a.x, a.y, a.w, a.h].getD 2 (0 : Int))) j)) = fun j => ub (ud (ub (fourB (fun j => ud (ub (fourB (fun j => ud (ub (fourB (fun j => ud (ub (appB (fun x => 0) 0 (IntKind.u8.wrap a.k) j))) 1 (held4 ([a.x, a.y, a.w, a.h].getD 0 (0 : Int))) j))) 5 (held4 ([a.x, a.y, a.w, a.h].getD 1 (0 : Int))) j))) 9 (held4 ([a.x, a.y, a.w, a.h].getD 2 (0 : Int))) j)))), true, yes (17 ≤ 17 ∧ ((fun j => ub (fourB (fun j => ud (ub (fourB (fun j => ud (ub (fourB (fun j => ud (ub (fourB (fun j => ud (ub (appB (fun x => 0) 0 (IntKind.u8.wrap a.k) j))) 1 (held4 ([a.x, a.y, a.w, a.h].getD 0 (0 : Int))) j))) 5 (held4 ([a.x, a.y, a.w, a.h].getD 1 (0 : Int))) j))) 9 (held4 ([a.x, a.y, a.w, a.h].getD 2 (0 : Int))) j))) 13 (held4 ([a.x, a.y, a.w, a.h].getD 3 (0 : Int))) j)) = fun j => ub (ud (ub (fourB (fun j => ud (ub (fourB (fun j => ud (ub (fourB (fun j => ud (ub (fourB (fun j => ud (ub (appB (fun x => 0) 0 (IntKind.u8.wrap a.k) j))) 1 (held4 ([a.x, a.y, a.w, a.h].getD 0 (0 : Int))) j))) 5 (held4 ([a.x, a.y, a.w, a.h].getD 1 (0 : Int))) j))) 9 (held4 ([a.x, a.y, a.w, a.h].getD 2 (0 : Int))) j))) 13 (held4 ([a.x, a.y, a.w, a.h].getD 3 (0 : Int))) j)))) ∧ rng fun j => ud (ub (fourB (fun j => ud (ub (fourB (fun j => ud (ub (fourB (fun j => ud (ub (fourB (fun j => ud (ub (appB (fun x => 0) 0 (IntKind.u8.wrap a.k) j))) 1 (held4 ([a.x, a.y, a.w, a.h].getD 0 (0 : Int))) j))) 5 (held4 ([a.x, a.y, a.w, a.h].getD 1 (0 : Int))) j))) 9 (held4 ([a.x, a.y, a.w, a.h].getD 2 (0 : Int))) j))) 13 (held4 ([a.x, a.y, a.w, a.h].getD 3 (0 : Int))) j))), a.k == (4 : Int), !(false || !byOk a.k), true, true, true, !!((rrR (fun j => ud (ub (fourB (fun j => ud (ub (fourB (fun j => ud (ub (fourB (fun j => ud (ub (fourB (fun j => ud (ub (appB (fun x => 0) 0 (IntKind.u8.wrap a.k) j))) 1 (held4 ([a.x, a.y, a.w, a.h].getD 0 (0 : Int))) j))) 5 (held4 ([a.x, a.y, a.w, a.h].getD 1 (0 : Int))) j))) 9 (held4 ([a.x, a.y, a.w, a.h].getD 2 (0 : Int))) j))) 13 (held4 ([a.x, a.y, a.w, a.h].getD 3 (0 : Int))) j))) 0 17).fst.k == a.k && ((rrR (fun j => ud (ub (fourB (fun j => ud (ub (fourB (fun j => ud (ub (fourB (fun j => ud (ub (fourB (fun j => ud (ub (appB (fun x => 0) 0 (IntKind.u8.wrap a.k) j))) 1 (held4 ([a.x, a.y, a.w, a.h].getD 0 (0 : Int))) j))) 5 (held4 ([a.x, a.y, a.w, a.h].getD 1 (0 : Int))) j))) 9 (held4 ([a.x, a.y, a.w, a.h].getD 2 (0 : Int))) j))) 13 (held4 ([a.x, a.y, a.w, a.h].getD 3 (0 : Int))) j))) 0 17).fst.e == a.e && ((rrR (fun j => ud (ub (fourB (fun j => ud (ub (fourB (fun j => ud (ub (fourB (fun j => ud (ub (fourB (fun j => ud (ub (appB (fun x => 0) 0 (IntKind.u8.wrap a.k) j))) 1 (held4 ([a.x, a.y, a.w, a.h].getD 0 (0 : Int))) j))) 5 (held4 ([a.x, a.y, a.w, a.h].getD 1 (0 : Int))) j))) 9 (held4 ([a.x, a.y, a.w, a.h].getD 2 (0 : Int))) j))) 13 (held4 ([a.x, a.y, a.w, a.h].getD 3 (0 : Int))) j))) 0 17).fst.a == a.a && ((rrR (fun j => ud (ub (fourB (fun j => ud (ub (fourB (fun j => ud (ub (fourB (fun j => ud (ub (fourB (fun j => ud (ub (appB (fun x => 0) 0 (IntKind.u8.wrap a.k) j))) 1 (held4 ([a.x, a.y, a.w, a.h].getD 0 (0 : Int))) j))) 5 (held4 ([a.x, a.y, a.w, a.h].getD 1 (0 : Int))) j))) 9 (held4 ([a.x, a.y, a.w, a.h].getD 2 (0 : Int))) j))) 13 (held4 ([a.x, a.y, a.w, a.h].getD 3 (0 : Int))) j))) 0 17).fst.n == a.n && ((rrR (fun j => ud (ub (fourB (fun j => ud (ub (fourB (fun j => ud (ub (fourB (fun j => ud (ub (fourB (fun j => ud (ub (appB (fun x => 0) 0 (IntKind.u8.wrap a.k) j))) 1 (held4 ([a.x, a.y, a.w, a.h].getD 0 (0 : Int))) j))) 5 (held4 ([a.x, a.y, a.w, a.h].getD 1 (0 : Int))) j))) 9 (held4 ([a.x, a.y, a.w, a.h].getD 2 (0 : Int))) j))) 13 (held4 ([a.x, a.y, a.w, a.h].getD 3 (0 : Int))) j))) 0 17).fst.p == a.p && ((rrR (fun j => ud (ub (fourB (fun j => ud (ub (fourB (fun j => ud (ub (fourB (fun j => ud (ub (fourB (fun j => ud (ub (appB (fun x => 0) 0 (IntKind.u8.wrap a.k) j))) 1 (held4 ([a.x, a.y, a.w, a.h].getD 0 (0 : Int))) j))) 5 (held4 ([a.x, a.y, a.w, a.h].getD 1 (0 : Int))) j))) 9 (held4 ([a.x, a.y, a.w, a.h].getD 2 (0 : Int))) j))) 13 (held4 ([a.x, a.y, a.w, a.h].getD 3 (0 : Int))) j))) 0 17).fst.t == a.t && (a.x == a.x && (a.y == a.y && (a.w == a.w && (a.h == a.h && true))))))))))], .tup [.c (.sl 0 0 17), Bo true], [some ⟨5, true, .row 1 17 fun j => [.int .u8 (ud (ub (fourB (fun j => ud (ub (fourB (fun j => ud (ub (fourB (fun j => ud (ub (fourB (fun j => ud (ub (appB (fun x => 0) 0 (IntKind.u8.wrap a.k) j))) 1 (held4 ([a.x, a.y, a.w, a.h].getD 0 (0 : Int))) j))) 5 (held4 ([a.x, a.y, a.w, a.h].getD 1 (0 : Int))) j))) 9 (held4 ([a.x, a.y, a.w, a.h].getD 2 (0 : Int))) j))) 13 (held4 ([a.x, a.y, a.w, a.h].getD 3 (0 : Int))) j)))]⟩]) := by kernel_rfl
theorem an_5b {a : Rd} : (afun anG 60 Try.f105 [rV a] []).go [false, false, false, false, true, true, true, true, false] = some ([!a.k == (1 : Int), !a.k == (2 : Int), !a.k == (3 : Int), !a.k == (4 : Int), a.k == (5 : Int), true, mc0 a, mc1 a, !a.k == (4 : Int), false || !byOk a.k || !fits a.n, true, true, true, true], .tup [.c (.v (.slice none 0 0)), Bo false], []) := by kernel_rfl
theorem an_5t {a : Rd} : (afun anG 60 Try.f105 [rV a] []).go [false, false, false, false, true, true, true, true, false, false, false, false, false] = some ([!a.k == (1 : Int), !a.k == (2 : Int), !a.k == (3 : Int), !a.k == (4 : Int), a.k == (5 : Int), true, mc0 a, mc1 a, !a.k == (4 : Int), !(false || !byOk a.k || !fits a.n), true, true, true, !(mc2 a)], .tup [.c (.v (.slice none 0 0)), Bo false], []) := by kernel_rfl
theorem an_5f {a : Rd} : (afun anG 60 Try.f105 [rV a] []).go [false, false, false, false, true, true, true, true, false, false, false, false, false, false] = some ([!a.k == (1 : Int), !a.k == (2 : Int), !a.k == (3 : Int), !a.k == (4 : Int), a.k == (5 : Int), true, mc0 a, mc1 a, !a.k == (4 : Int), !(false || !byOk a.k || !fits a.n), true, true, true, !!(mc2 a)], .tup [.c (.sl 0 0 5), Bo true], [some ⟨5, true, .row 1 5 fun j => [.int .u8 (ud (ub (fourB (fun j => ud (ub (appB (fun x => 0) 0 (IntKind.u8.wrap a.k) j))) 1 a.n j)))]⟩]) := by kernel_rfl
theorem an_6b {a : Rd} : (afun anG 60 Try.f105 [rV a] []).go [false, false, false, false, false, true, true, true, false] = some ([!a.k == (1 : Int), !a.k == (2 : Int), !a.k == (3 : Int), !a.k == (4 : Int), !a.k == (5 : Int), a.k == (6 : Int), mc0 a, mc1 a, !a.k == (4 : Int), false || !byOk a.k || !fits a.n, true, true, true, true], .tup [.c (.v (.slice none 0 0)), Bo false], []) := by kernel_rfl
theorem an_6t {a : Rd} : (afun anG 60 Try.f105 [rV a] []).go [false, false, false, false, false, true, true, true, false, false, false, false, false] = some ([!a.k == (1 : Int), !a.k == (2 : Int), !a.k == (3 : Int), !a.k == (4 : Int), !a.k == (5 : Int), a.k == (6 : Int), mc0 a, mc1 a, !a.k == (4 : Int), !(false || !byOk a.k || !fits a.n), true, true, true, !(mc2 a)], .tup [.c (.v (.slice none 0 0)), Bo false], []) := by kernel_rfl
theorem an_6f {a : Rd} : (afun anG 60 Try.f105 [rV a] []).go [false, false, false, false, false, true, true, true, false, false, false, false, false, false] = some ([!a.k == (1 : Int), !a.k == (2 : Int), !a.k == (3 : Int), !a.k == (4 : Int), !a.k == (5 : Int), a.k == (6 : Int), mc0 a, mc1 a, !a.k == (4 : Int), !(false || !byOk a.k || !fits a.n), true, true, true, !!(mc2 a)], .tup [.c (.sl 0 0 5), Bo true], [some ⟨5, true, .row 1 5 fun j => [.int .u8 (ud (ub (fourB (fun j => ud (ub (appB (fun x => 0) 0 (IntKind.u8.wrap a.k) j))) 1 a.n j)))]⟩]) := by kernel_rfl
theorem an_x {a : Rd} : (afun anG 60 Try.f105 [rV a] []).go [false, false, false, false, false, false] = some ([!a.k == (1 : Int), !a.k == (2 : Int), !a.k == (3 : Int), !a.k == (4 : Int), !a.k == (5 : Int), !a.k == (6 : Int)], .tup [.c (.v (.slice none 0 0)), Bo false], []) := by kernel_rfl
end
section
open Go Go.RowKit
abbrev eqK : List (Nat × Option TypeId) := [(0,none),(1,none),(4,none),(12,none),(13,none)]
noncomputable def eqG : Ctx2 := GT [] (fun k => if k = 4 then eqK else []) 0 []
theorem eqG_ok : XOk eqG := GT_ok nilK _ _ _
def eqS (o1 o2 : Bool) (m1 m2 : Nat) (P1 P2 : Nat → Opp) (n n2 : Nat) (i : Int) : St := ⟨slots 26 [(0, .c (.sl 0 0 n)), (1, .c (.sl 1 0 n2)), (4, Bo false), (12, I64 n), (13, I64 i)], [rowP o1 m1 P1, rowP o2 m2 P2]⟩
theorem eq_e {o1 o2 : Bool} {m1 m2 : Nat} {P1 P2 : Nat → Opp} {n n2 : Nat} {i : Int} : (rT eqG nol 2 54 (bodyOf Try.f161 0) eqK eqK (eqS o1 o2 m1 m2 P1 P2 n n2 i)).go [false] = some ([!decide (i < ((n : Nat) : Int))], Ex.exit 0, { sl := slots 26 [(0, .c (.sl 0 0 n)), (1, .c (.sl 1 0 n2)), (4, Bo false), (12, I64 ((n : Nat) : Int)), (13, I64 i)], h := [some ⟨121, o1, .row 5 m1 fun j => [.int .i64 (P1 j).k, .int .i64 (P1 j).i, .int .i64 (P1 j).a, .int .i64 (P1 j).b, .string (P1 j).s]⟩, some ⟨121, o2, .row 5 m2 fun j => [.int .i64 (P2 j).k, .int .i64 (P2 j).i, .int .i64 (P2 j).a, .int .i64 (P2 j).b, .string (P2 j).s]⟩] }) := by kernel_rfl
theorem eq_df {o1 o2 : Bool} {m1 m2 : Nat} {P1 P2 : Nat → Opp} {n n2 : Nat} {i : Int} : (rT eqG nol 2 54 (bodyOf Try.f161 0) eqK eqK (eqS o1 o2 m1 m2 P1 P2 n n2 i)).go [] = some ([decide (i < ((n : Nat) : Int)), decide ((0 : Int) ≤ i), decide (i < ((n : Nat) : Int)), decide (0 + i.toNat < m1), decide ((0 : Int) ≤ i), decide (i < ((n2 : Nat) : Int)), decide (0 + i.toNat < m2), !((P1 (0 + i.toNat)).k == (P2 (0 + i.toNat)).k && ((P1 (0 + i.toNat)).i == (P2 (0 + i.toNat)).i && ((P1 (0 + i.toNat)).a == (P2 (0 + i.toNat)).a && ((P1 (0 + i.toNat)).b == (P2 (0 + i.toNat)).b && ((P1 (0 + i.toNat)).s == (P2 (0 + i.toNat)).s && true)))))], Ex.ret, { sl := slots 26 [(0, .c (.sl 0 0 n)), (1, .c (.sl 1 0 n2)), (4, Bo false), (12, I64 ((n : Nat) : Int)), (13, I64 i)], h := [some ⟨121, o1, .row 5 m1 fun j => [.int .i64 (P1 j).k, .int .i64 (P1 j).i, .int .i64 (P1 j).a, .int .i64 (P1 j).b, .string (P1 j).s]⟩, some ⟨121, o2, .row 5 m2 fun j => [.int .i64 (P2 j).k, .int .i64 (P2 j).i, .int .i64 (P2 j).a, .int .i64 (P2 j).b, .string (P2 j).s]⟩] }) := by kernel_rfl
theorem eq_go {o1 o2 : Bool} {m1 m2 : Nat} {P1 P2 : Nat → Opp} {n n2 : Nat} {i : Int} : (rT eqG nol 2 54 (bodyOf Try.f161 0) eqK eqK (eqS o1 o2 m1 m2 P1 P2 n n2 i)).go [true, true, true, true, true, true, true, false] = some ([decide (i < ((n : Nat) : Int)), decide ((0 : Int) ≤ i), decide (i < ((n : Nat) : Int)), decide (0 + i.toNat < m1), decide ((0 : Int) ≤ i), decide (i < ((n2 : Nat) : Int)), decide (0 + i.toNat < m2), !!((P1 (0 + i.toNat)).k == (P2 (0 + i.toNat)).k && ((P1 (0 + i.toNat)).i == (P2 (0 + i.toNat)).i && ((P1 (0 + i.toNat)).a == (P2 (0 + i.toNat)).a && ((P1 (0 + i.toNat)).b == (P2 (0 + i.toNat)).b && ((P1 (0 + i.toNat)).s == (P2 (0 + i.toNat)).s && true)))))], Ex.normal, { sl := slots 26 [(0, .c (.sl 0 0 n)), (1, .c (.sl 1 0 n2)), (4, Bo false), (12, I64 ((n : Nat) : Int)), (13, I64 (w64 (i + (1 : Int))))], h := [some ⟨121, o1, .row 5 m1 fun j => [.int .i64 (P1 j).k, .int .i64 (P1 j).i, .int .i64 (P1 j).a, .int .i64 (P1 j).b, .string (P1 j).s]⟩, some ⟨121, o2, .row 5 m2 fun j => [.int .i64 (P2 j).k, .int .i64 (P2 j).i, .int .i64 (P2 j).a, .int .i64 (P2 j).b, .string (P2 j).s]⟩] }) := by kernel_rfl
def nilS : AV := .c (.v (.slice none 0 0))
def eqN : St := ⟨slots 26 [(0, nilS), (1, nilS), (4, Bo false), (12, I64 ((0 : Nat) : Int)), (13, I64 0)], []⟩
def eqN1 (o1 : Bool) (m1 : Nat) (P1 : Nat → Opp) : St := ⟨slots 26 [(0, .c (.sl 0 0 0)), (1, nilS), (4, Bo false), (12, I64 ((0 : Nat) : Int)), (13, I64 0)], [rowP o1 m1 P1]⟩
def eqN2 (o1 : Bool) (m1 : Nat) (P1 : Nat → Opp) : St := ⟨slots 26 [(0, nilS), (1, .c (.sl 0 0 0)), (4, Bo false), (12, I64 ((0 : Nat) : Int)), (13, I64 0)], [rowP o1 m1 P1]⟩
theorem eqn_e : (rT eqG nol 0 54 (bodyOf Try.f161 0) eqK eqK eqN).go [false] = some ([true], Ex.exit 0, { sl := slots 26 [(0, .c (.v (.slice none 0 0))), (1, .c (.v (.slice none 0 0))), (4, Bo false), (12, I64 ((0 : Nat) : Int)), (13, I64 0)], h := [] }) := by kernel_rfl
theorem eqn1_e {o1 : Bool} {m1 : Nat} {P1 : Nat → Opp} : (rT eqG nol 1 54 (bodyOf Try.f161 0) eqK eqK (eqN1 o1 m1 P1)).go [false] = some ([true], Ex.exit 0, { sl := slots 26 [(0, .c (.sl 0 0 0)), (1, .c (.v (.slice none 0 0))), (4, Bo false), (12, I64 ((0 : Nat) : Int)), (13, I64 0)], h := [some ⟨121, o1, .row 5 m1 fun j => [.int .i64 (P1 j).k, .int .i64 (P1 j).i, .int .i64 (P1 j).a, .int .i64 (P1 j).b, .string (P1 j).s]⟩] }) := by kernel_rfl
theorem eqn2_e {o1 : Bool} {m1 : Nat} {P1 : Nat → Opp} : (rT eqG nol 1 54 (bodyOf Try.f161 0) eqK eqK (eqN2 o1 m1 P1)).go [false] = some ([true], Ex.exit 0, { sl := slots 26 [(0, .c (.v (.slice none 0 0))), (1, .c (.sl 0 0 0)), (4, Bo false), (12, I64 ((0 : Nat) : Int)), (13, I64 0)], h := [some ⟨121, o1, .row 5 m1 fun j => [.int .i64 (P1 j).k, .int .i64 (P1 j).i, .int .i64 (P1 j).a, .int .i64 (P1 j).b, .string (P1 j).s]⟩] }) := by kernel_rfl
theorem eq_nn : (lfun eqG (tell (bodyOf Try.f161 0) eqN (.exit 0, eqN)) 60 Try.f161 [nilS, nilS] []).go [false] = some ([true, yes (wasS (bodyOf Try.f161 0) eqN)], Bo true, []) := by kernel_rfl
theorem eq_sn0 {o1 : Bool} {m1 : Nat} {P1 : Nat → Opp} : (lfun eqG (tell (bodyOf Try.f161 0) (eqN1 o1 m1 P1) (.exit 0, eqN1 o1 m1 P1)) 60 Try.f161 [.c (.sl 0 0 0), nilS] [rowP o1 m1 P1]).go [false] = some ([true, yes (wasS (bodyOf Try.f161 0) (eqN1 o1 m1 P1))], Bo true, [some ⟨121, o1, .row 5 m1 fun j => [.int .i64 (P1 j).k, .int .i64 (P1 j).i, .int .i64 (P1 j).a, .int .i64 (P1 j).b, .string (P1 j).s]⟩]) := by kernel_rfl
theorem eq_ns0 {o1 : Bool} {m1 : Nat} {P1 : Nat → Opp} : (lfun eqG (tell (bodyOf Try.f161 0) (eqN2 o1 m1 P1) (.exit 0, eqN2 o1 m1 P1)) 60 Try.f161 [nilS, .c (.sl 0 0 0)] [rowP o1 m1 P1]).go [false] = some ([true, yes (wasS (bodyOf Try.f161 0) (eqN2 o1 m1 P1))], Bo true, [some ⟨121, o1, .row 5 m1 fun j => [.int .i64 (P1 j).k, .int .i64 (P1 j).i, .int .i64 (P1 j).a, .int .i64 (P1 j).b, .string (P1 j).s]⟩]) := by kernel_rfl
theorem eq_ns {o2 : Bool} {m2 n : Nat} {P2 : Nat → Opp} : (lfun eqG nol 60 Try.f161 [.c (.v (.slice none 0 0)), .c (.sl 0 0 n)] [rowP o2 m2 P2]).go [] = some ([((0 : Nat) : Int) != ((n : Nat) : Int)], Bo false, [some ⟨121, o2, .row 5 m2 fun j => [.int .i64 (P2 j).k, .int .i64 (P2 j).i, .int .i64 (P2 j).a, .int .i64 (P2 j).b, .string (P2 j).s]⟩]) := by kernel_rfl
theorem eq_sn {o1 : Bool} {m1 n : Nat} {P1 : Nat → Opp} : (lfun eqG nol 60 Try.f161 [.c (.sl 0 0 n), .c (.v (.slice none 0 0))] [rowP o1 m1 P1]).go [] = some ([((n : Nat) : Int) != ((0 : Nat) : Int)], Bo false, [some ⟨121, o1, .row 5 m1 fun j => [.int .i64 (P1 j).k, .int .i64 (P1 j).i, .int .i64 (P1 j).a, .int .i64 (P1 j).b, .string (P1 j).s]⟩]) := by kernel_rfl
theorem eq_sd {o1 o2 : Bool} {m1 m2 : Nat} {P1 P2 : Nat → Opp} {n1 n2 : Nat} : (lfun eqG nol 60 Try.f161 [.c (.sl 0 0 n1), .c (.sl 1 0 n2)] [rowP o1 m1 P1, rowP o2 m2 P2]).go [] = some ([((n1 : Nat) : Int) != ((n2 : Nat) : Int)], Bo false, [some ⟨121, o1, .row 5 m1 fun j => [.int .i64 (P1 j).k, .int .i64 (P1 j).i, .int .i64 (P1 j).a, .int .i64 (P1 j).b, .string (P1 j).s]⟩, some ⟨121, o2, .row 5 m2 fun j => [.int .i64 (P2 j).k, .int .i64 (P2 j).i, .int .i64 (P2 j).a, .int .i64 (P2 j).b, .string (P2 j).s]⟩]) := by kernel_rfl
theorem eq_wt {o1 o2 : Bool} {m1 m2 : Nat} {P1 P2 : Nat → Opp} {n1 n2 : Nat} {i : Int} : (lfun eqG (tell (bodyOf Try.f161 0) (eqS o1 o2 m1 m2 P1 P2 n1 n2 0) (.exit 0, eqS o1 o2 m1 m2 P1 P2 n1 n2 i)) 60 Try.f161 [.c (.sl 0 0 n1), .c (.sl 1 0 n2)] [rowP o1 m1 P1, rowP o2 m2 P2]).go [false] = some ([!((n1 : Nat) : Int) != ((n2 : Nat) : Int), yes (wasS (bodyOf Try.f161 0) (eqS o1 o2 m1 m2 P1 P2 n1 n2 0))], Bo true, [some ⟨121, o1, .row 5 m1 fun j => [.int .i64 (P1 j).k, .int .i64 (P1 j).i, .int .i64 (P1 j).a, .int .i64 (P1 j).b, .string (P1 j).s]⟩, some ⟨121, o2, .row 5 m2 fun j => [.int .i64 (P2 j).k, .int .i64 (P2 j).i, .int .i64 (P2 j).a, .int .i64 (P2 j).b, .string (P2 j).s]⟩]) := by kernel_rfl
theorem eq_wf {o1 o2 : Bool} {m1 m2 : Nat} {P1 P2 : Nat → Opp} {n1 n2 : Nat} {i : Int} : (lfun eqG (tell (bodyOf Try.f161 0) (eqS o1 o2 m1 m2 P1 P2 n1 n2 0) (.ret, eqS o1 o2 m1 m2 P1 P2 n1 n2 i)) 60 Try.f161 [.c (.sl 0 0 n1), .c (.sl 1 0 n2)] [rowP o1 m1 P1, rowP o2 m2 P2]).go [false] = some ([!((n1 : Nat) : Int) != ((n2 : Nat) : Int), yes (wasS (bodyOf Try.f161 0) (eqS o1 o2 m1 m2 P1 P2 n1 n2 0))], Bo false, [some ⟨121, o1, .row 5 m1 fun j => [.int .i64 (P1 j).k, .int .i64 (P1 j).i, .int .i64 (P1 j).a, .int .i64 (P1 j).b, .string (P1 j).s]⟩, some ⟨121, o2, .row 5 m2 fun j => [.int .i64 (P2 j).k, .int .i64 (P2 j).i, .int .i64 (P2 j).a, .int .i64 (P2 j).b, .string (P2 j).s]⟩]) := by kernel_rfl
end
section
open Go Go.RowKit
theorem first_diff (p : Nat → Prop) : ∀ n, (∀ t, t < n → p t) ∨ ∃ t, t < n ∧ ¬ p t ∧ ∀ s, s < t → p s
  | 0 => .inl fun t h => absurd h (Nat.not_lt_zero t)
  | n + 1 => by
    rcases first_diff p n with h | ⟨t, h1, h2, h3⟩
    · by_cases hn : p n
      · refine .inl fun t ht => ?_
        by_cases e : t = n
        · subst e; exact hn
        · exact h t (by omega)
      · exact .inr ⟨n, by omega, hn, h⟩
    · exact .inr ⟨t, by omega, h2, h3⟩
theorem ba_beq (a b : ByteArray) : (a == b) = true ↔ a = b := by
  cases a with | mk x => cases b with | mk y =>
  show (ByteArray.beq ⟨x⟩ ⟨y⟩) = true ↔ _
  simp [ByteArray.beq]
theorem eqO_iff (a b : Opp) : (a.k == b.k && (a.i == b.i && (a.a == b.a && (a.b == b.b && (a.s == b.s && true))))) = true ↔ a = b := by
  cases a; cases b
  simp only [Bool.and_eq_true, beq_iff_eq, ba_beq, and_true, Opp.mk.injEq]
theorem eq_loop_t {o1 o2 : Bool} {m1 m2 : Nat} {P1 P2 : Nat → Opp} {n : Nat} (h1 : n ≤ m1) (h2 : n ≤ m2) (hn : n < 2 ^ 60) (hp : ∀ t, t < n → P1 t = P2 t) :
    CodeSem eqG 2 (.loop (bodyOf Try.f161 0)) (eqS o1 o2 m1 m2 P1 P2 n n 0) (.exit 0, eqS o1 o2 m1 m2 P1 P2 n n (n : Nat)) := by
  refine loop_of (fun i => eqS o1 o2 m1 m2 P1 P2 n n (i : Nat)) n (by simp) ?_ fun j hj => ?_
  · exact rT_sem eqG_ok noLoopsS (rT_go eq_e ⟨by rw [decide_eq_false (by omega)]; rfl, trivial⟩)
  · have e1 := succ64 (j := j) (by omega)
    refine rT_sem eqG_ok noLoopsS ((rT_go eq_go ?_).trans ?_)
    · simp only [Int.toNat_natCast, Nat.zero_add]
      have e2 := (eqO_iff (P1 j) (P2 j)).2 (hp j hj)
      repeat' (first | exact AllT.nil | refine AllT.cons ?_ ?_)
      all_goals first | (with_reducible rfl) | exact decide_eq_true (by omega) | (rw [e2]; rfl)
    · simp only [Int.toNat_natCast, e1]
      rfl
theorem eq_loop_f {o1 o2 : Bool} {m1 m2 : Nat} {P1 P2 : Nat → Opp} {n t : Nat} (h1 : n ≤ m1) (h2 : n ≤ m2) (hn : n < 2 ^ 60) (ht : t < n) (hd : ¬ P1 t = P2 t) (hp : ∀ s, s < t → P1 s = P2 s) :
    CodeSem eqG 2 (.loop (bodyOf Try.f161 0)) (eqS o1 o2 m1 m2 P1 P2 n n 0) (.ret, eqS o1 o2 m1 m2 P1 P2 n n (t : Nat)) := by
  refine loop_of (fun i => eqS o1 o2 m1 m2 P1 P2 n n (i : Nat)) t (by simp) ?_ fun j hj => ?_
  · refine rT_sem eqG_ok noLoopsS ((rT_go eq_df ?_).trans ?_)
    · simp only [Int.toNat_natCast, Nat.zero_add]
      have e2 : (((P1 t).k == (P2 t).k && ((P1 t).i == (P2 t).i && ((P1 t).a == (P2 t).a && ((P1 t).b == (P2 t).b && ((P1 t).s == (P2 t).s && true))))) : Bool) = false := by
        rw [← Bool.not_eq_true, eqO_iff]; exact hd
      repeat' (first | exact AllT.nil | refine AllT.cons ?_ ?_)
      all_goals first | (with_reducible rfl) | exact decide_eq_true (by omega) | (rw [e2]; rfl)
    · rfl
  · have e1 := succ64 (j := j) (by omega)
    refine rT_sem eqG_ok noLoopsS ((rT_go eq_go ?_).trans ?_)
    · simp only [Int.toNat_natCast, Nat.zero_add]
      have e2 := (eqO_iff (P1 j) (P2 j)).2 (hp j hj)
      repeat' (first | exact AllT.nil | refine AllT.cons ?_ ?_)
      all_goals first | (with_reducible rfl) | exact decide_eq_true (by omega) | (rw [e2]; rfl)
    · simp only [Int.toNat_natCast, e1]
      rfl
noncomputable def eqF : Spec := fun args h => match args, h with
  | [.c (.v (.slice none 0 0)), .c (.v (.slice none 0 0))], [] => .ret (Bo true, [])
  | [.c (.v (.slice none 0 0)), .c (.sl 0 0 n)], [some ⟨121, o, .row 5 m f⟩] => .need (yes (f = fun j => encO (decO (f j)))) (.ret (Bo (decide (n = 0)), [rowP o m fun j => decO (f j)]))
  | [.c (.sl 0 0 n), .c (.v (.slice none 0 0))], [some ⟨121, o, .row 5 m f⟩] => .need (yes (f = fun j => encO (decO (f j)))) (.ret (Bo (decide (n = 0)), [rowP o m fun j => decO (f j)]))
  | [.c (.sl 0 0 n1), .c (.sl 1 0 n2)], [some ⟨121, o1, .row 5 m1 f1⟩, some ⟨121, o2, .row 5 m2 f2⟩] =>
    .need (yes (n1 ≤ m1 ∧ n2 ≤ m2 ∧ n1 < 2 ^ 60 ∧ (f1 = fun j => encO (decO (f1 j))) ∧ f2 = fun j => encO (decO (f2 j))))
      (.ret (Bo (yes (n1 = n2 ∧ ∀ t, t < n1 → decO (f1 t) = decO (f2 t))), [rowP o1 m1 fun j => decO (f1 j), rowP o2 m2 fun j => decO (f2 j)]))
  | _, _ => .fail
theorem yes_no {p : Prop} (h : ¬ p) : yes p = false := by
  cases e : yes p with
  | false => rfl
  | true => exact absurd (by simpa [yes] using e) h
theorem eqF_ok : SpecOk Try.prog 161 eqF := by
  refine knownS nilK Try.func161 fun args h r he => ?_
  unfold eqF at he
  split at he
  · cases he
    exact ⟨(fun k => if k = 4 then eqK else []), [], 60, _, tell_ok (LoopR.stop (by simp) (rT_sem eqG_ok noLoopsS (rT_go eqn_e ⟨rfl, trivial⟩))).sem, (Tr.go_eval eq_nn ⟨rfl, yes_of ⟨rfl, rfl⟩, trivial⟩).trans rfl⟩
  · rename_i n o m f
    obtain ⟨h1, he'⟩ := Tr.eval_ask.1 he
    cases he'
    have e2 : some ⟨121, o, .row 5 m f⟩ = rowP o m fun j => decO (f j) := by rw [rowP, ← h1]
    rw [e2]
    cases n with
    | zero => exact ⟨(fun k => if k = 4 then eqK else []), [], 60, _, tell_ok (LoopR.stop (by simp) (rT_sem eqG_ok noLoopsS (rT_go (eqn2_e (o1 := o) (m1 := m) (P1 := fun j => decO (f j))) ⟨rfl, trivial⟩))).sem, (Tr.go_eval eq_ns0 ⟨rfl, yes_of ⟨rfl, rfl⟩, trivial⟩).trans rfl⟩
    | succ n =>
      have hne : (((0 : Nat) : Int) != ((n + 1 : Nat) : Int)) = true := by rw [bne_iff_ne]; omega
      exact ⟨(fun k => if k = 4 then eqK else []), [], 60, _, noLoopsS, (Tr.go_eval eq_ns ⟨hne, trivial⟩).trans (by rw [decide_eq_false (by omega)]; rfl)⟩
  · rename_i n o m f
    obtain ⟨h1, he'⟩ := Tr.eval_ask.1 he
    cases he'
    have e2 : some ⟨121, o, .row 5 m f⟩ = rowP o m fun j => decO (f j) := by rw [rowP, ← h1]
    rw [e2]
    cases n with
    | zero => exact ⟨(fun k => if k = 4 then eqK else []), [], 60, _, tell_ok (LoopR.stop (by simp) (rT_sem eqG_ok noLoopsS (rT_go (eqn1_e (o1 := o) (m1 := m) (P1 := fun j => decO (f j))) ⟨rfl, trivial⟩))).sem, (Tr.go_eval eq_sn0 ⟨rfl, yes_of ⟨rfl, rfl⟩, trivial⟩).trans rfl⟩
    | succ n =>
      have hne : (((n + 1 : Nat) : Int) != ((0 : Nat) : Int)) = true := by rw [bne_iff_ne]; omega
      exact ⟨(fun k => if k = 4 then eqK else []), [], 60, _, noLoopsS, (Tr.go_eval eq_sn ⟨hne, trivial⟩).trans (by rw [decide_eq_false (by omega)]; rfl)⟩
  · rename_i n1 n2 o1 m1 f1 o2 m2 f2
    obtain ⟨⟨h1, h2, h3, h4, h5⟩, he'⟩ := Tr.eval_ask.1 he
    cases he'
    have e1 : some ⟨121, o1, .row 5 m1 f1⟩ = rowP o1 m1 fun j => decO (f1 j) := by rw [rowP, ← h4]
    have e2 : some ⟨121, o2, .row 5 m2 f2⟩ = rowP o2 m2 fun j => decO (f2 j) := by rw [rowP, ← h5]
    rw [e1, e2]
    by_cases hn : n1 = n2
    · subst hn
      have hb : (!(((n1 : Nat) : Int) != ((n1 : Nat) : Int))) = true := by simp
      rcases first_diff (fun t => decO (f1 t) = decO (f2 t)) n1 with hp | ⟨t, ht, hd, hp⟩
      · refine ⟨(fun k => if k = 4 then eqK else []), [], 60, _, tell_ok (eq_loop_t (o1 := o1) (o2 := o2) (m1 := m1) (m2 := m2) (P1 := fun j => decO (f1 j)) (P2 := fun j => decO (f2 j)) h1 h2 h3 hp), (Tr.go_eval eq_wt ⟨hb, yes_of ⟨rfl, rfl⟩, trivial⟩).trans ?_⟩
        rw [yes_of ⟨rfl, hp⟩]; rfl
      · refine ⟨(fun k => if k = 4 then eqK else []), [], 60, _, tell_ok (eq_loop_f (o1 := o1) (o2 := o2) (m1 := m1) (m2 := m2) (P1 := fun j => decO (f1 j)) (P2 := fun j => decO (f2 j)) h1 h2 h3 ht hd hp), (Tr.go_eval eq_wf ⟨hb, yes_of ⟨rfl, rfl⟩, trivial⟩).trans ?_⟩
        rw [yes_no fun h => hd (h.2 t ht)]; rfl
    · have hne : (((n1 : Nat) : Int) != ((n2 : Nat) : Int)) = true := by rw [bne_iff_ne]; omega
      refine ⟨(fun k => if k = 4 then eqK else []), [], 60, _, noLoopsS, (Tr.go_eval eq_sd ⟨hne, trivial⟩).trans ?_⟩
      rw [yes_no fun h => hn h.1]; rfl
  · cases he
end
section
open Go Go.RowKit
noncomputable def KSQ : Known := [(161, eqF)]
theorem KSQ_ok : KnownOk KSQ := consK eqF_ok (by kernel_rfl) nilK
noncomputable def sqG : Ctx2 := GT KSQ (fun _ => []) 0 []
theorem sq_nn {a b : Qd} : (lfun sqG nol 60 Try.f144 [qV a (.v (.slice none 0 0)), qV b (.v (.slice none 0 0))] []).eval = bif a.k == b.k then bif a.n == b.n then bif a.p == b.p && (a.t == b.t && true) then bif a.x == b.x then bif a.y == b.y then some (Bo true, []) else some (Bo false, []) else some (Bo false, []) else some (Bo false, []) else some (Bo false, []) else some (Bo false, []) := by kernel_rfl
theorem sq_ns {a b : Qd} {o : Bool} {m n : Nat} {P : Nat → Opp} : (lfun sqG nol 60 Try.f144 [qV a (.v (.slice none 0 0)), qV b (.sl 0 0 n)] [rowP o m P]).eval = bif a.k == b.k then bif a.n == b.n then bif a.p == b.p && (a.t == b.t && true) then bif a.x == b.x then bif a.y == b.y then bif yes ((fun j => encO (P j)) = fun j => encO (decO (encO (P j)))) then some (Bo (decide (n = 0)), [some ⟨121, o, .row 5 m fun j => [.int .i64 (decO (encO (P j))).k, .int .i64 (decO (encO (P j))).i, .int .i64 (decO (encO (P j))).a, .int .i64 (decO (encO (P j))).b, .string (decO (encO (P j))).s]⟩]) else none else some (Bo false, [some ⟨121, o, .row 5 m fun j => [.int .i64 (P j).k, .int .i64 (P j).i, .int .i64 (P j).a, .int .i64 (P j).b, .string (P j).s]⟩]) else some (Bo false, [some ⟨121, o, .row 5 m fun j => [.int .i64 (P j).k, .int .i64 (P j).i, .int .i64 (P j).a, .int .i64 (P j).b, .string (P j).s]⟩]) else some (Bo false, [some ⟨121, o, .row 5 m fun j => [.int .i64 (P j).k, .int .i64 (P j).i, .int .i64 (P j).a, .int .i64 (P j).b, .string (P j).s]⟩]) else some (Bo false, [some ⟨121, o, .row 5 m fun j => [.int .i64 (P j).k, .int .i64 (P j).i, .int .i64 (P j).a, .int .i64 (P j).b, .string (P j).s]⟩]) else some (Bo false, [some ⟨121, o, .row 5 m fun j => [.int .i64 (P j).k, .int .i64 (P j).i, .int .i64 (P j).a, .int .i64 (P j).b, .string (P j).s]⟩]) := by kernel_rfl
theorem sq_sn {a b : Qd} {o : Bool} {m n : Nat} {P : Nat → Opp} : (lfun sqG nol 60 Try.f144 [qV a (.sl 0 0 n), qV b (.v (.slice none 0 0))] [rowP o m P]).eval = bif a.k == b.k then bif a.n == b.n then bif a.p == b.p && (a.t == b.t && true) then bif a.x == b.x then bif a.y == b.y then bif yes ((fun j => encO (P j)) = fun j => encO (decO (encO (P j)))) then some (Bo (decide (n = 0)), [some ⟨121, o, .row 5 m fun j => [.int .i64 (decO (encO (P j))).k, .int .i64 (decO (encO (P j))).i, .int .i64 (decO (encO (P j))).a, .int .i64 (decO (encO (P j))).b, .string (decO (encO (P j))).s]⟩]) else none else some (Bo false, [some ⟨121, o, .row 5 m fun j => [.int .i64 (P j).k, .int .i64 (P j).i, .int .i64 (P j).a, .int .i64 (P j).b, .string (P j).s]⟩]) else some (Bo false, [some ⟨121, o, .row 5 m fun j => [.int .i64 (P j).k, .int .i64 (P j).i, .int .i64 (P j).a, .int .i64 (P j).b, .string (P j).s]⟩]) else some (Bo false, [some ⟨121, o, .row 5 m fun j => [.int .i64 (P j).k, .int .i64 (P j).i, .int .i64 (P j).a, .int .i64 (P j).b, .string (P j).s]⟩]) else some (Bo false, [some ⟨121, o, .row 5 m fun j => [.int .i64 (P j).k, .int .i64 (P j).i, .int .i64 (P j).a, .int .i64 (P j).b, .string (P j).s]⟩]) else some (Bo false, [some ⟨121, o, .row 5 m fun j => [.int .i64 (P j).k, .int .i64 (P j).i, .int .i64 (P j).a, .int .i64 (P j).b, .string (P j).s]⟩]) := by kernel_rfl
theorem sq_ss {a b : Qd} {o o2 : Bool} {m n m2 n2 : Nat} {P P2 : Nat → Opp} : (lfun sqG nol 60 Try.f144 [qV a (.sl 0 0 n), qV b (.sl 1 0 n2)] [rowP o m P, rowP o2 m2 P2]).eval = bif a.k == b.k then bif a.n == b.n then bif a.p == b.p && (a.t == b.t && true) then bif a.x == b.x then bif a.y == b.y then bif yes (n ≤ m ∧ n2 ≤ m2 ∧ n < 2 ^ 60 ∧ ((fun j => encO (P j)) = fun j => encO (decO (encO (P j)))) ∧ (fun j => encO (P2 j)) = fun j => encO (decO (encO (P2 j)))) then some (Bo (yes (n = n2 ∧ ∀ (t : Nat), t < n → decO (encO (P t)) = decO (encO (P2 t)))), [some ⟨121, o, .row 5 m fun j => [.int .i64 (decO (encO (P j))).k, .int .i64 (decO (encO (P j))).i, .int .i64 (decO (encO (P j))).a, .int .i64 (decO (encO (P j))).b, .string (decO (encO (P j))).s]⟩, some ⟨121, o2, .row 5 m2 fun j => [.int .i64 (decO (encO (P2 j))).k, .int .i64 (decO (encO (P2 j))).i, .int .i64 (decO (encO (P2 j))).a, .int .i64 (decO (encO (P2 j))).b, .string (decO (encO (P2 j))).s]⟩]) else none else some (Bo false, [some ⟨121, o, .row 5 m fun j => [.int .i64 (P j).k, .int .i64 (P j).i, .int .i64 (P j).a, .int .i64 (P j).b, .string (P j).s]⟩, some ⟨121, o2, .row 5 m2 fun j => [.int .i64 (P2 j).k, .int .i64 (P2 j).i, .int .i64 (P2 j).a, .int .i64 (P2 j).b, .string (P2 j).s]⟩]) else some (Bo false, [some ⟨121, o, .row 5 m fun j => [.int .i64 (P j).k, .int .i64 (P j).i, .int .i64 (P j).a, .int .i64 (P j).b, .string (P j).s]⟩, some ⟨121, o2, .row 5 m2 fun j => [.int .i64 (P2 j).k, .int .i64 (P2 j).i, .int .i64 (P2 j).a, .int .i64 (P2 j).b, .string (P2 j).s]⟩]) else some (Bo false, [some ⟨121, o, .row 5 m fun j => [.int .i64 (P j).k, .int .i64 (P j).i, .int .i64 (P j).a, .int .i64 (P j).b, .string (P j).s]⟩, some ⟨121, o2, .row 5 m2 fun j => [.int .i64 (P2 j).k, .int .i64 (P2 j).i, .int .i64 (P2 j).a, .int .i64 (P2 j).b, .string (P2 j).s]⟩]) else some (Bo false, [some ⟨121, o, .row 5 m fun j => [.int .i64 (P j).k, .int .i64 (P j).i, .int .i64 (P j).a, .int .i64 (P j).b, .string (P j).s]⟩, some ⟨121, o2, .row 5 m2 fun j => [.int .i64 (P2 j).k, .int .i64 (P2 j).i, .int .i64 (P2 j).a, .int .i64 (P2 j).b, .string (P2 j).s]⟩]) else some (Bo false, [some ⟨121, o, .row 5 m fun j => [.int .i64 (P j).k, .int .i64 (P j).i, .int .i64 (P j).a, .int .i64 (P j).b, .string (P j).s]⟩, some ⟨121, o2, .row 5 m2 fun j => [.int .i64 (P2 j).k, .int .i64 (P2 j).i, .int .i64 (P2 j).a, .int .i64 (P2 j).b, .string (P2 j).s]⟩]) := by kernel_rfl
end
section
open Go Go.RowKit
def sameF (a b : Qd) : Prop := a.k = b.k ∧ a.n = b.n ∧ a.p = b.p ∧ a.t = b.t ∧ a.x = b.x ∧ a.y = b.y
theorem six_t {α : Type} {a b : Qd} {X F : α} (h : sameF a b) : (bif a.k == b.k then (bif a.n == b.n then (bif a.p == b.p && (a.t == b.t && true) then (bif a.x == b.x then (bif a.y == b.y then X else F) else F) else F) else F) else F) = X := by
  obtain ⟨h1, h2, h3, h4, h5, h6⟩ := h
  rw [h1, h2, h3, h4, h5, h6]
  simp
theorem six_f {α : Type} {a b : Qd} {X F : α} (h : ¬ sameF a b) : (bif a.k == b.k then (bif a.n == b.n then (bif a.p == b.p && (a.t == b.t && true) then (bif a.x == b.x then (bif a.y == b.y then X else F) else F) else F) else F) else F) = F := by
  by_cases h1 : a.k = b.k
  · by_cases h2 : a.n = b.n
    · by_cases h3 : a.p = b.p
      · by_cases h4 : a.t = b.t
        · by_cases h5 : a.x = b.x
          · by_cases h6 : a.y = b.y
            · exact absurd ⟨h1, h2, h3, h4, h5, h6⟩ h
            · rw [nb h6]; simp
          · rw [nb h5]; simp
        · rw [nb h4]; simp
      · rw [nb h3]; simp
    · rw [nb h2]; simp
  · rw [nb h1]; rfl
noncomputable def sqF : Spec := fun args h => match args, h with
  | [.agg [.v (.int .i64 k1), .v (.int .i64 n1), .v (.int .i64 p1), .v (.int .i64 t1), .v (.int .i64 x1), .v (.int .i64 y1), .v (.slice none 0 0)], .agg [.v (.int .i64 k2), .v (.int .i64 n2), .v (.int .i64 p2), .v (.int .i64 t2), .v (.int .i64 x2), .v (.int .i64 y2), .v (.slice none 0 0)]], [] =>
    .ret (Bo (yes (sameF ⟨k1, n1, p1, t1, x1, y1, []⟩ ⟨k2, n2, p2, t2, x2, y2, []⟩)), [])
  | [.agg [.v (.int .i64 k1), .v (.int .i64 n1), .v (.int .i64 p1), .v (.int .i64 t1), .v (.int .i64 x1), .v (.int .i64 y1), .v (.slice none 0 0)], .agg [.v (.int .i64 k2), .v (.int .i64 n2), .v (.int .i64 p2), .v (.int .i64 t2), .v (.int .i64 x2), .v (.int .i64 y2), .sl 0 0 c]], [some ⟨121, o, .row 5 m f⟩] =>
    .need (yes (f = fun j => encO (decO (f j)))) (.ret (Bo (yes (sameF ⟨k1, n1, p1, t1, x1, y1, []⟩ ⟨k2, n2, p2, t2, x2, y2, []⟩ ∧ c = 0)), [rowP o m fun j => decO (f j)]))
  | [.agg [.v (.int .i64 k1), .v (.int .i64 n1), .v (.int .i64 p1), .v (.int .i64 t1), .v (.int .i64 x1), .v (.int .i64 y1), .sl 0 0 c], .agg [.v (.int .i64 k2), .v (.int .i64 n2), .v (.int .i64 p2), .v (.int .i64 t2), .v (.int .i64 x2), .v (.int .i64 y2), .v (.slice none 0 0)]], [some ⟨121, o, .row 5 m f⟩] =>
    .need (yes (f = fun j => encO (decO (f j)))) (.ret (Bo (yes (sameF ⟨k1, n1, p1, t1, x1, y1, []⟩ ⟨k2, n2, p2, t2, x2, y2, []⟩ ∧ c = 0)), [rowP o m fun j => decO (f j)]))
  | [.agg [.v (.int .i64 k1), .v (.int .i64 n1), .v (.int .i64 p1), .v (.int .i64 t1), .v (.int .i64 x1), .v (.int .i64 y1), .sl 0 0 c1], .agg [.v (.int .i64 k2), .v (.int .i64 n2), .v (.int .i64 p2), .v (.int .i64 t2), .v (.int .i64 x2), .v (.int .i64 y2), .sl 1 0 c2]], [some ⟨121, o1, .row 5 m1 f1⟩, some ⟨121, o2, .row 5 m2 f2⟩] =>
    .need (yes (c1 ≤ m1 ∧ c2 ≤ m2 ∧ c1 < 2 ^ 60 ∧ (f1 = fun j => encO (decO (f1 j))) ∧ f2 = fun j => encO (decO (f2 j))))
      (.ret (Bo (yes (sameF ⟨k1, n1, p1, t1, x1, y1, []⟩ ⟨k2, n2, p2, t2, x2, y2, []⟩ ∧ c1 = c2 ∧ ∀ t, t < c1 → decO (f1 t) = decO (f2 t))), [rowP o1 m1 fun j => decO (f1 j), rowP o2 m2 fun j => decO (f2 j)]))
  | _, _ => .fail
theorem yes_eq {p q : Prop} (h : p ↔ q) : yes p = yes q := by rw [propext h]
theorem sqF_ok : SpecOk Try.prog 144 sqF := by
  refine knownS KSQ_ok Try.func144 fun args h r he => ?_
  unfold sqF at he
  split at he
  · rename_i k1 n1 p1 t1 x1 y1 k2 n2 p2 t2 x2 y2
    cases he
    refine ⟨(fun _ => []), [], 60, nol, noLoopsS, (sq_nn (a := ⟨k1, n1, p1, t1, x1, y1, []⟩) (b := ⟨k2, n2, p2, t2, x2, y2, []⟩)).trans ?_⟩
    by_cases hs : sameF ⟨k1, n1, p1, t1, x1, y1, []⟩ ⟨k2, n2, p2, t2, x2, y2, []⟩
    · rw [yes_of hs]; exact (six_t hs).trans rfl
    · rw [yes_no hs]; exact (six_f hs).trans rfl
  · rename_i k1 n1 p1 t1 x1 y1 k2 n2 p2 t2 x2 y2 c o m f
    obtain ⟨h1, he'⟩ := Tr.eval_ask.1 he
    cases he'
    have e2 : some ⟨121, o, .row 5 m f⟩ = rowP o m fun j => decO (f j) := by rw [rowP, ← h1]
    rw [e2]
    refine ⟨(fun _ => []), [], 60, nol, noLoopsS, (sq_ns (a := ⟨k1, n1, p1, t1, x1, y1, []⟩) (b := ⟨k2, n2, p2, t2, x2, y2, []⟩)).trans ?_⟩
    by_cases hs : sameF ⟨k1, n1, p1, t1, x1, y1, []⟩ ⟨k2, n2, p2, t2, x2, y2, []⟩
    · refine (six_t hs).trans ((bif_yes ?_).trans ?_)
      · rfl
      · by_cases hc : c = 0
        · rw [yes_of ⟨hs, hc⟩, decide_eq_true hc]; rfl
        · rw [yes_no fun h => hc h.2, decide_eq_false hc]; rfl
    · refine (six_f hs).trans ?_
      rw [yes_no fun h => hs h.1]; rfl
  · rename_i k1 n1 p1 t1 x1 y1 c k2 n2 p2 t2 x2 y2 o m f
    obtain ⟨h1, he'⟩ := Tr.eval_ask.1 he
    cases he'
    have e2 : some ⟨121, o, .row 5 m f⟩ = rowP o m fun j => decO (f j) := by rw [rowP, ← h1]
    rw [e2]
    refine ⟨(fun _ => []), [], 60, nol, noLoopsS, (sq_sn (a := ⟨k1, n1, p1, t1, x1, y1, []⟩) (b := ⟨k2, n2, p2, t2, x2, y2, []⟩)).trans ?_⟩
    by_cases hs : sameF ⟨k1, n1, p1, t1, x1, y1, []⟩ ⟨k2, n2, p2, t2, x2, y2, []⟩
    · refine (six_t hs).trans ((bif_yes ?_).trans ?_)
      · rfl
      · by_cases hc : c = 0
        · rw [yes_of ⟨hs, hc⟩, decide_eq_true hc]; rfl
        · rw [yes_no fun h => hc h.2, decide_eq_false hc]; rfl
    · refine (six_f hs).trans ?_
      rw [yes_no fun h => hs h.1]; rfl
  · rename_i k1 n1 p1 t1 x1 y1 c1 k2 n2 p2 t2 x2 y2 c2 o1 m1 f1 o2 m2 f2
    obtain ⟨⟨h1, h2, h3, h4, h5⟩, he'⟩ := Tr.eval_ask.1 he
    cases he'
    have e1 : some ⟨121, o1, .row 5 m1 f1⟩ = rowP o1 m1 fun j => decO (f1 j) := by rw [rowP, ← h4]
    have e2 : some ⟨121, o2, .row 5 m2 f2⟩ = rowP o2 m2 fun j => decO (f2 j) := by rw [rowP, ← h5]
    rw [e1, e2]
    refine ⟨(fun _ => []), [], 60, nol, noLoopsS, (sq_ss (a := ⟨k1, n1, p1, t1, x1, y1, []⟩) (b := ⟨k2, n2, p2, t2, x2, y2, []⟩)).trans ?_⟩
    by_cases hs : sameF ⟨k1, n1, p1, t1, x1, y1, []⟩ ⟨k2, n2, p2, t2, x2, y2, []⟩
    · refine (six_t hs).trans ((bif_yes ?_).trans ?_)
      · exact ⟨h1, h2, h3, rfl, rfl⟩
      · rw [yes_eq (p := sameF ⟨k1, n1, p1, t1, x1, y1, []⟩ ⟨k2, n2, p2, t2, x2, y2, []⟩ ∧ c1 = c2 ∧ ∀ t, t < c1 → decO (f1 t) = decO (f2 t)) (q := c1 = c2 ∧ ∀ t, t < c1 → decO (f1 t) = decO (f2 t)) ⟨fun h => h.2, fun h => ⟨hs, h⟩⟩]
        rfl
    · refine (six_f hs).trans ?_
      rw [yes_no fun h => hs h.1]; rfl
  · cases he
end
section
open Go Go.RowKit
def wqN (bad : Bool) (k : Nat) (B : Nat → Int) : St := ⟨slots 49 [(0, .c (.ptr 0 0 0)), (22, nilS), (23, I64 ((0 : Nat) : Int)), (24, I64 0)], [some ⟨168, true, .one [.sl 2 0 k, .v (.bool bad)]⟩, none, rowU true k B]⟩
theorem wqn_e {bad : Bool} {k : Nat} {B : Nat → Int} : (rT wqG nol 2 55 (bodyOf Try.f141 0) wqK wqK (wqN bad k B)).go [false] =
  some
    ([true], Ex.exit 0,
      {
        sl :=
          slots 49
            [(0, AV.c (AC.ptr 0 0 0)),
              (22, AV.c (AC.v (Value.slice none 0 0))), (23, I64 ((0 : Nat) : Int)),
              (24, I64 (0 : Int))],
        h :=
          [some { t := 168, own := true, c := Cont.one [AC.sl 2 0 k, AC.v (Value.bool bad)] },
            none,
            some { t := 5, own := true, c := Cont.row 1 k fun j => [Value.int IntKind.u8 (B j)] }] }) := by kernel_rfl
theorem wqn_t {k : Nat} {B : Nat → Int} : (lfun wqG (tell (bodyOf Try.f141 0) (wqN true (k + 1) (appB B k (IntKind.u8.wrap ((0 : Nat) : Int)))) (.exit 0, wqN true (k + 1) (appB B k (IntKind.u8.wrap ((0 : Nat) : Int))))) 60 Try.f141 [.c (.ptr 0 0 0), nilS] [wrB true k, rowU true k B]).go [] =
  some
    ([true, true, true, true,
        yes (k + 1 ≤ maxCells ∧ k = k ∧ (fun j => ub (B j)) = fun j => ub (ud (ub (B j)))), yes (wasS (bodyOf Try.f141 0) (wqN true (k + 1) (appB B k (IntKind.u8.wrap ((0 : Nat) : Int)))))],
      AV.tup [],
      [some
          { t := 168, own := true,
            c := Cont.one [AC.sl 2 0 (k + 1), AC.v (Value.bool true)] },
        none,
        some
          { t := 5, own := true,
            c :=
              Cont.row 1 (k + 1) fun j =>
                [Value.int IntKind.u8 (appB B k (IntKind.u8.wrap ((0 : Nat) : Int)) j)] }]) := by kernel_rfl
theorem wqn_f {k : Nat} {B : Nat → Int} : (lfun wqG (tell (bodyOf Try.f141 0) (wqN false (k + 1) (appB B k (IntKind.u8.wrap ((0 : Nat) : Int)))) (.exit 0, wqN false (k + 1) (appB B k (IntKind.u8.wrap ((0 : Nat) : Int))))) 60 Try.f141 [.c (.ptr 0 0 0), nilS] [wrB false k, rowU true k B]).go [false, false, false, false] =
  some
    ([true, true, true, true,
        yes (k + 1 ≤ maxCells ∧ k = k ∧ (fun j => ub (B j)) = fun j => ub (ud (ub (B j)))), yes (wasS (bodyOf Try.f141 0) (wqN false (k + 1) (appB B k (IntKind.u8.wrap ((0 : Nat) : Int)))))],
      AV.tup [],
      [some
          { t := 168, own := true,
            c := Cont.one [AC.sl 2 0 (k + 1), AC.v (Value.bool false)] },
        none,
        some
          { t := 5, own := true,
            c :=
              Cont.row 1 (k + 1) fun j =>
                [Value.int IntKind.u8 (appB B k (IntKind.u8.wrap ((0 : Nat) : Int)) j)] }]) := by kernel_rfl
noncomputable def wqNF : Spec := fun args h => match args, h with
  | [.c (.ptr 0 0 0), .c (.v (.slice none 0 0))], [some ⟨168, true, .one [.sl 1 0 k, .v (.bool bad)]⟩, some ⟨5, true, .row 1 k' f⟩] =>
    .need (yes (k + 1 ≤ maxCells ∧ k' = k ∧ (f = fun j => ub (ud (f j))))) (.ret (.tup [], [some ⟨168, true, .one [.sl 2 0 (k + 1), .v (.bool bad)]⟩, none, rowU true (k + 1) (appB (fun j => ud (f j)) k (IntKind.u8.wrap ((0 : Nat) : Int)))]))
  | _, _ => .fail
theorem wqNF_ok : SpecOk Try.prog 141 wqNF := by
  refine knownS KWO_ok Try.func141 fun args h r he => ?_
  unfold wqNF at he
  split at he
  · rename_i k bad k' f
    obtain ⟨⟨h1, h2, h3⟩, he'⟩ := Tr.eval_ask.1 he
    subst h2
    cases he'
    have e1 : some ⟨5, true, .row 1 k' f⟩ = rowU true k' fun j => ud (f j) := by rw [rowU, ← h3]
    rw [e1]
    cases bad
    · exact ⟨(fun k => if k = 3 then wqK else []), [], 60, _, tell_ok (LoopR.stop (by simp) (rT_sem wqG_ok noLoopsS (rT_go (wqn_e (bad := false) (k := k' + 1) (B := appB (fun j => ud (f j)) k' (IntKind.u8.wrap ((0 : Nat) : Int)))) ⟨rfl, trivial⟩))).sem, (Tr.go_eval wqn_f ⟨rfl, rfl, rfl, rfl, yes_of ⟨h1, rfl, rfl⟩, yes_of ⟨rfl, rfl⟩, trivial⟩).trans rfl⟩
    · exact ⟨(fun k => if k = 3 then wqK else []), [], 60, _, tell_ok (LoopR.stop (by simp) (rT_sem wqG_ok noLoopsS (rT_go (wqn_e (bad := true) (k := k' + 1) (B := appB (fun j => ud (f j)) k' (IntKind.u8.wrap ((0 : Nat) : Int)))) ⟨rfl, trivial⟩))).sem, (Tr.go_eval wqn_t ⟨rfl, rfl, rfl, rfl, yes_of ⟨h1, rfl, rfl⟩, yes_of ⟨rfl, rfl⟩, trivial⟩).trans rfl⟩
  · cases he
noncomputable def wqF2 : Spec := fun args h => match args with
  | [_, .c (.v (.slice none 0 0))] => wqNF args h
  | _ => wqF args h
theorem wqF2_ok : SpecOk Try.prog 141 wqF2 := by
  refine fun B args h r H' he => ?_
  unfold wqF2 at he
  split at he
  · exact wqNF_ok B _ _ r H' he
  · exact wqF_ok B _ _ r H' he
end
end Go.Proofs.Ytcpahifgdppkbaa.QAI
