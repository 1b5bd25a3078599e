/- WireBack: it is true. -/
import Derived.Test.YtcpahifgdppkbaaQWireBack13
set_option linter.unusedVariables false
set_option linter.unusedSimpArgs false
set_option maxRecDepth 100000
namespace Go.Proofs.Ytcpahifgdppkbaa.QAI
section
open Go Go.RowKit
set_option maxHeartbeats 4000000
theorem wbU_eq (L : List Int) (b : Int) : wbU L b = fun j => ub (gL (L ++ [b]) j) := by
  funext j
  unfold wbU
  rw [updL_get]
  show _ = ub ((L ++ [b]).getD j 0)
  rw [getD_app]
  unfold cat
  simp only [Nat.not_lt_zero, if_false, Nat.zero_add, Nat.sub_zero, List.length_cons, List.length_nil]
  by_cases h1 : j < L.length
  · rw [if_pos h1, if_pos h1, decide_eq_false (by omega)]; rfl
  · rw [if_neg h1]
    by_cases h2 : j = L.length
    · subst h2
      rw [if_pos (by omega), decide_eq_true rfl, Nat.sub_self]; rfl
    · rw [if_neg (by omega), decide_eq_false h2, if_neg h1, cond_false, List.getD_eq_getElem?_getD, List.getElem?_eq_none (by omega)]; rfl
theorem reqB_small {q : Qd} (h : q.k ≠ 1) : (reqB q).length ≤ 17 := by
  unfold reqB
  rw [nb h]
  cases q.k == 2 || q.k == 6 <;> cases q.k == 3 <;> cases q.k == 4 <;> simp [four]
theorem wbR_ok {q : Qd} (h : reqOk q) : wbR q = (q, [], false) := by
  have e := rq_back h.1
  rw [h.2] at e
  exact e
theorem far_no : ¬ anOk ⟨5, 0, 0, 2147483648, 0, 0, 0, 0, 0, 0⟩ := by
  rintro ⟨h, _⟩
  have e : anW ⟨5, 0, 0, 2147483648, 0, 0, 0, 0, 0, 0⟩ = false := by kernel_rfl
  rw [e] at h
  cases h
theorem wqLen_hiB (P : Nat → Opp) : ∀ m, (∀ q, q < m → opOk (P q) = true) → wqLen P 2 m ≤ 2 + 2015 * m
  | 0, _ => Nat.le_refl _
  | m + 1, h => by
    have h1 := wqLen_hiB P m fun q hq => h q (by omega)
    have h2 := h m (by omega)
    unfold opOk at h2
    rw [Bool.and_eq_true, decide_eq_true_eq] at h2
    have h3 := h2.2
    show wqLen P 2 m + 1 + 1 + 1 + 1 + 1 + 1 + 1 + 1 + 1 + 1 + 1 + 1 + 1 + 2 + (P m).s.size ≤ _
    omega
theorem wbS_ok {r : Rd} (h : anOk r) (hb : bareR r = r) : wbS r = (r, [], false) := by
  have e := rr_back h.1
  rw [hb] at e
  exact e
/-- What a told query shows. -/
theorem wb_facts {q : Qd} {b : Int} (hQ : reqOk q) (hl : (reqB q).length ≤ 100000) (hb : 0 ≤ b ∧ b < 256) :
    rng (gL (reqB q)) ∧ (wbU (reqB q) b = fun j => ub (ud (wbU (reqB q) b j))) ∧ (rng fun j => ud (wbU (reqB q) b j)) ∧ (¬ (rqR (fun j => ud (wbU (reqB q) b j)) 0 (0 + (reqB q).length + 1)).2 = ([], false)) ∧ (¬ (rqR (gL (reqB q)) 0 (w64 (((reqB q).length : Nat) - 1 : Int)).toNat).2 = ([], false)) ∧ (0 + (w64 (((reqB q).length : Nat) - 1 : Int)).toNat ≤ (reqB q).length) ∧ decInt 0 (w64 (((reqB q).length : Nat) - 1 : Int)) (reqB q).length = true := by
  have hp := reqB_pos q
  have hw : w64 (((reqB q).length : Nat) - 1 : Int) = (((reqB q).length - 1 : Nat) : Int) := by rw [w64_id (by omega) (by omega)]; omega
  have hU := wbU_eq (reqB q) b
  refine ⟨rng_gL (byteL_reqB q), ?_, ?_, ?_, ?_, ?_, ?_⟩
  · rw [hU]; rfl
  · rw [hU]; exact rng_gL (byteL_app (byteL_reqB q) (byteL_cons hb byteL_nil))
  · rw [hU, Nat.zero_add]
    have e := rq_more hQ.1 b
    intro h
    have h2 : (rqR (gL (reqB q ++ [b])) 0 ((reqB q).length + 1)).2 = ([], false) := h
    rw [e] at h2
    cases h2
  · rw [hw, Int.toNat_natCast]
    intro h
    have e := rq_less hQ.1
    rw [h] at e
    cases e
  · rw [hw, Int.toNat_natCast]; omega
  · rw [hw]; unfold decInt; simp only [Bool.and_eq_true, decide_eq_true_eq]; omega
theorem wireBack_true (n : Int) (K : Nat) (f : Nat → Int) (a : Rd) (b : Int) (hb : 0 ≤ b ∧ b < 256) : ∃ keep tm d ℓ, LoopsSem (GT KWB keep 0 tm) 1 ℓ ∧ (lfun (GT KWB keep 0 tm) ℓ d Try.f39 [I64 n, .c (.sl 0 0 K), rV a, .c (.v (.int .u8 b))] [rowJ false K f]).eval = some (Bo true, [rowJ false K f]) := by
  refine ⟨(fun _ => []), [], 60, nol, noLoopsS, ?_⟩
  have hok := opsL_ok (fun j => f (0 + j)) (osN K)
  have hm : osN K ≤ 30 := Nat.min_le_right _ _
  have hW0 := wqLen_hiB _ _ hok
  have hW : wqLen (opsL (fun j => f (0 + j)) (osN K)) 2 (osN K) ≤ maxCells := by unfold maxCells; omega
  have hb6 := tm (and64 n 255) 6 (m255 n).1 (by decide)
  have hA0 := rbQ_ok n a
  have hMx : 200000 ≤ maxCells := by unfold maxCells; omega
  have hq0 : qop f K = opsP (opsL (fun j => f (0 + j)) (osN K)) (osN K) := rfl
  by_cases hk1 : lqK n = 1
  · have kq : (lqK n == (1 : Int)) = true := by rw [hk1]; rfl
    have hQ : reqOk (lqQ n (qop f K)) := by
      refine lq_ok (fun _ => ?_) fun h => absurd hk1 h
      rw [hq0, opsP_len]
      refine ⟨by omega, ?_⟩
      rw [List.all_eq_true]
      intro x hx
      obtain ⟨q, hq, rfl⟩ := List.mem_map.1 hx
      exact hok q (List.mem_range.1 hq)
    have hlen := (wq_ops (opsL (fun j => f (0 + j)) (osN K)) (osN K) (lqQ n (qop f K)) hk1 rfl).1
    have hl : (reqB (lqQ n (qop f K))).length ≤ 100000 := by omega
    have hp := reqB_pos (lqQ n (qop f K))
    obtain ⟨hrg, hU1, hU2, hMore, hLess, h64, hD⟩ := wb_facts hQ hl hb
    have hR := wbR_ok hQ
    have hR2 : (wbR (lqQ n (qop f K))).2 = ([], false) := by rw [hR]
    have hL0 : (!((((reqB (lqQ n (qop f K))).length : Nat) : Int) == (0 : Int))) = true := not_eq (nb (by omega))
    have hol : (wbR (lqQ n (qop f K))).1.o.length = osN K := by rw [hR]; exact opsP_len _ _
    by_cases h0 : osN K = 0
    · have hE : (wbR (lqQ n (qop f K))).1.o.isEmpty = true := by rw [List.isEmpty_iff_length_eq_zero, hol]; exact h0
      have hS : (!!yes (sameF ⟨(wbR (lqQ n (qop f K))).1.k, (wbR (lqQ n (qop f K))).1.n, (wbR (lqQ n (qop f K))).1.p, (wbR (lqQ n (qop f K))).1.t, (wbR (lqQ n (qop f K))).1.x, (wbR (lqQ n (qop f K))).1.y, []⟩ (lqQ n []) ∧ osN K = 0)) = true := by rw [hR]; exact notnot (yes_of ⟨⟨rfl, rfl, rfl, rfl, rfl, rfl⟩, h0⟩)
      rcases rbK_in n with hk | hk | hk | hk | hk | hk
      · have hr0 : rbQ n a = rb1 n a := by unfold rbQ rb1; rw [hk]; rfl
        rw [hr0] at hA0
        have hA := hA0
        have hrA : rng (gL (ansB (rb1 n a))) := rng_gL (byteL_ansB _)
        have hSr := wbS_ok hA.1 hA.2
        have hS2 : (wbS (rb1 n a)).2 = ([], false) := by rw [hSr]
        have hEq : eqR (wbS (rb1 n a)).1 (rb1 n a) = true := by rw [hSr]; exact (eqR_iff _ _).2 rfl
        have m2 : (!(rbK n == (2 : Int))) = true := by rw [hk]; rfl
        have m3 : (!(rbK n == (3 : Int))) = true := by rw [hk]; rfl
        have m4 : (!(rbK n == (4 : Int))) = true := by rw [hk]; rfl
        have m5 : (!(rbK n == (5 : Int))) = true := by rw [hk]; rfl
        have m6 : (!(rbK n == (6 : Int))) = true := by rw [hk]; rfl
        exact (Tr.go_eval wb_e1 ⟨yes_of ⟨rfl, rfl⟩, kq, yes_of ⟨rfl, fun _ => ⟨rfl, hW⟩⟩, yes_of hQ, yes_of ⟨by omega, rfl, hrg⟩, yes_of hR2, hE, rfl, rfl, rfl, rfl, rfl, rfl, yes_of rfl, rfl, rfl, hS, rfl, rfl, rfl, hL0, rfl, decide_eq_true (by omega), decide_eq_true (by omega), decide_eq_true (by omega), rfl, decide_eq_true (by omega), yes_of ⟨by omega, hU1, hU2⟩, not_eq (yes_no hMore), hD, yes_of ⟨h64, rfl, hrg⟩, not_eq (yes_no hLess), rfl, rfl, rfl, rfl, rfl, decide_eq_true (by omega), decide_eq_true (by omega), decide_eq_true (by omega), m2, m3, m4, m5, m6, yes_of hA.1, yes_of ⟨by omega, rfl, hrA⟩, yes_of hS2, not_eq (yes_no far_no), rfl, rfl, rfl, rfl, rfl, rfl, rfl, hEq, rfl, rfl, rfl, rfl, rfl, rfl, rfl, rfl, trivial⟩).trans rfl
      · have hr0 : rbQ n a = rb2 n a := by unfold rbQ rb2; rw [hk]; rfl
        rw [hr0] at hA0
        have hA := hA0
        have hrA : rng (gL (ansB (rb2 n a))) := rng_gL (byteL_ansB _)
        have hSr := wbS_ok hA.1 hA.2
        have hS2 : (wbS (rb2 n a)).2 = ([], false) := by rw [hSr]
        have hEq : eqR (wbS (rb2 n a)).1 (rb2 n a) = true := by rw [hSr]; exact (eqR_iff _ _).2 rfl
        have mm : (rbK n == (2 : Int)) = true := by rw [hk]; rfl
        have m3 : (!(rbK n == (3 : Int))) = true := by rw [hk]; rfl
        have m4 : (!(rbK n == (4 : Int))) = true := by rw [hk]; rfl
        have m5 : (!(rbK n == (5 : Int))) = true := by rw [hk]; rfl
        have m6 : (!(rbK n == (6 : Int))) = true := by rw [hk]; rfl
        exact (Tr.go_eval wb_e2 ⟨yes_of ⟨rfl, rfl⟩, kq, yes_of ⟨rfl, fun _ => ⟨rfl, hW⟩⟩, yes_of hQ, yes_of ⟨by omega, rfl, hrg⟩, yes_of hR2, hE, rfl, rfl, rfl, rfl, rfl, rfl, yes_of rfl, rfl, rfl, hS, rfl, rfl, rfl, hL0, rfl, decide_eq_true (by omega), decide_eq_true (by omega), decide_eq_true (by omega), rfl, decide_eq_true (by omega), yes_of ⟨by omega, hU1, hU2⟩, not_eq (yes_no hMore), hD, yes_of ⟨h64, rfl, hrg⟩, not_eq (yes_no hLess), rfl, rfl, rfl, rfl, rfl, decide_eq_true (by omega), decide_eq_true (by omega), decide_eq_true (by omega), mm, yes_of hA.1, yes_of ⟨by omega, rfl, hrA⟩, yes_of hS2, not_eq (yes_no far_no), rfl, rfl, rfl, rfl, rfl, rfl, rfl, hEq, rfl, rfl, rfl, rfl, rfl, rfl, rfl, rfl, trivial⟩).trans rfl
      · have hr0 : rbQ n a = rb3 n a := by unfold rbQ rb3; rw [hk]; rfl
        rw [hr0] at hA0
        have hA := hA0
        have hrA : rng (gL (ansB (rb3 n a))) := rng_gL (byteL_ansB _)
        have hSr := wbS_ok hA.1 hA.2
        have hS2 : (wbS (rb3 n a)).2 = ([], false) := by rw [hSr]
        have hEq : eqR (wbS (rb3 n a)).1 (rb3 n a) = true := by rw [hSr]; exact (eqR_iff _ _).2 rfl
        have m2 : (!(rbK n == (2 : Int))) = true := by rw [hk]; rfl
        have mm : (rbK n == (3 : Int)) = true := by rw [hk]; rfl
        have m4 : (!(rbK n == (4 : Int))) = true := by rw [hk]; rfl
        have m5 : (!(rbK n == (5 : Int))) = true := by rw [hk]; rfl
        have m6 : (!(rbK n == (6 : Int))) = true := by rw [hk]; rfl
        exact (Tr.go_eval wb_e3 ⟨yes_of ⟨rfl, rfl⟩, kq, yes_of ⟨rfl, fun _ => ⟨rfl, hW⟩⟩, yes_of hQ, yes_of ⟨by omega, rfl, hrg⟩, yes_of hR2, hE, rfl, rfl, rfl, rfl, rfl, rfl, yes_of rfl, rfl, rfl, hS, rfl, rfl, rfl, hL0, rfl, decide_eq_true (by omega), decide_eq_true (by omega), decide_eq_true (by omega), rfl, decide_eq_true (by omega), yes_of ⟨by omega, hU1, hU2⟩, not_eq (yes_no hMore), hD, yes_of ⟨h64, rfl, hrg⟩, not_eq (yes_no hLess), rfl, rfl, rfl, rfl, rfl, decide_eq_true (by omega), decide_eq_true (by omega), decide_eq_true (by omega), m2, mm, yes_of hA.1, yes_of ⟨by omega, rfl, hrA⟩, yes_of hS2, not_eq (yes_no far_no), rfl, rfl, rfl, rfl, rfl, rfl, rfl, hEq, rfl, rfl, rfl, rfl, rfl, rfl, rfl, rfl, trivial⟩).trans rfl
      · have hr0 : rbQ n a = rb4 n a := by unfold rbQ rb4; rw [hk]; rfl
        rw [hr0] at hA0
        have hA := hA0
        have hrA : rng (gL (ansB (rb4 n a))) := rng_gL (byteL_ansB _)
        have hSr := wbS_ok hA.1 hA.2
        have hS2 : (wbS (rb4 n a)).2 = ([], false) := by rw [hSr]
        have hEq : eqR (wbS (rb4 n a)).1 (rb4 n a) = true := by rw [hSr]; exact (eqR_iff _ _).2 rfl
        have m2 : (!(rbK n == (2 : Int))) = true := by rw [hk]; rfl
        have m3 : (!(rbK n == (3 : Int))) = true := by rw [hk]; rfl
        have mm : (rbK n == (4 : Int)) = true := by rw [hk]; rfl
        have m5 : (!(rbK n == (5 : Int))) = true := by rw [hk]; rfl
        have m6 : (!(rbK n == (6 : Int))) = true := by rw [hk]; rfl
        exact (Tr.go_eval wb_e4 ⟨yes_of ⟨rfl, rfl⟩, kq, yes_of ⟨rfl, fun _ => ⟨rfl, hW⟩⟩, yes_of hQ, yes_of ⟨by omega, rfl, hrg⟩, yes_of hR2, hE, rfl, rfl, rfl, rfl, rfl, rfl, yes_of rfl, rfl, rfl, hS, rfl, rfl, rfl, hL0, rfl, decide_eq_true (by omega), decide_eq_true (by omega), decide_eq_true (by omega), rfl, decide_eq_true (by omega), yes_of ⟨by omega, hU1, hU2⟩, not_eq (yes_no hMore), hD, yes_of ⟨h64, rfl, hrg⟩, not_eq (yes_no hLess), rfl, rfl, rfl, rfl, rfl, decide_eq_true (by omega), decide_eq_true (by omega), decide_eq_true (by omega), m2, m3, mm, yes_of hA.1, yes_of ⟨by omega, rfl, hrA⟩, yes_of hS2, not_eq (yes_no far_no), rfl, rfl, rfl, rfl, rfl, rfl, rfl, hEq, rfl, rfl, rfl, rfl, rfl, rfl, rfl, rfl, trivial⟩).trans rfl
      · have hr0 : rbQ n a = rb5 n a := by unfold rbQ rb5; rw [hk]; rfl
        rw [hr0] at hA0
        have hA := hA0
        have hrA : rng (gL (ansB (rb5 n a))) := rng_gL (byteL_ansB _)
        have hSr := wbS_ok hA.1 hA.2
        have hS2 : (wbS (rb5 n a)).2 = ([], false) := by rw [hSr]
        have hEq : eqR (wbS (rb5 n a)).1 (rb5 n a) = true := by rw [hSr]; exact (eqR_iff _ _).2 rfl
        have m2 : (!(rbK n == (2 : Int))) = true := by rw [hk]; rfl
        have m3 : (!(rbK n == (3 : Int))) = true := by rw [hk]; rfl
        have m4 : (!(rbK n == (4 : Int))) = true := by rw [hk]; rfl
        have mm : (rbK n == (5 : Int)) = true := by rw [hk]; rfl
        have m6 : (!(rbK n == (6 : Int))) = true := by rw [hk]; rfl
        exact (Tr.go_eval wb_e5 ⟨yes_of ⟨rfl, rfl⟩, kq, yes_of ⟨rfl, fun _ => ⟨rfl, hW⟩⟩, yes_of hQ, yes_of ⟨by omega, rfl, hrg⟩, yes_of hR2, hE, rfl, rfl, rfl, rfl, rfl, rfl, yes_of rfl, rfl, rfl, hS, rfl, rfl, rfl, hL0, rfl, decide_eq_true (by omega), decide_eq_true (by omega), decide_eq_true (by omega), rfl, decide_eq_true (by omega), yes_of ⟨by omega, hU1, hU2⟩, not_eq (yes_no hMore), hD, yes_of ⟨h64, rfl, hrg⟩, not_eq (yes_no hLess), rfl, rfl, rfl, rfl, rfl, decide_eq_true (by omega), decide_eq_true (by omega), decide_eq_true (by omega), m2, m3, m4, mm, rfl, yes_of hA.1, yes_of ⟨by omega, rfl, hrA⟩, yes_of hS2, not_eq (yes_no far_no), rfl, rfl, rfl, rfl, rfl, rfl, rfl, hEq, rfl, rfl, rfl, rfl, rfl, rfl, rfl, rfl, trivial⟩).trans rfl
      · have hr0 : rbQ n a = rb5 n a := by unfold rbQ rb5; rw [hk]; rfl
        rw [hr0] at hA0
        have hA := hA0
        have hrA : rng (gL (ansB (rb5 n a))) := rng_gL (byteL_ansB _)
        have hSr := wbS_ok hA.1 hA.2
        have hS2 : (wbS (rb5 n a)).2 = ([], false) := by rw [hSr]
        have hEq : eqR (wbS (rb5 n a)).1 (rb5 n a) = true := by rw [hSr]; exact (eqR_iff _ _).2 rfl
        have m2 : (!(rbK n == (2 : Int))) = true := by rw [hk]; rfl
        have m3 : (!(rbK n == (3 : Int))) = true := by rw [hk]; rfl
        have m4 : (!(rbK n == (4 : Int))) = true := by rw [hk]; rfl
        have m5 : (!(rbK n == (5 : Int))) = true := by rw [hk]; rfl
        have mm : (rbK n == (6 : Int)) = true := by rw [hk]; rfl
        exact (Tr.go_eval wb_e6 ⟨yes_of ⟨rfl, rfl⟩, kq, yes_of ⟨rfl, fun _ => ⟨rfl, hW⟩⟩, yes_of hQ, yes_of ⟨by omega, rfl, hrg⟩, yes_of hR2, hE, rfl, rfl, rfl, rfl, rfl, rfl, yes_of rfl, rfl, rfl, hS, rfl, rfl, rfl, hL0, rfl, decide_eq_true (by omega), decide_eq_true (by omega), decide_eq_true (by omega), rfl, decide_eq_true (by omega), yes_of ⟨by omega, hU1, hU2⟩, not_eq (yes_no hMore), hD, yes_of ⟨h64, rfl, hrg⟩, not_eq (yes_no hLess), rfl, rfl, rfl, rfl, rfl, decide_eq_true (by omega), decide_eq_true (by omega), decide_eq_true (by omega), m2, m3, m4, m5, mm, yes_of hA.1, yes_of ⟨by omega, rfl, hrA⟩, yes_of hS2, not_eq (yes_no far_no), rfl, rfl, rfl, rfl, rfl, rfl, rfl, hEq, rfl, rfl, rfl, rfl, rfl, rfl, rfl, rfl, trivial⟩).trans rfl
    · have hE : (!(wbR (lqQ n (qop f K))).1.o.isEmpty) = true := by
        refine not_eq ?_
        rw [← Bool.not_eq_true, List.isEmpty_iff_length_eq_zero, hol]; exact h0
      have hlt : (wbR (lqQ n (qop f K))).1.o.length < 2 ^ 60 := by rw [hol]; omega
      have hS0 : sameF ⟨(wbR (lqQ n (qop f K))).1.k, (wbR (lqQ n (qop f K))).1.n, (wbR (lqQ n (qop f K))).1.p, (wbR (lqQ n (qop f K))).1.t, (wbR (lqQ n (qop f K))).1.x, (wbR (lqQ n (qop f K))).1.y, []⟩ (lqQ n []) ∧ (wbR (lqQ n (qop f K))).1.o.length = osN K ∧ ∀ t, t < (wbR (lqQ n (qop f K))).1.o.length → gP (wbR (lqQ n (qop f K))).1.o t = opsL (fun j => f (0 + j)) (osN K) t := by
        rw [hR]
        refine ⟨⟨rfl, rfl, rfl, rfl, rfl, rfl⟩, opsP_len _ _, fun t ht => ?_⟩
        have ht' : t < osN K := by
          have e : (opsP (opsL (fun j => f (0 + j)) (osN K)) (osN K)).length = osN K := opsP_len _ _
          have ht2 : t < (opsP (opsL (fun j => f (0 + j)) (osN K)) (osN K)).length := ht
          omega
        exact (opsP_gP _ _ t ht').symm
      have hS := notnot (yes_of hS0)
      rcases rbK_in n with hk | hk | hk | hk | hk | hk
      · have hr0 : rbQ n a = rb1 n a := by unfold rbQ rb1; rw [hk]; rfl
        rw [hr0] at hA0
        have hA := hA0
        have hrA : rng (gL (ansB (rb1 n a))) := rng_gL (byteL_ansB _)
        have hSr := wbS_ok hA.1 hA.2
        have hS2 : (wbS (rb1 n a)).2 = ([], false) := by rw [hSr]
        have hEq : eqR (wbS (rb1 n a)).1 (rb1 n a) = true := by rw [hSr]; exact (eqR_iff _ _).2 rfl
        have m2 : (!(rbK n == (2 : Int))) = true := by rw [hk]; rfl
        have m3 : (!(rbK n == (3 : Int))) = true := by rw [hk]; rfl
        have m4 : (!(rbK n == (4 : Int))) = true := by rw [hk]; rfl
        have m5 : (!(rbK n == (5 : Int))) = true := by rw [hk]; rfl
        have m6 : (!(rbK n == (6 : Int))) = true := by rw [hk]; rfl
        exact (Tr.go_eval wb_s1 ⟨yes_of ⟨rfl, rfl⟩, kq, yes_of ⟨rfl, fun _ => ⟨rfl, hW⟩⟩, yes_of hQ, yes_of ⟨by omega, rfl, hrg⟩, yes_of hR2, hE, rfl, rfl, rfl, rfl, rfl, rfl, yes_of ⟨Nat.le_refl _, Nat.le_refl _, hlt, rfl, rfl⟩, rfl, rfl, hS, rfl, rfl, rfl, hL0, rfl, decide_eq_true (by omega), decide_eq_true (by omega), decide_eq_true (by omega), rfl, decide_eq_true (by omega), yes_of ⟨by omega, hU1, hU2⟩, not_eq (yes_no hMore), hD, yes_of ⟨h64, rfl, hrg⟩, not_eq (yes_no hLess), rfl, rfl, rfl, rfl, rfl, decide_eq_true (by omega), decide_eq_true (by omega), decide_eq_true (by omega), m2, m3, m4, m5, m6, yes_of hA.1, yes_of ⟨by omega, rfl, hrA⟩, yes_of hS2, not_eq (yes_no far_no), rfl, rfl, rfl, rfl, rfl, rfl, rfl, hEq, rfl, rfl, rfl, rfl, rfl, rfl, rfl, rfl, trivial⟩).trans rfl
      · have hr0 : rbQ n a = rb2 n a := by unfold rbQ rb2; rw [hk]; rfl
        rw [hr0] at hA0
        have hA := hA0
        have hrA : rng (gL (ansB (rb2 n a))) := rng_gL (byteL_ansB _)
        have hSr := wbS_ok hA.1 hA.2
        have hS2 : (wbS (rb2 n a)).2 = ([], false) := by rw [hSr]
        have hEq : eqR (wbS (rb2 n a)).1 (rb2 n a) = true := by rw [hSr]; exact (eqR_iff _ _).2 rfl
        have mm : (rbK n == (2 : Int)) = true := by rw [hk]; rfl
        have m3 : (!(rbK n == (3 : Int))) = true := by rw [hk]; rfl
        have m4 : (!(rbK n == (4 : Int))) = true := by rw [hk]; rfl
        have m5 : (!(rbK n == (5 : Int))) = true := by rw [hk]; rfl
        have m6 : (!(rbK n == (6 : Int))) = true := by rw [hk]; rfl
        exact (Tr.go_eval wb_s2 ⟨yes_of ⟨rfl, rfl⟩, kq, yes_of ⟨rfl, fun _ => ⟨rfl, hW⟩⟩, yes_of hQ, yes_of ⟨by omega, rfl, hrg⟩, yes_of hR2, hE, rfl, rfl, rfl, rfl, rfl, rfl, yes_of ⟨Nat.le_refl _, Nat.le_refl _, hlt, rfl, rfl⟩, rfl, rfl, hS, rfl, rfl, rfl, hL0, rfl, decide_eq_true (by omega), decide_eq_true (by omega), decide_eq_true (by omega), rfl, decide_eq_true (by omega), yes_of ⟨by omega, hU1, hU2⟩, not_eq (yes_no hMore), hD, yes_of ⟨h64, rfl, hrg⟩, not_eq (yes_no hLess), rfl, rfl, rfl, rfl, rfl, decide_eq_true (by omega), decide_eq_true (by omega), decide_eq_true (by omega), mm, yes_of hA.1, yes_of ⟨by omega, rfl, hrA⟩, yes_of hS2, not_eq (yes_no far_no), rfl, rfl, rfl, rfl, rfl, rfl, rfl, hEq, rfl, rfl, rfl, rfl, rfl, rfl, rfl, rfl, trivial⟩).trans rfl
      · have hr0 : rbQ n a = rb3 n a := by unfold rbQ rb3; rw [hk]; rfl
        rw [hr0] at hA0
        have hA := hA0
        have hrA : rng (gL (ansB (rb3 n a))) := rng_gL (byteL_ansB _)
        have hSr := wbS_ok hA.1 hA.2
        have hS2 : (wbS (rb3 n a)).2 = ([], false) := by rw [hSr]
        have hEq : eqR (wbS (rb3 n a)).1 (rb3 n a) = true := by rw [hSr]; exact (eqR_iff _ _).2 rfl
        have m2 : (!(rbK n == (2 : Int))) = true := by rw [hk]; rfl
        have mm : (rbK n == (3 : Int)) = true := by rw [hk]; rfl
        have m4 : (!(rbK n == (4 : Int))) = true := by rw [hk]; rfl
        have m5 : (!(rbK n == (5 : Int))) = true := by rw [hk]; rfl
        have m6 : (!(rbK n == (6 : Int))) = true := by rw [hk]; rfl
        exact (Tr.go_eval wb_s3 ⟨yes_of ⟨rfl, rfl⟩, kq, yes_of ⟨rfl, fun _ => ⟨rfl, hW⟩⟩, yes_of hQ, yes_of ⟨by omega, rfl, hrg⟩, yes_of hR2, hE, rfl, rfl, rfl, rfl, rfl, rfl, yes_of ⟨Nat.le_refl _, Nat.le_refl _, hlt, rfl, rfl⟩, rfl, rfl, hS, rfl, rfl, rfl, hL0, rfl, decide_eq_true (by omega), decide_eq_true (by omega), decide_eq_true (by omega), rfl, decide_eq_true (by omega), yes_of ⟨by omega, hU1, hU2⟩, not_eq (yes_no hMore), hD, yes_of ⟨h64, rfl, hrg⟩, not_eq (yes_no hLess), rfl, rfl, rfl, rfl, rfl, decide_eq_true (by omega), decide_eq_true (by omega), decide_eq_true (by omega), m2, mm, yes_of hA.1, yes_of ⟨by omega, rfl, hrA⟩, yes_of hS2, not_eq (yes_no far_no), rfl, rfl, rfl, rfl, rfl, rfl, rfl, hEq, rfl, rfl, rfl, rfl, rfl, rfl, rfl, rfl, trivial⟩).trans rfl
      · have hr0 : rbQ n a = rb4 n a := by unfold rbQ rb4; rw [hk]; rfl
        rw [hr0] at hA0
        have hA := hA0
        have hrA : rng (gL (ansB (rb4 n a))) := rng_gL (byteL_ansB _)
        have hSr := wbS_ok hA.1 hA.2
        have hS2 : (wbS (rb4 n a)).2 = ([], false) := by rw [hSr]
        have hEq : eqR (wbS (rb4 n a)).1 (rb4 n a) = true := by rw [hSr]; exact (eqR_iff _ _).2 rfl
        have m2 : (!(rbK n == (2 : Int))) = true := by rw [hk]; rfl
        have m3 : (!(rbK n == (3 : Int))) = true := by rw [hk]; rfl
        have mm : (rbK n == (4 : Int)) = true := by rw [hk]; rfl
        have m5 : (!(rbK n == (5 : Int))) = true := by rw [hk]; rfl
        have m6 : (!(rbK n == (6 : Int))) = true := by rw [hk]; rfl
        exact (Tr.go_eval wb_s4 ⟨yes_of ⟨rfl, rfl⟩, kq, yes_of ⟨rfl, fun _ => ⟨rfl, hW⟩⟩, yes_of hQ, yes_of ⟨by omega, rfl, hrg⟩, yes_of hR2, hE, rfl, rfl, rfl, rfl, rfl, rfl, yes_of ⟨Nat.le_refl _, Nat.le_refl _, hlt, rfl, rfl⟩, rfl, rfl, hS, rfl, rfl, rfl, hL0, rfl, decide_eq_true (by omega), decide_eq_true (by omega), decide_eq_true (by omega), rfl, decide_eq_true (by omega), yes_of ⟨by omega, hU1, hU2⟩, not_eq (yes_no hMore), hD, yes_of ⟨h64, rfl, hrg⟩, not_eq (yes_no hLess), rfl, rfl, rfl, rfl, rfl, decide_eq_true (by omega), decide_eq_true (by omega), decide_eq_true (by omega), m2, m3, mm, yes_of hA.1, yes_of ⟨by omega, rfl, hrA⟩, yes_of hS2, not_eq (yes_no far_no), rfl, rfl, rfl, rfl, rfl, rfl, rfl, hEq, rfl, rfl, rfl, rfl, rfl, rfl, rfl, rfl, trivial⟩).trans rfl
      · have hr0 : rbQ n a = rb5 n a := by unfold rbQ rb5; rw [hk]; rfl
        rw [hr0] at hA0
        have hA := hA0
        have hrA : rng (gL (ansB (rb5 n a))) := rng_gL (byteL_ansB _)
        have hSr := wbS_ok hA.1 hA.2
        have hS2 : (wbS (rb5 n a)).2 = ([], false) := by rw [hSr]
        have hEq : eqR (wbS (rb5 n a)).1 (rb5 n a) = true := by rw [hSr]; exact (eqR_iff _ _).2 rfl
        have m2 : (!(rbK n == (2 : Int))) = true := by rw [hk]; rfl
        have m3 : (!(rbK n == (3 : Int))) = true := by rw [hk]; rfl
        have m4 : (!(rbK n == (4 : Int))) = true := by rw [hk]; rfl
        have mm : (rbK n == (5 : Int)) = true := by rw [hk]; rfl
        have m6 : (!(rbK n == (6 : Int))) = true := by rw [hk]; rfl
        exact (Tr.go_eval wb_s5 ⟨yes_of ⟨rfl, rfl⟩, kq, yes_of ⟨rfl, fun _ => ⟨rfl, hW⟩⟩, yes_of hQ, yes_of ⟨by omega, rfl, hrg⟩, yes_of hR2, hE, rfl, rfl, rfl, rfl, rfl, rfl, yes_of ⟨Nat.le_refl _, Nat.le_refl _, hlt, rfl, rfl⟩, rfl, rfl, hS, rfl, rfl, rfl, hL0, rfl, decide_eq_true (by omega), decide_eq_true (by omega), decide_eq_true (by omega), rfl, decide_eq_true (by omega), yes_of ⟨by omega, hU1, hU2⟩, not_eq (yes_no hMore), hD, yes_of ⟨h64, rfl, hrg⟩, not_eq (yes_no hLess), rfl, rfl, rfl, rfl, rfl, decide_eq_true (by omega), decide_eq_true (by omega), decide_eq_true (by omega), m2, m3, m4, mm, rfl, yes_of hA.1, yes_of ⟨by omega, rfl, hrA⟩, yes_of hS2, not_eq (yes_no far_no), rfl, rfl, rfl, rfl, rfl, rfl, rfl, hEq, rfl, rfl, rfl, rfl, rfl, rfl, rfl, rfl, trivial⟩).trans rfl
      · have hr0 : rbQ n a = rb5 n a := by unfold rbQ rb5; rw [hk]; rfl
        rw [hr0] at hA0
        have hA := hA0
        have hrA : rng (gL (ansB (rb5 n a))) := rng_gL (byteL_ansB _)
        have hSr := wbS_ok hA.1 hA.2
        have hS2 : (wbS (rb5 n a)).2 = ([], false) := by rw [hSr]
        have hEq : eqR (wbS (rb5 n a)).1 (rb5 n a) = true := by rw [hSr]; exact (eqR_iff _ _).2 rfl
        have m2 : (!(rbK n == (2 : Int))) = true := by rw [hk]; rfl
        have m3 : (!(rbK n == (3 : Int))) = true := by rw [hk]; rfl
        have m4 : (!(rbK n == (4 : Int))) = true := by rw [hk]; rfl
        have m5 : (!(rbK n == (5 : Int))) = true := by rw [hk]; rfl
        have mm : (rbK n == (6 : Int)) = true := by rw [hk]; rfl
        exact (Tr.go_eval wb_s6 ⟨yes_of ⟨rfl, rfl⟩, kq, yes_of ⟨rfl, fun _ => ⟨rfl, hW⟩⟩, yes_of hQ, yes_of ⟨by omega, rfl, hrg⟩, yes_of hR2, hE, rfl, rfl, rfl, rfl, rfl, rfl, yes_of ⟨Nat.le_refl _, Nat.le_refl _, hlt, rfl, rfl⟩, rfl, rfl, hS, rfl, rfl, rfl, hL0, rfl, decide_eq_true (by omega), decide_eq_true (by omega), decide_eq_true (by omega), rfl, decide_eq_true (by omega), yes_of ⟨by omega, hU1, hU2⟩, not_eq (yes_no hMore), hD, yes_of ⟨h64, rfl, hrg⟩, not_eq (yes_no hLess), rfl, rfl, rfl, rfl, rfl, decide_eq_true (by omega), decide_eq_true (by omega), decide_eq_true (by omega), m2, m3, m4, m5, mm, yes_of hA.1, yes_of ⟨by omega, rfl, hrA⟩, yes_of hS2, not_eq (yes_no far_no), rfl, rfl, rfl, rfl, rfl, rfl, rfl, hEq, rfl, rfl, rfl, rfl, rfl, rfl, rfl, rfl, trivial⟩).trans rfl
  · have nq : (!(lqK n == (1 : Int))) = true := not_eq (nb hk1)
    have hQ : reqOk (lqQ n []) := lq_ok (fun h => absurd h hk1) fun _ => rfl
    have hl0 := reqB_small (q := lqQ n []) hk1
    have hl : (reqB (lqQ n [])).length ≤ 100000 := by omega
    have hp := reqB_pos (lqQ n [])
    obtain ⟨hrg, hU1, hU2, hMore, hLess, h64, hD⟩ := wb_facts hQ hl hb
    have hR := wbR_ok hQ
    have hR2 : (wbR (lqQ n [])).2 = ([], false) := by rw [hR]
    have hE : (wbR (lqQ n [])).1.o.isEmpty = true := by rw [hR]; rfl
    have hL0 : (!((((reqB (lqQ n [])).length : Nat) : Int) == (0 : Int))) = true := not_eq (nb (by omega))
    have hS : (!!yes (sameF ⟨(wbR (lqQ n [])).1.k, (wbR (lqQ n [])).1.n, (wbR (lqQ n [])).1.p, (wbR (lqQ n [])).1.t, (wbR (lqQ n [])).1.x, (wbR (lqQ n [])).1.y, []⟩ (lqQ n []))) = true := by rw [hR]; exact notnot (yes_of ⟨rfl, rfl, rfl, rfl, rfl, rfl⟩)
    rcases rbK_in n with hk | hk | hk | hk | hk | hk
    · have hr0 : rbQ n a = rb1 n a := by unfold rbQ rb1; rw [hk]; rfl
      rw [hr0] at hA0
      have hA := hA0
      have hrA : rng (gL (ansB (rb1 n a))) := rng_gL (byteL_ansB _)
      have hSr := wbS_ok hA.1 hA.2
      have hS2 : (wbS (rb1 n a)).2 = ([], false) := by rw [hSr]
      have hEq : eqR (wbS (rb1 n a)).1 (rb1 n a) = true := by rw [hSr]; exact (eqR_iff _ _).2 rfl
      have m2 : (!(rbK n == (2 : Int))) = true := by rw [hk]; rfl
      have m3 : (!(rbK n == (3 : Int))) = true := by rw [hk]; rfl
      have m4 : (!(rbK n == (4 : Int))) = true := by rw [hk]; rfl
      have m5 : (!(rbK n == (5 : Int))) = true := by rw [hk]; rfl
      have m6 : (!(rbK n == (6 : Int))) = true := by rw [hk]; rfl
      exact (Tr.go_eval wb_n1 ⟨yes_of ⟨rfl, rfl⟩, nq, yes_of hQ, yes_of ⟨by omega, rfl, hrg⟩, yes_of hR2, hE, rfl, rfl, rfl, rfl, rfl, rfl, rfl, rfl, hS, rfl, rfl, rfl, hL0, rfl, decide_eq_true (by omega), decide_eq_true (by omega), decide_eq_true (by omega), rfl, decide_eq_true (by omega), yes_of ⟨by omega, hU1, hU2⟩, not_eq (yes_no hMore), hD, yes_of ⟨h64, rfl, hrg⟩, not_eq (yes_no hLess), rfl, rfl, rfl, rfl, rfl, decide_eq_true (by omega), decide_eq_true (by omega), decide_eq_true (by omega), m2, m3, m4, m5, m6, yes_of hA.1, yes_of ⟨by omega, rfl, hrA⟩, yes_of hS2, not_eq (yes_no far_no), rfl, rfl, rfl, rfl, rfl, rfl, rfl, hEq, rfl, rfl, rfl, rfl, rfl, rfl, rfl, rfl, trivial⟩).trans rfl
    · have hr0 : rbQ n a = rb2 n a := by unfold rbQ rb2; rw [hk]; rfl
      rw [hr0] at hA0
      have hA := hA0
      have hrA : rng (gL (ansB (rb2 n a))) := rng_gL (byteL_ansB _)
      have hSr := wbS_ok hA.1 hA.2
      have hS2 : (wbS (rb2 n a)).2 = ([], false) := by rw [hSr]
      have hEq : eqR (wbS (rb2 n a)).1 (rb2 n a) = true := by rw [hSr]; exact (eqR_iff _ _).2 rfl
      have mm : (rbK n == (2 : Int)) = true := by rw [hk]; rfl
      have m3 : (!(rbK n == (3 : Int))) = true := by rw [hk]; rfl
      have m4 : (!(rbK n == (4 : Int))) = true := by rw [hk]; rfl
      have m5 : (!(rbK n == (5 : Int))) = true := by rw [hk]; rfl
      have m6 : (!(rbK n == (6 : Int))) = true := by rw [hk]; rfl
      exact (Tr.go_eval wb_n2 ⟨yes_of ⟨rfl, rfl⟩, nq, yes_of hQ, yes_of ⟨by omega, rfl, hrg⟩, yes_of hR2, hE, rfl, rfl, rfl, rfl, rfl, rfl, rfl, rfl, hS, rfl, rfl, rfl, hL0, rfl, decide_eq_true (by omega), decide_eq_true (by omega), decide_eq_true (by omega), rfl, decide_eq_true (by omega), yes_of ⟨by omega, hU1, hU2⟩, not_eq (yes_no hMore), hD, yes_of ⟨h64, rfl, hrg⟩, not_eq (yes_no hLess), rfl, rfl, rfl, rfl, rfl, decide_eq_true (by omega), decide_eq_true (by omega), decide_eq_true (by omega), mm, yes_of hA.1, yes_of ⟨by omega, rfl, hrA⟩, yes_of hS2, not_eq (yes_no far_no), rfl, rfl, rfl, rfl, rfl, rfl, rfl, hEq, rfl, rfl, rfl, rfl, rfl, rfl, rfl, rfl, trivial⟩).trans rfl
    · have hr0 : rbQ n a = rb3 n a := by unfold rbQ rb3; rw [hk]; rfl
      rw [hr0] at hA0
      have hA := hA0
      have hrA : rng (gL (ansB (rb3 n a))) := rng_gL (byteL_ansB _)
      have hSr := wbS_ok hA.1 hA.2
      have hS2 : (wbS (rb3 n a)).2 = ([], false) := by rw [hSr]
      have hEq : eqR (wbS (rb3 n a)).1 (rb3 n a) = true := by rw [hSr]; exact (eqR_iff _ _).2 rfl
      have m2 : (!(rbK n == (2 : Int))) = true := by rw [hk]; rfl
      have mm : (rbK n == (3 : Int)) = true := by rw [hk]; rfl
      have m4 : (!(rbK n == (4 : Int))) = true := by rw [hk]; rfl
      have m5 : (!(rbK n == (5 : Int))) = true := by rw [hk]; rfl
      have m6 : (!(rbK n == (6 : Int))) = true := by rw [hk]; rfl
      exact (Tr.go_eval wb_n3 ⟨yes_of ⟨rfl, rfl⟩, nq, yes_of hQ, yes_of ⟨by omega, rfl, hrg⟩, yes_of hR2, hE, rfl, rfl, rfl, rfl, rfl, rfl, rfl, rfl, hS, rfl, rfl, rfl, hL0, rfl, decide_eq_true (by omega), decide_eq_true (by omega), decide_eq_true (by omega), rfl, decide_eq_true (by omega), yes_of ⟨by omega, hU1, hU2⟩, not_eq (yes_no hMore), hD, yes_of ⟨h64, rfl, hrg⟩, not_eq (yes_no hLess), rfl, rfl, rfl, rfl, rfl, decide_eq_true (by omega), decide_eq_true (by omega), decide_eq_true (by omega), m2, mm, yes_of hA.1, yes_of ⟨by omega, rfl, hrA⟩, yes_of hS2, not_eq (yes_no far_no), rfl, rfl, rfl, rfl, rfl, rfl, rfl, hEq, rfl, rfl, rfl, rfl, rfl, rfl, rfl, rfl, trivial⟩).trans rfl
    · have hr0 : rbQ n a = rb4 n a := by unfold rbQ rb4; rw [hk]; rfl
      rw [hr0] at hA0
      have hA := hA0
      have hrA : rng (gL (ansB (rb4 n a))) := rng_gL (byteL_ansB _)
      have hSr := wbS_ok hA.1 hA.2
      have hS2 : (wbS (rb4 n a)).2 = ([], false) := by rw [hSr]
      have hEq : eqR (wbS (rb4 n a)).1 (rb4 n a) = true := by rw [hSr]; exact (eqR_iff _ _).2 rfl
      have m2 : (!(rbK n == (2 : Int))) = true := by rw [hk]; rfl
      have m3 : (!(rbK n == (3 : Int))) = true := by rw [hk]; rfl
      have mm : (rbK n == (4 : Int)) = true := by rw [hk]; rfl
      have m5 : (!(rbK n == (5 : Int))) = true := by rw [hk]; rfl
      have m6 : (!(rbK n == (6 : Int))) = true := by rw [hk]; rfl
      exact (Tr.go_eval wb_n4 ⟨yes_of ⟨rfl, rfl⟩, nq, yes_of hQ, yes_of ⟨by omega, rfl, hrg⟩, yes_of hR2, hE, rfl, rfl, rfl, rfl, rfl, rfl, rfl, rfl, hS, rfl, rfl, rfl, hL0, rfl, decide_eq_true (by omega), decide_eq_true (by omega), decide_eq_true (by omega), rfl, decide_eq_true (by omega), yes_of ⟨by omega, hU1, hU2⟩, not_eq (yes_no hMore), hD, yes_of ⟨h64, rfl, hrg⟩, not_eq (yes_no hLess), rfl, rfl, rfl, rfl, rfl, decide_eq_true (by omega), decide_eq_true (by omega), decide_eq_true (by omega), m2, m3, mm, yes_of hA.1, yes_of ⟨by omega, rfl, hrA⟩, yes_of hS2, not_eq (yes_no far_no), rfl, rfl, rfl, rfl, rfl, rfl, rfl, hEq, rfl, rfl, rfl, rfl, rfl, rfl, rfl, rfl, trivial⟩).trans rfl
    · have hr0 : rbQ n a = rb5 n a := by unfold rbQ rb5; rw [hk]; rfl
      rw [hr0] at hA0
      have hA := hA0
      have hrA : rng (gL (ansB (rb5 n a))) := rng_gL (byteL_ansB _)
      have hSr := wbS_ok hA.1 hA.2
      have hS2 : (wbS (rb5 n a)).2 = ([], false) := by rw [hSr]
      have hEq : eqR (wbS (rb5 n a)).1 (rb5 n a) = true := by rw [hSr]; exact (eqR_iff _ _).2 rfl
      have m2 : (!(rbK n == (2 : Int))) = true := by rw [hk]; rfl
      have m3 : (!(rbK n == (3 : Int))) = true := by rw [hk]; rfl
      have m4 : (!(rbK n == (4 : Int))) = true := by rw [hk]; rfl
      have mm : (rbK n == (5 : Int)) = true := by rw [hk]; rfl
      have m6 : (!(rbK n == (6 : Int))) = true := by rw [hk]; rfl
      exact (Tr.go_eval wb_n5 ⟨yes_of ⟨rfl, rfl⟩, nq, yes_of hQ, yes_of ⟨by omega, rfl, hrg⟩, yes_of hR2, hE, rfl, rfl, rfl, rfl, rfl, rfl, rfl, rfl, hS, rfl, rfl, rfl, hL0, rfl, decide_eq_true (by omega), decide_eq_true (by omega), decide_eq_true (by omega), rfl, decide_eq_true (by omega), yes_of ⟨by omega, hU1, hU2⟩, not_eq (yes_no hMore), hD, yes_of ⟨h64, rfl, hrg⟩, not_eq (yes_no hLess), rfl, rfl, rfl, rfl, rfl, decide_eq_true (by omega), decide_eq_true (by omega), decide_eq_true (by omega), m2, m3, m4, mm, rfl, yes_of hA.1, yes_of ⟨by omega, rfl, hrA⟩, yes_of hS2, not_eq (yes_no far_no), rfl, rfl, rfl, rfl, rfl, rfl, rfl, hEq, rfl, rfl, rfl, rfl, rfl, rfl, rfl, rfl, trivial⟩).trans rfl
    · have hr0 : rbQ n a = rb5 n a := by unfold rbQ rb5; rw [hk]; rfl
      rw [hr0] at hA0
      have hA := hA0
      have hrA : rng (gL (ansB (rb5 n a))) := rng_gL (byteL_ansB _)
      have hSr := wbS_ok hA.1 hA.2
      have hS2 : (wbS (rb5 n a)).2 = ([], false) := by rw [hSr]
      have hEq : eqR (wbS (rb5 n a)).1 (rb5 n a) = true := by rw [hSr]; exact (eqR_iff _ _).2 rfl
      have m2 : (!(rbK n == (2 : Int))) = true := by rw [hk]; rfl
      have m3 : (!(rbK n == (3 : Int))) = true := by rw [hk]; rfl
      have m4 : (!(rbK n == (4 : Int))) = true := by rw [hk]; rfl
      have m5 : (!(rbK n == (5 : Int))) = true := by rw [hk]; rfl
      have mm : (rbK n == (6 : Int)) = true := by rw [hk]; rfl
      exact (Tr.go_eval wb_n6 ⟨yes_of ⟨rfl, rfl⟩, nq, yes_of hQ, yes_of ⟨by omega, rfl, hrg⟩, yes_of hR2, hE, rfl, rfl, rfl, rfl, rfl, rfl, rfl, rfl, hS, rfl, rfl, rfl, hL0, rfl, decide_eq_true (by omega), decide_eq_true (by omega), decide_eq_true (by omega), rfl, decide_eq_true (by omega), yes_of ⟨by omega, hU1, hU2⟩, not_eq (yes_no hMore), hD, yes_of ⟨h64, rfl, hrg⟩, not_eq (yes_no hLess), rfl, rfl, rfl, rfl, rfl, decide_eq_true (by omega), decide_eq_true (by omega), decide_eq_true (by omega), m2, m3, m4, m5, mm, yes_of hA.1, yes_of ⟨by omega, rfl, hrA⟩, yes_of hS2, not_eq (yes_no far_no), rfl, rfl, rfl, rfl, rfl, rfl, rfl, hEq, rfl, rfl, rfl, rfl, rfl, rfl, rfl, rfl, trivial⟩).trans rfl
def wireBackS : List Shp := [.one (.int .i64), .rows 2 [.int .i64], .agg [.int .i64, .int .i64, .int .i64, .int .i64, .int .i64, .int .i64, .int .i64, .int .i64, .int .i64, .int .i64], .one (.int .u8)]
theorem wireBack_core : ∀ is, InsOk wireBackS is → ∃ keep tm d ℓ, LoopsSem (GT KWB keep 0 tm) (blksIn wireBackS is).length ℓ ∧ (lfun (GT KWB keep 0 tm) ℓ d Try.f39 (avsIn 0 wireBackS is) (blksIn wireBackS is)).eval = some (Bo true, blksIn wireBackS is) := by
  intro is0 h0
  obtain ⟨v1, is1, rfl, h1⟩ := ins_i64 h0
  obtain ⟨k2, v2, is2, rfl, h2, _⟩ := ins_ints h1
  obtain ⟨r, is3, rfl, h3⟩ := ins_reply h2
  obtain ⟨b, is4, rfl, h4, hb⟩ := ins_u8 h3
  obtain rfl := ins_nil h4
  exact wireBack_true v1 k2 v2 r b hb
end
end Go.Proofs.Ytcpahifgdppkbaa.QAI
