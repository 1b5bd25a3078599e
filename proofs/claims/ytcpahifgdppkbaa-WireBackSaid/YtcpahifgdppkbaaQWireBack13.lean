/- Requests as bytes: a request, kind by kind (printed by wn3.py). -/
import Derived.Test.YtcpahifgdppkbaaQWireBack12
set_option linter.unusedVariables false
set_option linter.unusedSimpArgs false
set_option maxRecDepth 100000
namespace Go.Proofs.Ytcpahifgdppkbaa.QAI
section
open Go Go.RowKit
def sfB (q r : Qd) : Prop := sameF ⟨r.k, r.n, r.p, r.t, r.x, r.y, []⟩ ⟨q.k, q.n, q.p, q.t, q.x, q.y, []⟩
def qB2 (q : Qd) : Nat → Int := (appB (fun _ => 0) 0 (IntKind.u8.wrap q.k))
def qB6 (q : Qd) : Nat → Int := (appB (fun _ => 0) 0 (IntKind.u8.wrap q.k))
def qB3 (q : Qd) : Nat → Int := (fourB (fourB (appB (fun _ => 0) 0 (IntKind.u8.wrap q.k)) 1 q.p) 5 q.t)
def qB4 (q : Qd) : Nat → Int := (fourB (fourB (fourB (appB (fun _ => 0) 0 (IntKind.u8.wrap q.k)) 1 q.p) 5 q.t) 9 q.n)
def qB5 (q : Qd) : Nat → Int := (fourB (fourB (fourB (fourB (appB (fun _ => 0) 0 (IntKind.u8.wrap q.k)) 1 q.p) 5 q.t) 9 q.x) 13 q.y)
def qB1 (q : Qd) : Nat → Int := appB (appB (fun _ => 0) 0 (IntKind.u8.wrap q.k)) 1 (IntKind.u8.wrap ((0 : Nat) : Int))
def qBS (P : Nat → Opp) (m : Nat) (q : Qd) : Nat → Int := wqBs P 2 (appB (appB (fun _ => 0) 0 (IntKind.u8.wrap q.k)) 1 (IntKind.u8.wrap ((m : Nat) : Int))) m
theorem reN_2 {q : Qd} (ho : q.o = []) (hk : q.k = 2) : (lfun reG nol 60 Try.f101 [qV q (.v (.slice none 0 0))] []).eval = some (reN q) := by
  have n1 : (!(q.k == (1 : Int))) = true := by rw [hk]; rfl
  have kk : (q.k == (2 : Int)) = true := by rw [hk]; rfl
  have ew : wrOk q = true := by unfold wrOk; rw [hk]; rfl
  have er : reqB q = by8 q.k :: ([]) := by unfold reqB; rw [hk]; rfl
  have hn : (reqB q).length = 1 := by rw [er]; rfl
  have hB : (qB2 q) = gL (reqB q) := by unfold qB2; rw [er, wrap_by8, show (fun _ => (0 : Int)) = gL [] from rfl, gL_app' [] 0 rfl]; rfl
  have hr : rng (qB2 q) := by rw [hB]; exact rng_gL (byteL_reqB q)
  have hbo : (bareQ q).o = [] := by unfold bareQ; rw [hk]; rfl
  have hbw : (false || !byOk q.k) = !wrOk q := by rw [ew, hk]; rfl
  by_cases hw : wrOk q = true
  · have hR : rqR (qB2 q) 0 1 = (bareQ q, [], false) := by rw [hB, ← hn]; exact rq_back hw
    have hE : (rqR (qB2 q) 0 1).1.o.isEmpty = true := by rw [hR]; show (bareQ q).o.isEmpty = true; rw [hbo]; rfl
    have hb := not_eq (hbw.trans (by rw [hw]; rfl))
    have hX : (sfB q (rqR (qB2 q) 0 1).1) ↔ bareQ q = q := by rw [hR]; exact ⟨fun h => (qd_eq _ _).2 ⟨h, hbo.trans ho.symm⟩, fun h => ((qd_eq _ _).1 h).1⟩
    by_cases hs : bareQ q = q
    · have hS : (!!yes (sfB q (rqR (qB2 q) 0 1).1)) = true := notnot (yes_of (hX.2 hs))
      refine (Tr.go_eval ren_2f ⟨n1, kk, rfl, hb, rfl, rfl, rfl, rfl, rfl, rfl, rfl, yes_of ⟨Nat.le_refl _, rfl, hr⟩, hE, rfl, rfl, rfl, hS, trivial⟩).trans ?_
      unfold reN; rw [if_pos ⟨hw, hs⟩, hn, ← hB]; all_goals rfl
    · have hS : (!yes (sfB q (rqR (qB2 q) 0 1).1)) = true := not_eq (yes_no fun h => hs (hX.1 h))
      refine (Tr.go_eval ren_2t ⟨n1, kk, rfl, hb, rfl, rfl, rfl, rfl, rfl, rfl, rfl, yes_of ⟨Nat.le_refl _, rfl, hr⟩, hE, rfl, rfl, rfl, hS, trivial⟩).trans ?_
      unfold reN; rw [if_neg fun h => hs h.2]; all_goals rfl
  · exact absurd ew hw
theorem reN_6 {q : Qd} (ho : q.o = []) (hk : q.k = 6) : (lfun reG nol 60 Try.f101 [qV q (.v (.slice none 0 0))] []).eval = some (reN q) := by
  have n1 : (!(q.k == (1 : Int))) = true := by rw [hk]; rfl
  have n2 : (!(q.k == (2 : Int))) = true := by rw [hk]; rfl
  have kk : (q.k == (6 : Int)) = true := by rw [hk]; rfl
  have ew : wrOk q = true := by unfold wrOk; rw [hk]; rfl
  have er : reqB q = by8 q.k :: ([]) := by unfold reqB; rw [hk]; rfl
  have hn : (reqB q).length = 1 := by rw [er]; rfl
  have hB : (qB6 q) = gL (reqB q) := by unfold qB6; rw [er, wrap_by8, show (fun _ => (0 : Int)) = gL [] from rfl, gL_app' [] 0 rfl]; rfl
  have hr : rng (qB6 q) := by rw [hB]; exact rng_gL (byteL_reqB q)
  have hbo : (bareQ q).o = [] := by unfold bareQ; rw [hk]; rfl
  have hbw : (false || !byOk q.k) = !wrOk q := by rw [ew, hk]; rfl
  by_cases hw : wrOk q = true
  · have hR : rqR (qB6 q) 0 1 = (bareQ q, [], false) := by rw [hB, ← hn]; exact rq_back hw
    have hE : (rqR (qB6 q) 0 1).1.o.isEmpty = true := by rw [hR]; show (bareQ q).o.isEmpty = true; rw [hbo]; rfl
    have hb := not_eq (hbw.trans (by rw [hw]; rfl))
    have hX : (sfB q (rqR (qB6 q) 0 1).1) ↔ bareQ q = q := by rw [hR]; exact ⟨fun h => (qd_eq _ _).2 ⟨h, hbo.trans ho.symm⟩, fun h => ((qd_eq _ _).1 h).1⟩
    by_cases hs : bareQ q = q
    · have hS : (!!yes (sfB q (rqR (qB6 q) 0 1).1)) = true := notnot (yes_of (hX.2 hs))
      refine (Tr.go_eval ren_6f ⟨n1, n2, kk, hb, rfl, rfl, rfl, rfl, rfl, rfl, rfl, yes_of ⟨Nat.le_refl _, rfl, hr⟩, hE, rfl, rfl, rfl, hS, trivial⟩).trans ?_
      unfold reN; rw [if_pos ⟨hw, hs⟩, hn, ← hB]; all_goals rfl
    · have hS : (!yes (sfB q (rqR (qB6 q) 0 1).1)) = true := not_eq (yes_no fun h => hs (hX.1 h))
      refine (Tr.go_eval ren_6t ⟨n1, n2, kk, hb, rfl, rfl, rfl, rfl, rfl, rfl, rfl, yes_of ⟨Nat.le_refl _, rfl, hr⟩, hE, rfl, rfl, rfl, hS, trivial⟩).trans ?_
      unfold reN; rw [if_neg fun h => hs h.2]; all_goals rfl
  · exact absurd ew hw
theorem reN_3 {q : Qd} (ho : q.o = []) (hk : q.k = 3) : (lfun reG nol 60 Try.f101 [qV q (.v (.slice none 0 0))] []).eval = some (reN q) := by
  have n1 : (!(q.k == (1 : Int))) = true := by rw [hk]; rfl
  have n2 : (!(q.k == (2 : Int))) = true := by rw [hk]; rfl
  have n6 : (!(q.k == (6 : Int))) = true := by rw [hk]; rfl
  have kk : (q.k == (3 : Int)) = true := by rw [hk]; rfl
  have ew : wrOk q = (fits q.p && fits q.t) := by unfold wrOk; rw [hk]; rfl
  have er : reqB q = by8 q.k :: (four q.p ++ four q.t) := by unfold reqB; rw [hk]; rfl
  have hn : (reqB q).length = 9 := by rw [er]; rfl
  have hB : (qB3 q) = gL (reqB q) := by unfold qB3; rw [er, wrap_by8, show (fun _ => (0 : Int)) = gL [] from rfl, gL_app' [] 0 rfl, gL_four _ 1 rfl, gL_four _ 5 rfl]; rfl
  have hr : rng (qB3 q) := by rw [hB]; exact rng_gL (byteL_reqB q)
  have hbo : (bareQ q).o = [] := by unfold bareQ; rw [hk]; rfl
  have hbw : (((false || !byOk q.k) || !fits q.p) || !fits q.t) = !wrOk q := by rw [ew, hk]; cases fits q.p <;> cases fits q.t <;> rfl
  by_cases hw : wrOk q = true
  · have hR : rqR (qB3 q) 0 9 = (bareQ q, [], false) := by rw [hB, ← hn]; exact rq_back hw
    have hE : (rqR (qB3 q) 0 9).1.o.isEmpty = true := by rw [hR]; show (bareQ q).o.isEmpty = true; rw [hbo]; rfl
    have hb := not_eq (hbw.trans (by rw [hw]; rfl))
    have hX : (sfB q (rqR (qB3 q) 0 9).1) ↔ bareQ q = q := by rw [hR]; exact ⟨fun h => (qd_eq _ _).2 ⟨h, hbo.trans ho.symm⟩, fun h => ((qd_eq _ _).1 h).1⟩
    by_cases hs : bareQ q = q
    · have hS : (!!yes (sfB q (rqR (qB3 q) 0 9).1)) = true := notnot (yes_of (hX.2 hs))
      refine (Tr.go_eval ren_3f ⟨n1, n2, n6, kk, yes_of ⟨by unfold maxCells; omega, rfl, rfl⟩, hb, rfl, rfl, rfl, rfl, rfl, rfl, rfl, yes_of ⟨Nat.le_refl _, rfl, hr⟩, hE, rfl, rfl, rfl, hS, trivial⟩).trans ?_
      unfold reN; rw [if_pos ⟨hw, hs⟩, hn, ← hB]; all_goals rfl
    · have hS : (!yes (sfB q (rqR (qB3 q) 0 9).1)) = true := not_eq (yes_no fun h => hs (hX.1 h))
      refine (Tr.go_eval ren_3t ⟨n1, n2, n6, kk, yes_of ⟨by unfold maxCells; omega, rfl, rfl⟩, hb, rfl, rfl, rfl, rfl, rfl, rfl, rfl, yes_of ⟨Nat.le_refl _, rfl, hr⟩, hE, rfl, rfl, rfl, hS, trivial⟩).trans ?_
      unfold reN; rw [if_neg fun h => hs h.2]; all_goals rfl
  · have hb := hbw.trans (show (!wrOk q) = true by rw [Bool.not_eq_true] at hw; rw [hw]; rfl)
    refine (Tr.go_eval ren_3b ⟨n1, n2, n6, kk, yes_of ⟨by unfold maxCells; omega, rfl, rfl⟩, hb, rfl, rfl, rfl, rfl, rfl, rfl, rfl, rfl, rfl, rfl, rfl, trivial⟩).trans ?_
    unfold reN; rw [if_neg fun h => hw h.1]; all_goals rfl
theorem reN_4 {q : Qd} (ho : q.o = []) (hk : q.k = 4) : (lfun reG nol 60 Try.f101 [qV q (.v (.slice none 0 0))] []).eval = some (reN q) := by
  have n1 : (!(q.k == (1 : Int))) = true := by rw [hk]; rfl
  have n2 : (!(q.k == (2 : Int))) = true := by rw [hk]; rfl
  have n6 : (!(q.k == (6 : Int))) = true := by rw [hk]; rfl
  have n3 : (!(q.k == (3 : Int))) = true := by rw [hk]; rfl
  have kk : (q.k == (4 : Int)) = true := by rw [hk]; rfl
  have ew : wrOk q = (fits q.p && fits q.t && fits q.n) := by unfold wrOk; rw [hk]; rfl
  have er : reqB q = by8 q.k :: (four q.p ++ four q.t ++ four q.n) := by unfold reqB; rw [hk]; rfl
  have hn : (reqB q).length = 13 := by rw [er]; rfl
  have hB : (qB4 q) = gL (reqB q) := by unfold qB4; rw [er, wrap_by8, show (fun _ => (0 : Int)) = gL [] from rfl, gL_app' [] 0 rfl, gL_four _ 1 rfl, gL_four _ 5 rfl, gL_four _ 9 rfl]; rfl
  have hr : rng (qB4 q) := by rw [hB]; exact rng_gL (byteL_reqB q)
  have hbo : (bareQ q).o = [] := by unfold bareQ; rw [hk]; rfl
  have hbw : ((((false || !byOk q.k) || !fits q.p) || !fits q.t) || !fits q.n) = !wrOk q := by rw [ew, hk]; cases fits q.p <;> cases fits q.t <;> cases fits q.n <;> rfl
  by_cases hw : wrOk q = true
  · have hR : rqR (qB4 q) 0 13 = (bareQ q, [], false) := by rw [hB, ← hn]; exact rq_back hw
    have hE : (rqR (qB4 q) 0 13).1.o.isEmpty = true := by rw [hR]; show (bareQ q).o.isEmpty = true; rw [hbo]; rfl
    have hb := not_eq (hbw.trans (by rw [hw]; rfl))
    have hX : (sfB q (rqR (qB4 q) 0 13).1) ↔ bareQ q = q := by rw [hR]; exact ⟨fun h => (qd_eq _ _).2 ⟨h, hbo.trans ho.symm⟩, fun h => ((qd_eq _ _).1 h).1⟩
    by_cases hs : bareQ q = q
    · have hS : (!!yes (sfB q (rqR (qB4 q) 0 13).1)) = true := notnot (yes_of (hX.2 hs))
      refine (Tr.go_eval ren_4f ⟨n1, n2, n6, n3, kk, yes_of ⟨by unfold maxCells; omega, rfl, rfl⟩, yes_of ⟨by unfold maxCells; omega, rfl, rfl⟩, hb, rfl, rfl, rfl, rfl, rfl, rfl, rfl, yes_of ⟨Nat.le_refl _, rfl, hr⟩, hE, rfl, rfl, rfl, hS, trivial⟩).trans ?_
      unfold reN; rw [if_pos ⟨hw, hs⟩, hn, ← hB]; all_goals rfl
    · have hS : (!yes (sfB q (rqR (qB4 q) 0 13).1)) = true := not_eq (yes_no fun h => hs (hX.1 h))
      refine (Tr.go_eval ren_4t ⟨n1, n2, n6, n3, kk, yes_of ⟨by unfold maxCells; omega, rfl, rfl⟩, yes_of ⟨by unfold maxCells; omega, rfl, rfl⟩, hb, rfl, rfl, rfl, rfl, rfl, rfl, rfl, yes_of ⟨Nat.le_refl _, rfl, hr⟩, hE, rfl, rfl, rfl, hS, trivial⟩).trans ?_
      unfold reN; rw [if_neg fun h => hs h.2]; all_goals rfl
  · have hb := hbw.trans (show (!wrOk q) = true by rw [Bool.not_eq_true] at hw; rw [hw]; rfl)
    refine (Tr.go_eval ren_4b ⟨n1, n2, n6, n3, kk, yes_of ⟨by unfold maxCells; omega, rfl, rfl⟩, yes_of ⟨by unfold maxCells; omega, rfl, rfl⟩, hb, rfl, rfl, rfl, rfl, rfl, rfl, rfl, rfl, rfl, rfl, rfl, trivial⟩).trans ?_
    unfold reN; rw [if_neg fun h => hw h.1]; all_goals rfl
theorem reN_5 {q : Qd} (ho : q.o = []) (hk : q.k = 5) : (lfun reG nol 60 Try.f101 [qV q (.v (.slice none 0 0))] []).eval = some (reN q) := by
  have n1 : (!(q.k == (1 : Int))) = true := by rw [hk]; rfl
  have n2 : (!(q.k == (2 : Int))) = true := by rw [hk]; rfl
  have n6 : (!(q.k == (6 : Int))) = true := by rw [hk]; rfl
  have n3 : (!(q.k == (3 : Int))) = true := by rw [hk]; rfl
  have n4 : (!(q.k == (4 : Int))) = true := by rw [hk]; rfl
  have kk : (q.k == (5 : Int)) = true := by rw [hk]; rfl
  have ew : wrOk q = (fits q.p && fits q.t && fits q.x && fits q.y) := by unfold wrOk; rw [hk]; rfl
  have er : reqB q = by8 q.k :: (four q.p ++ four q.t ++ four q.x ++ four q.y) := by unfold reqB; rw [hk]; rfl
  have hn : (reqB q).length = 17 := by rw [er]; rfl
  have hB : (qB5 q) = gL (reqB q) := by unfold qB5; rw [er, wrap_by8, show (fun _ => (0 : Int)) = gL [] from rfl, gL_app' [] 0 rfl, gL_four _ 1 rfl, gL_four _ 5 rfl, gL_four _ 9 rfl, gL_four _ 13 rfl]; rfl
  have hr : rng (qB5 q) := by rw [hB]; exact rng_gL (byteL_reqB q)
  have hbo : (bareQ q).o = [] := by unfold bareQ; rw [hk]; rfl
  have hbw : (((((false || !byOk q.k) || !fits q.p) || !fits q.t) || !fits q.x) || !fits q.y) = !wrOk q := by rw [ew, hk]; cases fits q.p <;> cases fits q.t <;> cases fits q.x <;> cases fits q.y <;> rfl
  by_cases hw : wrOk q = true
  · have hR : rqR (qB5 q) 0 17 = (bareQ q, [], false) := by rw [hB, ← hn]; exact rq_back hw
    have hE : (rqR (qB5 q) 0 17).1.o.isEmpty = true := by rw [hR]; show (bareQ q).o.isEmpty = true; rw [hbo]; rfl
    have hb := not_eq (hbw.trans (by rw [hw]; rfl))
    have hX : (sfB q (rqR (qB5 q) 0 17).1) ↔ bareQ q = q := by rw [hR]; exact ⟨fun h => (qd_eq _ _).2 ⟨h, hbo.trans ho.symm⟩, fun h => ((qd_eq _ _).1 h).1⟩
    by_cases hs : bareQ q = q
    · have hS : (!!yes (sfB q (rqR (qB5 q) 0 17).1)) = true := notnot (yes_of (hX.2 hs))
      refine (Tr.go_eval ren_5f ⟨n1, n2, n6, n3, n4, kk, yes_of ⟨by unfold maxCells; omega, rfl, rfl⟩, yes_of ⟨by unfold maxCells; omega, rfl, rfl⟩, yes_of ⟨by unfold maxCells; omega, rfl, rfl⟩, hb, rfl, rfl, rfl, rfl, rfl, rfl, rfl, yes_of ⟨Nat.le_refl _, rfl, hr⟩, hE, rfl, rfl, rfl, hS, trivial⟩).trans ?_
      unfold reN; rw [if_pos ⟨hw, hs⟩, hn, ← hB]; all_goals rfl
    · have hS : (!yes (sfB q (rqR (qB5 q) 0 17).1)) = true := not_eq (yes_no fun h => hs (hX.1 h))
      refine (Tr.go_eval ren_5t ⟨n1, n2, n6, n3, n4, kk, yes_of ⟨by unfold maxCells; omega, rfl, rfl⟩, yes_of ⟨by unfold maxCells; omega, rfl, rfl⟩, yes_of ⟨by unfold maxCells; omega, rfl, rfl⟩, hb, rfl, rfl, rfl, rfl, rfl, rfl, rfl, yes_of ⟨Nat.le_refl _, rfl, hr⟩, hE, rfl, rfl, rfl, hS, trivial⟩).trans ?_
      unfold reN; rw [if_neg fun h => hs h.2]; all_goals rfl
  · have hb := hbw.trans (show (!wrOk q) = true by rw [Bool.not_eq_true] at hw; rw [hw]; rfl)
    refine (Tr.go_eval ren_5b ⟨n1, n2, n6, n3, n4, kk, yes_of ⟨by unfold maxCells; omega, rfl, rfl⟩, yes_of ⟨by unfold maxCells; omega, rfl, rfl⟩, yes_of ⟨by unfold maxCells; omega, rfl, rfl⟩, hb, rfl, rfl, rfl, rfl, rfl, rfl, rfl, rfl, rfl, rfl, rfl, trivial⟩).trans ?_
    unfold reN; rw [if_neg fun h => hw h.1]; all_goals rfl
theorem reN_x {q : Qd} (h1 : q.k ≠ 1) (h2 : q.k ≠ 2) (h6 : q.k ≠ 6) (h3 : q.k ≠ 3) (h4 : q.k ≠ 4) (h5 : q.k ≠ 5) : (lfun reG nol 60 Try.f101 [qV q (.v (.slice none 0 0))] []).eval = some (reN q) := by
  have n1 : (!(q.k == (1 : Int))) = true := not_eq (nb h1)
  have n2 : (!(q.k == (2 : Int))) = true := not_eq (nb h2)
  have n6 : (!(q.k == (6 : Int))) = true := not_eq (nb h6)
  have n3 : (!(q.k == (3 : Int))) = true := not_eq (nb h3)
  have n4 : (!(q.k == (4 : Int))) = true := not_eq (nb h4)
  have n5 : (!(q.k == (5 : Int))) = true := not_eq (nb h5)
  have hw : ¬ wrOk q = true := by unfold wrOk; rw [nb h1, nb h2, nb h6, nb h3, nb h4, nb h5]; exact Bool.false_ne_true
  refine (Tr.go_eval ren_x ⟨n1, n2, n6, n3, n4, n5, trivial⟩).trans ?_
  unfold reN; rw [if_neg fun h => hw h.1]; all_goals rfl
theorem reS_2 {q : Qd} {o : Bool} {c m : Nat} {P : Nat → Opp} (ho : q.o = opsP P c) (hk : q.k = 2) : (lfun reG nol 60 Try.f101 [qV q (.sl 0 0 c)] [rowP o m P]).eval = some (reS q o m P) := by
  have n1 : (!(q.k == (1 : Int))) = true := by rw [hk]; rfl
  have kk : (q.k == (2 : Int)) = true := by rw [hk]; rfl
  have ew : wrOk q = true := by unfold wrOk; rw [hk]; rfl
  have er : reqB q = by8 q.k :: ([]) := by unfold reqB; rw [hk]; rfl
  have hn : (reqB q).length = 1 := by rw [er]; rfl
  have hB : (qB2 q) = gL (reqB q) := by unfold qB2; rw [er, wrap_by8, show (fun _ => (0 : Int)) = gL [] from rfl, gL_app' [] 0 rfl]; rfl
  have hr : rng (qB2 q) := by rw [hB]; exact rng_gL (byteL_reqB q)
  have hbo : (bareQ q).o = [] := by unfold bareQ; rw [hk]; rfl
  have hbw : (false || !byOk q.k) = !wrOk q := by rw [ew, hk]; rfl
  by_cases hw : wrOk q = true
  · have hR : rqR (qB2 q) 0 1 = (bareQ q, [], false) := by rw [hB, ← hn]; exact rq_back hw
    have hE : (rqR (qB2 q) 0 1).1.o.isEmpty = true := by rw [hR]; show (bareQ q).o.isEmpty = true; rw [hbo]; rfl
    have hb := not_eq (hbw.trans (by rw [hw]; rfl))
    have hX : (sfB q (rqR (qB2 q) 0 1).1 ∧ c = 0) ↔ bareQ q = q := by
      rw [hR]; refine ⟨fun h => (qd_eq _ _).2 ⟨h.1, ?_⟩, fun h => ⟨((qd_eq _ _).1 h).1, ?_⟩⟩
      · rw [hbo, ho, h.2]; rfl
      · have h2 := ((qd_eq _ _).1 h).2; rw [hbo, ho] at h2; have h3 := congrArg List.length h2; rw [opsP_len] at h3; exact h3.symm
    by_cases hs : bareQ q = q
    · have hS : (!!yes (sfB q (rqR (qB2 q) 0 1).1 ∧ c = 0)) = true := notnot (yes_of (hX.2 hs))
      refine (Tr.go_eval res_2f ⟨n1, kk, rfl, hb, rfl, rfl, rfl, rfl, rfl, rfl, rfl, yes_of ⟨Nat.le_refl _, rfl, hr⟩, hE, rfl, yes_of rfl, rfl, rfl, hS, trivial⟩).trans ?_
      unfold reS; rw [if_pos ⟨hw, hs⟩, hn, ← hB]; all_goals rfl
    · have hS : (!yes (sfB q (rqR (qB2 q) 0 1).1 ∧ c = 0)) = true := not_eq (yes_no fun h => hs (hX.1 h))
      refine (Tr.go_eval res_2t ⟨n1, kk, rfl, hb, rfl, rfl, rfl, rfl, rfl, rfl, rfl, yes_of ⟨Nat.le_refl _, rfl, hr⟩, hE, rfl, yes_of rfl, rfl, rfl, hS, trivial⟩).trans ?_
      unfold reS; rw [if_neg fun h => hs h.2]; all_goals rfl
  · exact absurd ew hw
theorem reS_6 {q : Qd} {o : Bool} {c m : Nat} {P : Nat → Opp} (ho : q.o = opsP P c) (hk : q.k = 6) : (lfun reG nol 60 Try.f101 [qV q (.sl 0 0 c)] [rowP o m P]).eval = some (reS q o m P) := by
  have n1 : (!(q.k == (1 : Int))) = true := by rw [hk]; rfl
  have n2 : (!(q.k == (2 : Int))) = true := by rw [hk]; rfl
  have kk : (q.k == (6 : Int)) = true := by rw [hk]; rfl
  have ew : wrOk q = true := by unfold wrOk; rw [hk]; rfl
  have er : reqB q = by8 q.k :: ([]) := by unfold reqB; rw [hk]; rfl
  have hn : (reqB q).length = 1 := by rw [er]; rfl
  have hB : (qB6 q) = gL (reqB q) := by unfold qB6; rw [er, wrap_by8, show (fun _ => (0 : Int)) = gL [] from rfl, gL_app' [] 0 rfl]; rfl
  have hr : rng (qB6 q) := by rw [hB]; exact rng_gL (byteL_reqB q)
  have hbo : (bareQ q).o = [] := by unfold bareQ; rw [hk]; rfl
  have hbw : (false || !byOk q.k) = !wrOk q := by rw [ew, hk]; rfl
  by_cases hw : wrOk q = true
  · have hR : rqR (qB6 q) 0 1 = (bareQ q, [], false) := by rw [hB, ← hn]; exact rq_back hw
    have hE : (rqR (qB6 q) 0 1).1.o.isEmpty = true := by rw [hR]; show (bareQ q).o.isEmpty = true; rw [hbo]; rfl
    have hb := not_eq (hbw.trans (by rw [hw]; rfl))
    have hX : (sfB q (rqR (qB6 q) 0 1).1 ∧ c = 0) ↔ bareQ q = q := by
      rw [hR]; refine ⟨fun h => (qd_eq _ _).2 ⟨h.1, ?_⟩, fun h => ⟨((qd_eq _ _).1 h).1, ?_⟩⟩
      · rw [hbo, ho, h.2]; rfl
      · have h2 := ((qd_eq _ _).1 h).2; rw [hbo, ho] at h2; have h3 := congrArg List.length h2; rw [opsP_len] at h3; exact h3.symm
    by_cases hs : bareQ q = q
    · have hS : (!!yes (sfB q (rqR (qB6 q) 0 1).1 ∧ c = 0)) = true := notnot (yes_of (hX.2 hs))
      refine (Tr.go_eval res_6f ⟨n1, n2, kk, hb, rfl, rfl, rfl, rfl, rfl, rfl, rfl, yes_of ⟨Nat.le_refl _, rfl, hr⟩, hE, rfl, yes_of rfl, rfl, rfl, hS, trivial⟩).trans ?_
      unfold reS; rw [if_pos ⟨hw, hs⟩, hn, ← hB]; all_goals rfl
    · have hS : (!yes (sfB q (rqR (qB6 q) 0 1).1 ∧ c = 0)) = true := not_eq (yes_no fun h => hs (hX.1 h))
      refine (Tr.go_eval res_6t ⟨n1, n2, kk, hb, rfl, rfl, rfl, rfl, rfl, rfl, rfl, yes_of ⟨Nat.le_refl _, rfl, hr⟩, hE, rfl, yes_of rfl, rfl, rfl, hS, trivial⟩).trans ?_
      unfold reS; rw [if_neg fun h => hs h.2]; all_goals rfl
  · exact absurd ew hw
theorem reS_3 {q : Qd} {o : Bool} {c m : Nat} {P : Nat → Opp} (ho : q.o = opsP P c) (hk : q.k = 3) : (lfun reG nol 60 Try.f101 [qV q (.sl 0 0 c)] [rowP o m P]).eval = some (reS q o m P) := by
  have n1 : (!(q.k == (1 : Int))) = true := by rw [hk]; rfl
  have n2 : (!(q.k == (2 : Int))) = true := by rw [hk]; rfl
  have n6 : (!(q.k == (6 : Int))) = true := by rw [hk]; rfl
  have kk : (q.k == (3 : Int)) = true := by rw [hk]; rfl
  have ew : wrOk q = (fits q.p && fits q.t) := by unfold wrOk; rw [hk]; rfl
  have er : reqB q = by8 q.k :: (four q.p ++ four q.t) := by unfold reqB; rw [hk]; rfl
  have hn : (reqB q).length = 9 := by rw [er]; rfl
  have hB : (qB3 q) = gL (reqB q) := by unfold qB3; rw [er, wrap_by8, show (fun _ => (0 : Int)) = gL [] from rfl, gL_app' [] 0 rfl, gL_four _ 1 rfl, gL_four _ 5 rfl]; rfl
  have hr : rng (qB3 q) := by rw [hB]; exact rng_gL (byteL_reqB q)
  have hbo : (bareQ q).o = [] := by unfold bareQ; rw [hk]; rfl
  have hbw : (((false || !byOk q.k) || !fits q.p) || !fits q.t) = !wrOk q := by rw [ew, hk]; cases fits q.p <;> cases fits q.t <;> rfl
  by_cases hw : wrOk q = true
  · have hR : rqR (qB3 q) 0 9 = (bareQ q, [], false) := by rw [hB, ← hn]; exact rq_back hw
    have hE : (rqR (qB3 q) 0 9).1.o.isEmpty = true := by rw [hR]; show (bareQ q).o.isEmpty = true; rw [hbo]; rfl
    have hb := not_eq (hbw.trans (by rw [hw]; rfl))
    have hX : (sfB q (rqR (qB3 q) 0 9).1 ∧ c = 0) ↔ bareQ q = q := by
      rw [hR]; refine ⟨fun h => (qd_eq _ _).2 ⟨h.1, ?_⟩, fun h => ⟨((qd_eq _ _).1 h).1, ?_⟩⟩
      · rw [hbo, ho, h.2]; rfl
      · have h2 := ((qd_eq _ _).1 h).2; rw [hbo, ho] at h2; have h3 := congrArg List.length h2; rw [opsP_len] at h3; exact h3.symm
    by_cases hs : bareQ q = q
    · have hS : (!!yes (sfB q (rqR (qB3 q) 0 9).1 ∧ c = 0)) = true := notnot (yes_of (hX.2 hs))
      refine (Tr.go_eval res_3f ⟨n1, n2, n6, kk, yes_of ⟨by unfold maxCells; omega, rfl, rfl⟩, hb, rfl, rfl, rfl, rfl, rfl, rfl, rfl, yes_of ⟨Nat.le_refl _, rfl, hr⟩, hE, rfl, yes_of rfl, rfl, rfl, hS, trivial⟩).trans ?_
      unfold reS; rw [if_pos ⟨hw, hs⟩, hn, ← hB]; all_goals rfl
    · have hS : (!yes (sfB q (rqR (qB3 q) 0 9).1 ∧ c = 0)) = true := not_eq (yes_no fun h => hs (hX.1 h))
      refine (Tr.go_eval res_3t ⟨n1, n2, n6, kk, yes_of ⟨by unfold maxCells; omega, rfl, rfl⟩, hb, rfl, rfl, rfl, rfl, rfl, rfl, rfl, yes_of ⟨Nat.le_refl _, rfl, hr⟩, hE, rfl, yes_of rfl, rfl, rfl, hS, trivial⟩).trans ?_
      unfold reS; rw [if_neg fun h => hs h.2]; all_goals rfl
  · have hb := hbw.trans (show (!wrOk q) = true by rw [Bool.not_eq_true] at hw; rw [hw]; rfl)
    refine (Tr.go_eval res_3b ⟨n1, n2, n6, kk, yes_of ⟨by unfold maxCells; omega, rfl, rfl⟩, hb, rfl, rfl, rfl, rfl, rfl, rfl, rfl, rfl, rfl, rfl, rfl, trivial⟩).trans ?_
    unfold reS; rw [if_neg fun h => hw h.1]; all_goals rfl
theorem reS_4 {q : Qd} {o : Bool} {c m : Nat} {P : Nat → Opp} (ho : q.o = opsP P c) (hk : q.k = 4) : (lfun reG nol 60 Try.f101 [qV q (.sl 0 0 c)] [rowP o m P]).eval = some (reS q o m P) := by
  have n1 : (!(q.k == (1 : Int))) = true := by rw [hk]; rfl
  have n2 : (!(q.k == (2 : Int))) = true := by rw [hk]; rfl
  have n6 : (!(q.k == (6 : Int))) = true := by rw [hk]; rfl
  have n3 : (!(q.k == (3 : Int))) = true := by rw [hk]; rfl
  have kk : (q.k == (4 : Int)) = true := by rw [hk]; rfl
  have ew : wrOk q = (fits q.p && fits q.t && fits q.n) := by unfold wrOk; rw [hk]; rfl
  have er : reqB q = by8 q.k :: (four q.p ++ four q.t ++ four q.n) := by unfold reqB; rw [hk]; rfl
  have hn : (reqB q).length = 13 := by rw [er]; rfl
  have hB : (qB4 q) = gL (reqB q) := by unfold qB4; rw [er, wrap_by8, show (fun _ => (0 : Int)) = gL [] from rfl, gL_app' [] 0 rfl, gL_four _ 1 rfl, gL_four _ 5 rfl, gL_four _ 9 rfl]; rfl
  have hr : rng (qB4 q) := by rw [hB]; exact rng_gL (byteL_reqB q)
  have hbo : (bareQ q).o = [] := by unfold bareQ; rw [hk]; rfl
  have hbw : ((((false || !byOk q.k) || !fits q.p) || !fits q.t) || !fits q.n) = !wrOk q := by rw [ew, hk]; cases fits q.p <;> cases fits q.t <;> cases fits q.n <;> rfl
  by_cases hw : wrOk q = true
  · have hR : rqR (qB4 q) 0 13 = (bareQ q, [], false) := by rw [hB, ← hn]; exact rq_back hw
    have hE : (rqR (qB4 q) 0 13).1.o.isEmpty = true := by rw [hR]; show (bareQ q).o.isEmpty = true; rw [hbo]; rfl
    have hb := not_eq (hbw.trans (by rw [hw]; rfl))
    have hX : (sfB q (rqR (qB4 q) 0 13).1 ∧ c = 0) ↔ bareQ q = q := by
      rw [hR]; refine ⟨fun h => (qd_eq _ _).2 ⟨h.1, ?_⟩, fun h => ⟨((qd_eq _ _).1 h).1, ?_⟩⟩
      · rw [hbo, ho, h.2]; rfl
      · have h2 := ((qd_eq _ _).1 h).2; rw [hbo, ho] at h2; have h3 := congrArg List.length h2; rw [opsP_len] at h3; exact h3.symm
    by_cases hs : bareQ q = q
    · have hS : (!!yes (sfB q (rqR (qB4 q) 0 13).1 ∧ c = 0)) = true := notnot (yes_of (hX.2 hs))
      refine (Tr.go_eval res_4f ⟨n1, n2, n6, n3, kk, yes_of ⟨by unfold maxCells; omega, rfl, rfl⟩, yes_of ⟨by unfold maxCells; omega, rfl, rfl⟩, hb, rfl, rfl, rfl, rfl, rfl, rfl, rfl, yes_of ⟨Nat.le_refl _, rfl, hr⟩, hE, rfl, yes_of rfl, rfl, rfl, hS, trivial⟩).trans ?_
      unfold reS; rw [if_pos ⟨hw, hs⟩, hn, ← hB]; all_goals rfl
    · have hS : (!yes (sfB q (rqR (qB4 q) 0 13).1 ∧ c = 0)) = true := not_eq (yes_no fun h => hs (hX.1 h))
      refine (Tr.go_eval res_4t ⟨n1, n2, n6, n3, kk, yes_of ⟨by unfold maxCells; omega, rfl, rfl⟩, yes_of ⟨by unfold maxCells; omega, rfl, rfl⟩, hb, rfl, rfl, rfl, rfl, rfl, rfl, rfl, yes_of ⟨Nat.le_refl _, rfl, hr⟩, hE, rfl, yes_of rfl, rfl, rfl, hS, trivial⟩).trans ?_
      unfold reS; rw [if_neg fun h => hs h.2]; all_goals rfl
  · have hb := hbw.trans (show (!wrOk q) = true by rw [Bool.not_eq_true] at hw; rw [hw]; rfl)
    refine (Tr.go_eval res_4b ⟨n1, n2, n6, n3, kk, yes_of ⟨by unfold maxCells; omega, rfl, rfl⟩, yes_of ⟨by unfold maxCells; omega, rfl, rfl⟩, hb, rfl, rfl, rfl, rfl, rfl, rfl, rfl, rfl, rfl, rfl, rfl, trivial⟩).trans ?_
    unfold reS; rw [if_neg fun h => hw h.1]; all_goals rfl
theorem reS_5 {q : Qd} {o : Bool} {c m : Nat} {P : Nat → Opp} (ho : q.o = opsP P c) (hk : q.k = 5) : (lfun reG nol 60 Try.f101 [qV q (.sl 0 0 c)] [rowP o m P]).eval = some (reS q o m P) := by
  have n1 : (!(q.k == (1 : Int))) = true := by rw [hk]; rfl
  have n2 : (!(q.k == (2 : Int))) = true := by rw [hk]; rfl
  have n6 : (!(q.k == (6 : Int))) = true := by rw [hk]; rfl
  have n3 : (!(q.k == (3 : Int))) = true := by rw [hk]; rfl
  have n4 : (!(q.k == (4 : Int))) = true := by rw [hk]; rfl
  have kk : (q.k == (5 : Int)) = true := by rw [hk]; rfl
  have ew : wrOk q = (fits q.p && fits q.t && fits q.x && fits q.y) := by unfold wrOk; rw [hk]; rfl
  have er : reqB q = by8 q.k :: (four q.p ++ four q.t ++ four q.x ++ four q.y) := by unfold reqB; rw [hk]; rfl
  have hn : (reqB q).length = 17 := by rw [er]; rfl
  have hB : (qB5 q) = gL (reqB q) := by unfold qB5; rw [er, wrap_by8, show (fun _ => (0 : Int)) = gL [] from rfl, gL_app' [] 0 rfl, gL_four _ 1 rfl, gL_four _ 5 rfl, gL_four _ 9 rfl, gL_four _ 13 rfl]; rfl
  have hr : rng (qB5 q) := by rw [hB]; exact rng_gL (byteL_reqB q)
  have hbo : (bareQ q).o = [] := by unfold bareQ; rw [hk]; rfl
  have hbw : (((((false || !byOk q.k) || !fits q.p) || !fits q.t) || !fits q.x) || !fits q.y) = !wrOk q := by rw [ew, hk]; cases fits q.p <;> cases fits q.t <;> cases fits q.x <;> cases fits q.y <;> rfl
  by_cases hw : wrOk q = true
  · have hR : rqR (qB5 q) 0 17 = (bareQ q, [], false) := by rw [hB, ← hn]; exact rq_back hw
    have hE : (rqR (qB5 q) 0 17).1.o.isEmpty = true := by rw [hR]; show (bareQ q).o.isEmpty = true; rw [hbo]; rfl
    have hb := not_eq (hbw.trans (by rw [hw]; rfl))
    have hX : (sfB q (rqR (qB5 q) 0 17).1 ∧ c = 0) ↔ bareQ q = q := by
      rw [hR]; refine ⟨fun h => (qd_eq _ _).2 ⟨h.1, ?_⟩, fun h => ⟨((qd_eq _ _).1 h).1, ?_⟩⟩
      · rw [hbo, ho, h.2]; rfl
      · have h2 := ((qd_eq _ _).1 h).2; rw [hbo, ho] at h2; have h3 := congrArg List.length h2; rw [opsP_len] at h3; exact h3.symm
    by_cases hs : bareQ q = q
    · have hS : (!!yes (sfB q (rqR (qB5 q) 0 17).1 ∧ c = 0)) = true := notnot (yes_of (hX.2 hs))
      refine (Tr.go_eval res_5f ⟨n1, n2, n6, n3, n4, kk, yes_of ⟨by unfold maxCells; omega, rfl, rfl⟩, yes_of ⟨by unfold maxCells; omega, rfl, rfl⟩, yes_of ⟨by unfold maxCells; omega, rfl, rfl⟩, hb, rfl, rfl, rfl, rfl, rfl, rfl, rfl, yes_of ⟨Nat.le_refl _, rfl, hr⟩, hE, rfl, yes_of rfl, rfl, rfl, hS, trivial⟩).trans ?_
      unfold reS; rw [if_pos ⟨hw, hs⟩, hn, ← hB]; all_goals rfl
    · have hS : (!yes (sfB q (rqR (qB5 q) 0 17).1 ∧ c = 0)) = true := not_eq (yes_no fun h => hs (hX.1 h))
      refine (Tr.go_eval res_5t ⟨n1, n2, n6, n3, n4, kk, yes_of ⟨by unfold maxCells; omega, rfl, rfl⟩, yes_of ⟨by unfold maxCells; omega, rfl, rfl⟩, yes_of ⟨by unfold maxCells; omega, rfl, rfl⟩, hb, rfl, rfl, rfl, rfl, rfl, rfl, rfl, yes_of ⟨Nat.le_refl _, rfl, hr⟩, hE, rfl, yes_of rfl, rfl, rfl, hS, trivial⟩).trans ?_
      unfold reS; rw [if_neg fun h => hs h.2]; all_goals rfl
  · have hb := hbw.trans (show (!wrOk q) = true by rw [Bool.not_eq_true] at hw; rw [hw]; rfl)
    refine (Tr.go_eval res_5b ⟨n1, n2, n6, n3, n4, kk, yes_of ⟨by unfold maxCells; omega, rfl, rfl⟩, yes_of ⟨by unfold maxCells; omega, rfl, rfl⟩, yes_of ⟨by unfold maxCells; omega, rfl, rfl⟩, hb, rfl, rfl, rfl, rfl, rfl, rfl, rfl, rfl, rfl, rfl, rfl, trivial⟩).trans ?_
    unfold reS; rw [if_neg fun h => hw h.1]; all_goals rfl
theorem reS_x {q : Qd} {o : Bool} {c m : Nat} {P : Nat → Opp} (h1 : q.k ≠ 1) (h2 : q.k ≠ 2) (h6 : q.k ≠ 6) (h3 : q.k ≠ 3) (h4 : q.k ≠ 4) (h5 : q.k ≠ 5) : (lfun reG nol 60 Try.f101 [qV q (.sl 0 0 c)] [rowP o m P]).eval = some (reS q o m P) := by
  have n1 : (!(q.k == (1 : Int))) = true := not_eq (nb h1)
  have n2 : (!(q.k == (2 : Int))) = true := not_eq (nb h2)
  have n6 : (!(q.k == (6 : Int))) = true := not_eq (nb h6)
  have n3 : (!(q.k == (3 : Int))) = true := not_eq (nb h3)
  have n4 : (!(q.k == (4 : Int))) = true := not_eq (nb h4)
  have n5 : (!(q.k == (5 : Int))) = true := not_eq (nb h5)
  have hw : ¬ wrOk q = true := by unfold wrOk; rw [nb h1, nb h2, nb h6, nb h3, nb h4, nb h5]; exact Bool.false_ne_true
  refine (Tr.go_eval res_x ⟨n1, n2, n6, n3, n4, n5, trivial⟩).trans ?_
  unfold reS; rw [if_neg fun h => hw h.1]; all_goals rfl
theorem reN_1 {q : Qd} (ho : q.o = []) (hk : q.k = 1) : (lfun reG nol 60 Try.f101 [qV q (.v (.slice none 0 0))] []).eval = some (reN q) := by
  have kk : (q.k == (1 : Int)) = true := by rw [hk]; rfl
  have hw : wrOk q = true := by unfold wrOk; rw [hk, ho]; rfl
  have er : reqB q = [by8 q.k, by8 ((0 : Nat) : Int)] := by unfold reqB; rw [hk, ho]; rfl
  have hn : (reqB q).length = 2 := by rw [er]; rfl
  have hB : (qB1 q) = gL (reqB q) := by unfold qB1; rw [er, wrap_by8, wrap_by8, show (fun _ => (0 : Int)) = gL [] from rfl, gL_app' [] 0 rfl, gL_app' _ 1 rfl]; rfl
  have hr : rng (qB1 q) := by rw [hB]; exact rng_gL (byteL_reqB q)
  have hbo : (bareQ q).o = [] := by unfold bareQ; rw [hk, ho]; rfl
  have hb : (!(false || !byOk q.k)) = true := by rw [hk]; rfl
  have hR : rqR (qB1 q) 0 2 = (bareQ q, [], false) := by rw [hB, ← hn]; exact rq_back hw
  have hE : (rqR (qB1 q) 0 2).1.o.isEmpty = true := by rw [hR]; show (bareQ q).o.isEmpty = true; rw [hbo]; rfl
  have hX : (sfB q (rqR (qB1 q) 0 2).1) ↔ bareQ q = q := by rw [hR]; exact ⟨fun h => (qd_eq _ _).2 ⟨h, hbo.trans ho.symm⟩, fun h => ((qd_eq _ _).1 h).1⟩
  by_cases hs : bareQ q = q
  · have hS : (!!yes (sfB q (rqR (qB1 q) 0 2).1)) = true := notnot (yes_of (hX.2 hs))
    refine (Tr.go_eval ren_1f ⟨kk, yes_of ⟨by unfold maxCells; omega, rfl, rfl⟩, hb, rfl, rfl, rfl, rfl, rfl, rfl, rfl, yes_of ⟨Nat.le_refl _, rfl, hr⟩, hE, rfl, rfl, rfl, hS, trivial⟩).trans ?_
    unfold reN; rw [if_pos ⟨hw, hs⟩, hn, ← hB]; all_goals rfl
  · have hS : (!yes (sfB q (rqR (qB1 q) 0 2).1)) = true := not_eq (yes_no fun h => hs (hX.1 h))
    refine (Tr.go_eval ren_1t ⟨kk, yes_of ⟨by unfold maxCells; omega, rfl, rfl⟩, hb, rfl, rfl, rfl, rfl, rfl, rfl, rfl, yes_of ⟨Nat.le_refl _, rfl, hr⟩, hE, rfl, rfl, rfl, hS, trivial⟩).trans ?_
    unfold reN; rw [if_neg fun h => hs h.2]; all_goals rfl
theorem reS_1 {q : Qd} {o : Bool} {m : Nat} {P : Nat → Opp} (ho : q.o = opsP P m) (hk : q.k = 1) (hW : wqLen P 2 m ≤ maxCells) : (lfun reG nol 60 Try.f101 [qV q (.sl 0 0 m)] [rowP o m P]).eval = some (reS q o m P) := by
  have kk : (q.k == (1 : Int)) = true := by rw [hk]; rfl
  obtain ⟨hn, hB0⟩ := wq_ops P m q hk ho
  have hB : qBS P m q = gL (reqB q) := hB0
  have hr : rng (qBS P m q) := by rw [hB]; exact rng_gL (byteL_reqB q)
  have hbo : (bareQ q).o = opsP P m := by unfold bareQ; rw [hk, ho]; rfl
  have hbw := wqBad_ops P m q hk ho
  by_cases hw : wrOk q = true
  · have hR : rqR (qBS P m q) 0 (wqLen P 2 m) = (bareQ q, [], false) := by rw [hB, hn]; exact rq_back hw
    have hb := not_eq (hbw.trans (by rw [hw]; rfl))
    have hq : (sameF (bareQ q) q) ↔ bareQ q = q := ⟨fun h => (qd_eq _ _).2 ⟨h, hbo.trans ho.symm⟩, fun h => ((qd_eq _ _).1 h).1⟩
    by_cases hm : m = 0
    · have hE : (rqR (qBS P m q) 0 (wqLen P 2 m)).1.o.isEmpty = true := by rw [hR]; show (bareQ q).o.isEmpty = true; rw [hbo, hm]; rfl
      have hX : (sfB q (rqR (qBS P m q) 0 (wqLen P 2 m)).1 ∧ m = 0) ↔ bareQ q = q := by rw [hR]; exact ⟨fun h => hq.1 h.1, fun h => ⟨hq.2 h, hm⟩⟩
      by_cases hs : bareQ q = q
      · have hS : (!!yes (sfB q (rqR (qBS P m q) 0 (wqLen P 2 m)).1 ∧ m = 0)) = true := notnot (yes_of (hX.2 hs))
        refine (Tr.go_eval res_1f ⟨kk, yes_of ⟨rfl, rfl, rfl, rfl, hW⟩, hb, rfl, rfl, rfl, rfl, rfl, rfl, rfl, yes_of ⟨Nat.le_of_eq (Nat.zero_add _), rfl, hr⟩, hE, rfl, yes_of rfl, rfl, rfl, hS, trivial⟩).trans ?_
        unfold reS; rw [if_pos ⟨hw, hs⟩, ← hn, ← hB]; all_goals rfl
      · have hS : (!yes (sfB q (rqR (qBS P m q) 0 (wqLen P 2 m)).1 ∧ m = 0)) = true := not_eq (yes_no fun h => hs (hX.1 h))
        refine (Tr.go_eval res_1t ⟨kk, yes_of ⟨rfl, rfl, rfl, rfl, hW⟩, hb, rfl, rfl, rfl, rfl, rfl, rfl, rfl, yes_of ⟨Nat.le_of_eq (Nat.zero_add _), rfl, hr⟩, hE, rfl, yes_of rfl, rfl, rfl, hS, trivial⟩).trans ?_
        unfold reS; rw [if_neg fun h => hs h.2]; all_goals rfl
    · have hE : (!(rqR (qBS P m q) 0 (wqLen P 2 m)).1.o.isEmpty) = true := by
        rw [hR]; show (!(bareQ q).o.isEmpty) = true; rw [hbo]
        cases m with
        | zero => exact absurd rfl hm
        | succ m => simp [opsP]
      have hol : (rqR (qBS P m q) 0 (wqLen P 2 m)).1.o.length = m := by rw [hR]; show (bareQ q).o.length = m; rw [hbo, opsP_len]
      have hlt : (rqR (qBS P m q) 0 (wqLen P 2 m)).1.o.length < 2 ^ 60 := by
        rw [hol]
        have h6 := wqLen_le P 2 0 m
        rw [Nat.zero_add] at h6
        have hM : maxCells < 2 ^ 60 := by unfold maxCells; omega
        omega
      have hX : (sfB q (rqR (qBS P m q) 0 (wqLen P 2 m)).1 ∧ (rqR (qBS P m q) 0 (wqLen P 2 m)).1.o.length = m ∧ ∀ t, t < (rqR (qBS P m q) 0 (wqLen P 2 m)).1.o.length → gP (rqR (qBS P m q) 0 (wqLen P 2 m)).1.o t = P t) ↔ bareQ q = q := by
        rw [hol]; rw [hR]
        refine ⟨fun h => hq.1 h.1, fun h => ⟨hq.2 h, rfl, fun t ht => ?_⟩⟩
        show gP (bareQ q).o t = P t
        rw [hbo]; exact (opsP_gP P m t ht).symm
      by_cases hs : bareQ q = q
      · have hS : (!!yes (sfB q (rqR (qBS P m q) 0 (wqLen P 2 m)).1 ∧ (rqR (qBS P m q) 0 (wqLen P 2 m)).1.o.length = m ∧ ∀ t, t < (rqR (qBS P m q) 0 (wqLen P 2 m)).1.o.length → gP (rqR (qBS P m q) 0 (wqLen P 2 m)).1.o t = P t)) = true := notnot (yes_of (hX.2 hs))
        refine (Tr.go_eval res_1F ⟨kk, yes_of ⟨rfl, rfl, rfl, rfl, hW⟩, hb, rfl, rfl, rfl, rfl, rfl, rfl, rfl, yes_of ⟨Nat.le_of_eq (Nat.zero_add _), rfl, hr⟩, hE, rfl, yes_of ⟨Nat.le_refl _, Nat.le_refl _, hlt, rfl, rfl⟩, rfl, rfl, hS, trivial⟩).trans ?_
        unfold reS; rw [if_pos ⟨hw, hs⟩, ← hn, ← hB]; all_goals rfl
      · have hS : (!yes (sfB q (rqR (qBS P m q) 0 (wqLen P 2 m)).1 ∧ (rqR (qBS P m q) 0 (wqLen P 2 m)).1.o.length = m ∧ ∀ t, t < (rqR (qBS P m q) 0 (wqLen P 2 m)).1.o.length → gP (rqR (qBS P m q) 0 (wqLen P 2 m)).1.o t = P t)) = true := not_eq (yes_no fun h => hs (hX.1 h))
        refine (Tr.go_eval res_1T ⟨kk, yes_of ⟨rfl, rfl, rfl, rfl, hW⟩, hb, rfl, rfl, rfl, rfl, rfl, rfl, rfl, yes_of ⟨Nat.le_of_eq (Nat.zero_add _), rfl, hr⟩, hE, rfl, yes_of ⟨Nat.le_refl _, Nat.le_refl _, hlt, rfl, rfl⟩, rfl, rfl, hS, trivial⟩).trans ?_
        unfold reS; rw [if_neg fun h => hs h.2]; all_goals rfl
  · have hb := hbw.trans (show (!wrOk q) = true by rw [Bool.not_eq_true] at hw; rw [hw]; rfl)
    refine (Tr.go_eval res_1b ⟨kk, yes_of ⟨rfl, rfl, rfl, rfl, hW⟩, hb, rfl, rfl, rfl, rfl, rfl, rfl, rfl, rfl, rfl, rfl, rfl, trivial⟩).trans ?_
    unfold reS; rw [if_neg fun h => hw h.1]; all_goals rfl
end
section
open Go Go.RowKit
def SameB : Option ABlk → Option ABlk → Prop
  | none, none => True
  | some b, some b' => b.t = b'.t ∧ b.own = b'.own ∧ b.c.sz = b'.c.sz ∧ b.c.n = b'.c.n ∧ ∀ i, i < b.c.n → b.c.el i = b'.c.el i
  | _, _ => False
theorem SameB.refl : ∀ b, SameB b b
  | none => trivial
  | some b => ⟨rfl, rfl, rfl, rfl, fun _ _ => rfl⟩
theorem SameB.symm : ∀ {b b'}, SameB b b' → SameB b' b
  | none, none, _ => trivial
  | some b, some b', ⟨h1, h2, h3, h4, h5⟩ => ⟨h1.symm, h2.symm, h3.symm, h4.symm, fun i hi => (h5 i (by rw [h4]; exact hi)).symm⟩
def SameH (h h' : AHeap) : Prop := F2 SameB h h'
theorem SameH.refl : ∀ h, SameH h h
  | [] => .nil
  | b :: h => .cons (SameB.refl b) (SameH.refl h)
theorem SameH.symm {h h' : AHeap} (H : SameH h h') : SameH h' h := by
  induction H with
  | nil => exact .nil
  | cons hr _ ih => exact .cons hr.symm ih
theorem SameH.get {h h' : AHeap} (H : SameH h h') {id : Nat} {b' : ABlk} (hb : h'[id]? = some (some b')) : ∃ b, h[id]? = some (some b) ∧ SameB (some b) (some b') := by
  obtain ⟨o, h1, h2⟩ := F2.get (SameH.symm H) id _ hb
  match o, h2 with
  | some b, h2 => exact ⟨b, h1, SameB.symm h2⟩
theorem BR.same {B : Nat} {m : List Pl} {b b' : ABlk} {p : Pl} {w : World} (h : SameB (some b) (some b')) (H : BR B m b p w) : BR B m b' p w := by
  obtain ⟨h1, h2, h3, h4, h5⟩ := h
  constructor
  · rw [H.sz, h3]
  · intro i hi
    rw [← h5 i (by rw [h4]; exact hi)]
    exact H.len i (by rw [h4]; exact hi)
  · rw [← h4]; exact H.cap
  · intro i j c hi hc
    rw [← h5 i (by rw [h4]; exact hi)] at hc
    exact H.cell i j c (by rw [h4]; exact hi) hc
  · intro ho
    rw [← h1]
    exact H.own (by rw [h2]; exact ho)
  · intro ho A hA h0
    exact H.came (by rw [h2]; exact ho) A hA (by rw [h4]; exact h0)
theorem HR.same {B : Nat} {m : List Pl} {h h' : AHeap} {w : World} (e : SameH h h') (H : HR B m h w) : HR B m h' w := by
  constructor
  · rw [H.len]; exact e.length
  · intro id b p hb hp
    obtain ⟨b0, h1, h2⟩ := e.get hb
    exact (H.blk id b0 p h1 hp).same h2
  · intro id id' b b' p p' A A' hne hb hb' ho ho' hp hp' hA hA'
    obtain ⟨b0, h1, h2⟩ := e.get hb
    obtain ⟨b1, h3, h4⟩ := e.get hb'
    exact H.apart id id' b0 b1 p p' A A' hne h1 h3 (by rw [h2.2.1]; exact ho) (by rw [h4.2.1]; exact ho') hp hp' hA hA'
theorem Own.same {m : List Pl} {h h' : AHeap} {k : Nat} (e : SameH h h') (H : Own m h' k) : Own m h k := by
  obtain ⟨id, b, p, A, hb, ho, hp, hA, hk⟩ := H
  obtain ⟨b0, h1, h2⟩ := e.get hb
  exact ⟨id, b0, p, A, h1, by rw [h2.2.1]; exact ho, hp, hA, hk⟩
theorem SpecOk.same {P : Program} {f : FuncId} {F F' : Spec} (hF : SpecOk P f F) (h : ∀ args H r H', (F' args H).eval = some (r, H') → ∃ H1 H1', SameH H1 H ∧ SameH H1' H' ∧ (F args H1).eval = some (r, H1')) : SpecOk P f F' := by
  intro B args H r H' he m w vals hH hB hv
  obtain ⟨H1, H1', e1, e2, he1⟩ := h args H r H' he
  refine (hF B args H1 r H1' he1 m w vals (hH.same e1.symm) hB hv).mono fun e w' ⟨m', x, h1, hst, hr⟩ => ⟨m', x, h1, ?_, hr⟩
  refine ⟨hst.ext, hst.hr.same e2, ⟨hst.fr.os, hst.fr.tape, hst.fr.output, hst.fr.size, fun k hk hx => hst.fr.blk k hk fun hy => hx (hy.same e1.symm)⟩, fun k hk => ?_⟩
  rcases hst.own k (hk.same e2) with h2 | h2
  · exact .inl (h2.same e1.symm)
  · exact .inr h2
end
section
open Go Go.RowKit
noncomputable def reF0 : Spec := fun args h => match args, h with
  | [.agg [.v (.int .i64 k), .v (.int .i64 n), .v (.int .i64 p), .v (.int .i64 t), .v (.int .i64 x), .v (.int .i64 y), .v (.slice none 0 0)]], [] =>
    .ite (yes (reqOk ⟨k, n, p, t, x, y, []⟩))
      (.ret (.tup [.c (.sl 0 0 (reqB ⟨k, n, p, t, x, y, []⟩).length), Bo true], [rowU true (reqB ⟨k, n, p, t, x, y, []⟩).length (gL (reqB ⟨k, n, p, t, x, y, []⟩))]))
      (.ret (.tup [.c (.v (.slice none 0 0)), Bo false], []))
  | [.agg [.v (.int .i64 k), .v (.int .i64 n), .v (.int .i64 p), .v (.int .i64 t), .v (.int .i64 x), .v (.int .i64 y), .sl 0 0 c]], [some ⟨121, o, .row 5 m f⟩] =>
    .need (yes ((f = fun j => encO (decO (f j))) ∧ (k = 1 → c = m ∧ wqLen (fun j => decO (f j)) 2 m ≤ maxCells)))
    (.ite (yes (reqOk ⟨k, n, p, t, x, y, opsP (fun j => decO (f j)) c⟩))
      (.ret (.tup [.c (.sl 1 0 (reqB ⟨k, n, p, t, x, y, opsP (fun j => decO (f j)) c⟩).length), Bo true], [rowP o m (fun j => decO (f j)), rowU true (reqB ⟨k, n, p, t, x, y, opsP (fun j => decO (f j)) c⟩).length (gL (reqB ⟨k, n, p, t, x, y, opsP (fun j => decO (f j)) c⟩))]))
      (.ret (.tup [.c (.v (.slice none 0 0)), Bo false], [rowP o m (fun j => decO (f j))])))
  | _, _ => .fail
theorem reN_all {q : Qd} (ho : q.o = []) : (lfun reG nol 60 Try.f101 [qV q (.v (.slice none 0 0))] []).eval = some (reN q) := by
  by_cases h1 : q.k = 1
  · exact reN_1 ho h1
  by_cases h2 : q.k = 2
  · exact reN_2 ho h2
  by_cases h6 : q.k = 6
  · exact reN_6 ho h6
  by_cases h3 : q.k = 3
  · exact reN_3 ho h3
  by_cases h4 : q.k = 4
  · exact reN_4 ho h4
  by_cases h5 : q.k = 5
  · exact reN_5 ho h5
  · exact reN_x h1 h2 h6 h3 h4 h5
theorem reS_all {q : Qd} {o : Bool} {c m : Nat} {P : Nat → Opp} (ho : q.o = opsP P c) (hW : q.k = 1 → c = m ∧ wqLen P 2 m ≤ maxCells) : (lfun reG nol 60 Try.f101 [qV q (.sl 0 0 c)] [rowP o m P]).eval = some (reS q o m P) := by
  by_cases h1 : q.k = 1
  · obtain ⟨rfl, hW⟩ := hW h1
    exact reS_1 ho h1 hW
  by_cases h2 : q.k = 2
  · exact reS_2 ho h2
  by_cases h6 : q.k = 6
  · exact reS_6 ho h6
  by_cases h3 : q.k = 3
  · exact reS_3 ho h3
  by_cases h4 : q.k = 4
  · exact reS_4 ho h4
  by_cases h5 : q.k = 5
  · exact reS_5 ho h5
  · exact reS_x h1 h2 h6 h3 h4 h5
theorem reF0_ok : SpecOk Try.prog 101 reF0 := by
  refine knownS KRE_ok Try.func101 fun args h r he => ?_
  unfold reF0 at he
  split at he
  · rename_i k n p t x y
    refine ⟨(fun _ => []), [], 60, nol, noLoopsS, (reN_all (q := ⟨k, n, p, t, x, y, []⟩) rfl).trans ?_⟩
    unfold reN
    by_cases hr : reqOk ⟨k, n, p, t, x, y, []⟩
    · rw [if_pos hr]; rw [yes_of hr] at he; exact he
    · rw [if_neg hr]; rw [yes_no hr] at he; exact he
  · rename_i k n p t x y c o m f
    obtain ⟨⟨h1, h2⟩, he'⟩ := Tr.eval_ask.1 he
    have e1 : some ⟨121, o, .row 5 m f⟩ = rowP o m fun j => decO (f j) := by rw [rowP, ← h1]
    rw [e1]
    refine ⟨(fun _ => []), [], 60, nol, noLoopsS, (reS_all (q := ⟨k, n, p, t, x, y, opsP (fun j => decO (f j)) c⟩) rfl h2).trans ?_⟩
    unfold reS
    by_cases hr : reqOk ⟨k, n, p, t, x, y, opsP (fun j => decO (f j)) c⟩
    · rw [if_pos hr]; rw [yes_of hr] at he'; exact he'
    · rw [if_neg hr]; rw [yes_no hr] at he'; exact he'
  · cases he
/-- A row of one Op, written out. -/
noncomputable def reFL : Spec := fun args h => match args, h with
  | [.agg [.v (.int .i64 k), .v (.int .i64 n), .v (.int .i64 p), .v (.int .i64 t), .v (.int .i64 x), .v (.int .i64 y), .sl 0 0 1]], [some ⟨121, o, .lst 5 [[.v (.int .i64 a), .v (.int .i64 b), .v (.int .i64 c), .v (.int .i64 d), .v (.string s)]] _⟩] =>
    .need (yes (k = 1 ∧ s.size + 17 ≤ maxCells ∧ opOk ⟨a, b, c, d, s⟩ = false)) (.ret (.tup [.c (.v (.slice none 0 0)), Bo false], [rowP o 1 fun _ => ⟨a, b, c, d, s⟩]))
  | _, _ => .fail
theorem reFL_ok : SpecOk Try.prog 101 reFL := by
  refine SpecOk.same reF0_ok fun args h r H' he => ?_
  unfold reFL at he
  split at he
  · rename_i k n p t x y o a b c d s z
    obtain ⟨⟨h1, h2, h3⟩, he'⟩ := Tr.eval_ask.1 he
    subst h1
    cases he'
    refine ⟨[rowP o 1 fun _ => ⟨a, b, c, d, s⟩], [rowP o 1 fun _ => ⟨a, b, c, d, s⟩], ?_, SameH.refl _, ?_⟩
    · refine .cons ⟨rfl, rfl, rfl, rfl, fun i hi => ?_⟩ .nil
      have : i = 0 := by
        have h : i < 1 := hi
        omega
      subst this
      rfl
    · show (Tr.need _ _).eval = _
      refine Tr.eval_need.2 ⟨yes_of ⟨rfl, fun _ => ⟨rfl, ?_⟩⟩, ?_⟩
      · show 2 + 1 + 1 + 1 + 1 + 1 + 1 + 1 + 1 + 1 + 1 + 1 + 1 + 1 + 2 + s.size ≤ maxCells
        omega
      · rw [yes_no]
        · rfl
        · rintro ⟨hw, _⟩
          have : (decide (1 ≤ 100) && (opOk ⟨a, b, c, d, s⟩ && true)) = true := hw
          rw [h3] at this
          simp at this
  · cases he
noncomputable def reF : Spec := fun args h => match h with
  | [some ⟨_, _, .lst _ _ _⟩] => reFL args h
  | _ => reF0 args h
theorem reF_ok : SpecOk Try.prog 101 reF := by
  refine fun B args h r H' he => ?_
  unfold reF at he
  split at he
  · exact reFL_ok B _ _ r H' he
  · exact reF0_ok B _ _ r H' he
end
section
open Go Go.RowKit
noncomputable def KQY : Known := [(145, rqF), (149, rrF)]
theorem KQY_ok : KnownOk KQY := consK rqF_ok (by kernel_rfl) (consK rrF_ok (by kernel_rfl) nilK)
noncomputable def qyG : Ctx2 := GT KQY (fun _ => []) 0 []
theorem qy_eb {own : Bool} {m i n : Nat} {B : Nat → Int} : (lfun qyG nol 60 Try.f107 [.c (.sl 0 i n)] [rowU own m B]).go [] = some ([yes (i + n ≤ m ∧ ((fun j => ub (B j)) = fun j => ub (ud (ub (B j)))) ∧ rng fun j => ud (ub (B j))), (rqR (fun j => ud (ub (B j))) i n).fst.o.isEmpty, (rqR (fun j => ud (ub (B j))) i n).snd.snd, true, true, true, true, true, true, true], .tup [.agg [i64 0, i64 0, i64 0, i64 0, i64 0, i64 0, .v (.slice none 0 0)], I64 16], [some ⟨5, own, .row 1 m fun j => [.int .u8 (ud (ub (B j)))]⟩]) := by kernel_rfl
theorem qy_er {own : Bool} {m i n : Nat} {B : Nat → Int} : (lfun qyG nol 60 Try.f107 [.c (.sl 0 i n)] [rowU own m B]).go [true, true, false, false, false, false, false, false, false] = some ([yes (i + n ≤ m ∧ ((fun j => ub (B j)) = fun j => ub (ud (ub (B j)))) ∧ rng fun j => ud (ub (B j))), (rqR (fun j => ud (ub (B j))) i n).fst.o.isEmpty, !(rqR (fun j => ud (ub (B j))) i n).snd.snd, true, true, true, true, true, true, decide ((((rqR (fun j => ud (ub (B j))) i n).snd.fst.length : Nat) : Int) > (0 : Int))], .tup [.agg [i64 0, i64 0, i64 0, i64 0, i64 0, i64 0, .v (.slice none 0 0)], I64 16], [some ⟨5, own, .row 1 m fun j => [.int .u8 (ud (ub (B j)))]⟩]) := by kernel_rfl
theorem qy_eo {own : Bool} {m i n : Nat} {B : Nat → Int} : (lfun qyG nol 60 Try.f107 [.c (.sl 0 i n)] [rowU own m B]).go [true, true, false, false, false, false, false, false, false, false] = some ([yes (i + n ≤ m ∧ ((fun j => ub (B j)) = fun j => ub (ud (ub (B j)))) ∧ rng fun j => ud (ub (B j))), (rqR (fun j => ud (ub (B j))) i n).fst.o.isEmpty, !(rqR (fun j => ud (ub (B j))) i n).snd.snd, true, true, true, true, true, true, !decide ((((rqR (fun j => ud (ub (B j))) i n).snd.fst.length : Nat) : Int) > (0 : Int))], .tup [.agg [i64 (rqR (fun j => ud (ub (B j))) i n).fst.k, i64 (rqR (fun j => ud (ub (B j))) i n).fst.n, i64 (rqR (fun j => ud (ub (B j))) i n).fst.p, i64 (rqR (fun j => ud (ub (B j))) i n).fst.t, i64 (rqR (fun j => ud (ub (B j))) i n).fst.x, i64 (rqR (fun j => ud (ub (B j))) i n).fst.y, .v (.slice none 0 0)], I64 0], [some ⟨5, own, .row 1 m fun j => [.int .u8 (ud (ub (B j)))]⟩]) := by kernel_rfl
theorem qy_ob {own : Bool} {m i n : Nat} {B : Nat → Int} : (lfun qyG nol 60 Try.f107 [.c (.sl 0 i n)] [rowU own m B]).go [true, false] = some ([yes (i + n ≤ m ∧ ((fun j => ub (B j)) = fun j => ub (ud (ub (B j)))) ∧ rng fun j => ud (ub (B j))), !(rqR (fun j => ud (ub (B j))) i n).fst.o.isEmpty, (rqR (fun j => ud (ub (B j))) i n).snd.snd, true, true, true, true, true, true, true], .tup [.agg [i64 0, i64 0, i64 0, i64 0, i64 0, i64 0, .v (.slice none 0 0)], I64 16], [some ⟨5, own, .row 1 m fun j => [.int .u8 (ud (ub (B j)))]⟩]) := by kernel_rfl
theorem qy_or {own : Bool} {m i n : Nat} {B : Nat → Int} : (lfun qyG nol 60 Try.f107 [.c (.sl 0 i n)] [rowU own m B]).go [true, false, false, false, false, false, false, false, false] = some ([yes (i + n ≤ m ∧ ((fun j => ub (B j)) = fun j => ub (ud (ub (B j)))) ∧ rng fun j => ud (ub (B j))), !(rqR (fun j => ud (ub (B j))) i n).fst.o.isEmpty, !(rqR (fun j => ud (ub (B j))) i n).snd.snd, true, true, true, true, true, true, decide ((((rqR (fun j => ud (ub (B j))) i n).snd.fst.length : Nat) : Int) > (0 : Int))], .tup [.agg [i64 0, i64 0, i64 0, i64 0, i64 0, i64 0, .v (.slice none 0 0)], I64 16], [some ⟨5, own, .row 1 m fun j => [.int .u8 (ud (ub (B j)))]⟩]) := by kernel_rfl
theorem qy_oo {own : Bool} {m i n : Nat} {B : Nat → Int} : (lfun qyG nol 60 Try.f107 [.c (.sl 0 i n)] [rowU own m B]).go [true, false, false, false, false, false, false, false, false, false] = some ([yes (i + n ≤ m ∧ ((fun j => ub (B j)) = fun j => ub (ud (ub (B j)))) ∧ rng fun j => ud (ub (B j))), !(rqR (fun j => ud (ub (B j))) i n).fst.o.isEmpty, !(rqR (fun j => ud (ub (B j))) i n).snd.snd, true, true, true, true, true, true, !decide ((((rqR (fun j => ud (ub (B j))) i n).snd.fst.length : Nat) : Int) > (0 : Int))], .tup [.agg [i64 (rqR (fun j => ud (ub (B j))) i n).fst.k, i64 (rqR (fun j => ud (ub (B j))) i n).fst.n, i64 (rqR (fun j => ud (ub (B j))) i n).fst.p, i64 (rqR (fun j => ud (ub (B j))) i n).fst.t, i64 (rqR (fun j => ud (ub (B j))) i n).fst.x, i64 (rqR (fun j => ud (ub (B j))) i n).fst.y, .sl 1 0 (rqR (fun j => ud (ub (B j))) i n).fst.o.length], I64 0], [some ⟨5, own, .row 1 m fun j => [.int .u8 (ud (ub (B j)))]⟩, some ⟨121, true, .row 5 (rqR (fun j => ud (ub (B j))) i n).fst.o.length fun j => [.int .i64 (gP (rqR (fun j => ud (ub (B j))) i n).fst.o j).k, .int .i64 (gP (rqR (fun j => ud (ub (B j))) i n).fst.o j).i, .int .i64 (gP (rqR (fun j => ud (ub (B j))) i n).fst.o j).a, .int .i64 (gP (rqR (fun j => ud (ub (B j))) i n).fst.o j).b, .string (gP (rqR (fun j => ud (ub (B j))) i n).fst.o j).s]⟩]) := by kernel_rfl
theorem ry_b {own : Bool} {m i n : Nat} {B : Nat → Int} : (lfun qyG nol 60 Try.f109 [.c (.sl 0 i n)] [rowU own m B]).go [] = some ([yes (i + n ≤ m ∧ ((fun j => ub (B j)) = fun j => ub (ud (ub (B j)))) ∧ rng fun j => ud (ub (B j))), (rrR (fun j => ud (ub (B j))) i n).snd.snd, true, true, true, true, true, true, true], .tup [.agg [i64 0, i64 0, i64 0, i64 0, i64 0, i64 0, i64 0, i64 0, i64 0, i64 0], I64 16], [some ⟨5, own, .row 1 m fun j => [.int .u8 (ud (ub (B j)))]⟩]) := by kernel_rfl
theorem ry_r {own : Bool} {m i n : Nat} {B : Nat → Int} : (lfun qyG nol 60 Try.f109 [.c (.sl 0 i n)] [rowU own m B]).go [true, false, false, false, false, false, false, false] = some ([yes (i + n ≤ m ∧ ((fun j => ub (B j)) = fun j => ub (ud (ub (B j)))) ∧ rng fun j => ud (ub (B j))), !(rrR (fun j => ud (ub (B j))) i n).snd.snd, true, true, true, true, true, true, decide ((((rrR (fun j => ud (ub (B j))) i n).snd.fst.length : Nat) : Int) > (0 : Int))], .tup [.agg [i64 0, i64 0, i64 0, i64 0, i64 0, i64 0, i64 0, i64 0, i64 0, i64 0], I64 16], [some ⟨5, own, .row 1 m fun j => [.int .u8 (ud (ub (B j)))]⟩]) := by kernel_rfl
theorem ry_o {own : Bool} {m i n : Nat} {B : Nat → Int} : (lfun qyG nol 60 Try.f109 [.c (.sl 0 i n)] [rowU own m B]).go [true, false, false, false, false, false, false, false, false] = some ([yes (i + n ≤ m ∧ ((fun j => ub (B j)) = fun j => ub (ud (ub (B j)))) ∧ rng fun j => ud (ub (B j))), !(rrR (fun j => ud (ub (B j))) i n).snd.snd, true, true, true, true, true, true, !decide ((((rrR (fun j => ud (ub (B j))) i n).snd.fst.length : Nat) : Int) > (0 : Int))], .tup [.agg [i64 (rrR (fun j => ud (ub (B j))) i n).fst.k, i64 (rrR (fun j => ud (ub (B j))) i n).fst.e, i64 (rrR (fun j => ud (ub (B j))) i n).fst.a, i64 (rrR (fun j => ud (ub (B j))) i n).fst.n, i64 (rrR (fun j => ud (ub (B j))) i n).fst.p, i64 (rrR (fun j => ud (ub (B j))) i n).fst.t, i64 (rrR (fun j => ud (ub (B j))) i n).fst.x, i64 (rrR (fun j => ud (ub (B j))) i n).fst.y, i64 (rrR (fun j => ud (ub (B j))) i n).fst.w, i64 (rrR (fun j => ud (ub (B j))) i n).fst.h], I64 0], [some ⟨5, own, .row 1 m fun j => [.int .u8 (ud (ub (B j)))]⟩]) := by kernel_rfl
end
section
open Go Go.RowKit
noncomputable def qyT (own : Bool) (m : Nat) (B : Nat → Int) (r : Qd × (List Int × Bool)) : Tr (AV × AHeap) :=
  .ite (yes (r.2 = ([], false)))
    (.ite r.1.o.isEmpty (.ret (.tup [qV r.1 (.v (.slice none 0 0)), I64 0], [rowU own m B]))
      (.ret (.tup [qV r.1 (.sl 1 0 r.1.o.length), I64 0], [rowU own m B, rowP true r.1.o.length (gP r.1.o)])))
    (.ret (.tup [qV ⟨0, 0, 0, 0, 0, 0, []⟩ (.v (.slice none 0 0)), I64 16], [rowU own m B]))
noncomputable def ryT (own : Bool) (m : Nat) (B : Nat → Int) (r : Rd × (List Int × Bool)) : Tr (AV × AHeap) :=
  .ite (yes (r.2 = ([], false))) (.ret (.tup [rV r.1, I64 0], [rowU own m B])) (.ret (.tup [rV ⟨0, 0, 0, 0, 0, 0, 0, 0, 0, 0⟩, I64 16], [rowU own m B]))
theorem gt0 {L : List Int} (h : L ≠ []) : decide (((L.length : Nat) : Int) > 0) = true := by
  cases L with
  | nil => exact absurd rfl h
  | cons x L => exact decide_eq_true (by simp only [List.length_cons]; omega)
theorem qy_eval {own : Bool} {m i n : Nat} {B : Nat → Int} (hB : rng B) (hm : i + n ≤ m) : (lfun qyG nol 60 Try.f107 [.c (.sl 0 i n)] [rowU own m B]).eval = (qyT own m B (rqR B i n)).eval := by
  have hy : yes (i + n ≤ m ∧ ((fun j => ub (B j)) = fun j => ub (ud (ub (B j)))) ∧ rng fun j => ud (ub (B j))) = true := yes_of ⟨hm, rfl, hB⟩
  unfold qyT
  simp only [Tr.eval]
  cases hE : (rqR B i n).1.o.isEmpty with
  | true =>
    cases hb : (rqR B i n).2.2 with
    | true =>
      rw [yes_no fun h => by rw [h] at hb; cases hb]
      exact (Tr.go_eval qy_eb ⟨hy, hE, hb, rfl, rfl, rfl, rfl, rfl, rfl, rfl, trivial⟩).trans rfl
    | false =>
      by_cases hL : (rqR B i n).2.1 = []
      · rw [yes_of (show (rqR B i n).2 = ([], false) from Prod.ext hL hb)]
        refine (Tr.go_eval qy_eo (by
          repeat' (first | exact AllT.nil | refine AllT.cons ?_ ?_)
          all_goals first | (with_reducible rfl) | exact hy | exact hE | exact not_eq hb | exact not_eq (by show decide ((((rqR B i n).2.1.length : Nat) : Int) > 0) = false; rw [hL]; rfl))).trans rfl
      · rw [yes_no fun h => hL (by rw [h])]
        refine (Tr.go_eval qy_er (by
          repeat' (first | exact AllT.nil | refine AllT.cons ?_ ?_)
          all_goals first | (with_reducible rfl) | exact hy | exact hE | exact not_eq hb | exact gt0 hL)).trans rfl
  | false =>
    cases hb : (rqR B i n).2.2 with
    | true =>
      rw [yes_no fun h => by rw [h] at hb; cases hb]
      exact (Tr.go_eval qy_ob ⟨hy, not_eq hE, hb, rfl, rfl, rfl, rfl, rfl, rfl, rfl, trivial⟩).trans rfl
    | false =>
      by_cases hL : (rqR B i n).2.1 = []
      · rw [yes_of (show (rqR B i n).2 = ([], false) from Prod.ext hL hb)]
        refine (Tr.go_eval qy_oo (by
          repeat' (first | exact AllT.nil | refine AllT.cons ?_ ?_)
          all_goals first | (with_reducible rfl) | exact hy | exact not_eq hE | exact not_eq hb | exact not_eq (by show decide ((((rqR B i n).2.1.length : Nat) : Int) > 0) = false; rw [hL]; rfl))).trans rfl
      · rw [yes_no fun h => hL (by rw [h])]
        refine (Tr.go_eval qy_or (by
          repeat' (first | exact AllT.nil | refine AllT.cons ?_ ?_)
          all_goals first | (with_reducible rfl) | exact hy | exact not_eq hE | exact not_eq hb | exact gt0 hL)).trans rfl
theorem ry_eval {own : Bool} {m i n : Nat} {B : Nat → Int} (hB : rng B) (hm : i + n ≤ m) : (lfun qyG nol 60 Try.f109 [.c (.sl 0 i n)] [rowU own m B]).eval = (ryT own m B (rrR B i n)).eval := by
  have hy : yes (i + n ≤ m ∧ ((fun j => ub (B j)) = fun j => ub (ud (ub (B j)))) ∧ rng fun j => ud (ub (B j))) = true := yes_of ⟨hm, rfl, hB⟩
  unfold ryT
  simp only [Tr.eval]
  cases hb : (rrR B i n).2.2 with
  | true =>
    rw [yes_no fun h => by rw [h] at hb; cases hb]
    refine (Tr.go_eval ry_b (by
          repeat' (first | exact AllT.nil | refine AllT.cons ?_ ?_)
          all_goals first | (with_reducible rfl) | exact hy | exact hb)).trans rfl
  | false =>
    by_cases hL : (rrR B i n).2.1 = []
    · rw [yes_of (show (rrR B i n).2 = ([], false) from Prod.ext hL hb)]
      refine (Tr.go_eval ry_o (by
          repeat' (first | exact AllT.nil | refine AllT.cons ?_ ?_)
          all_goals first | (with_reducible rfl) | exact hy | exact not_eq hb | exact not_eq (by show decide ((((rrR B i n).2.1.length : Nat) : Int) > 0) = false; rw [hL]; rfl))).trans rfl
    · rw [yes_no fun h => hL (by rw [h])]
      refine (Tr.go_eval ry_r (by
          repeat' (first | exact AllT.nil | refine AllT.cons ?_ ?_)
          all_goals first | (with_reducible rfl) | exact hy | exact not_eq hb | exact gt0 hL)).trans rfl
noncomputable def qyF0 : Spec := fun args h => match args, h with
  | [.c (.sl 0 i n)], [some ⟨5, own, .row 1 m f⟩] =>
    .need (yes (i + n ≤ m ∧ (f = fun j => ub (ud (f j))) ∧ rng fun j => ud (f j))) (qyT own m (fun j => ud (f j)) (rqR (fun j => ud (f j)) i n))
  | _, _ => .fail
theorem qyF0_ok : SpecOk Try.prog 107 qyF0 := by
  refine knownS KQY_ok Try.func107 fun args h r he => ?_
  unfold qyF0 at he
  split at he
  · rename_i i n own m f
    obtain ⟨⟨h1, h2, h3⟩, he'⟩ := Tr.eval_ask.1 he
    have e1 : some ⟨5, own, .row 1 m f⟩ = rowU own m fun j => ud (f j) := by rw [rowU, ← h2]
    rw [e1]
    exact ⟨(fun _ => []), [], 60, nol, noLoopsS, (qy_eval h3 h1).trans he'⟩
  · cases he
noncomputable def ryF0 : Spec := fun args h => match args, h with
  | [.c (.sl 0 i n)], [some ⟨5, own, .row 1 m f⟩] =>
    .need (yes (i + n ≤ m ∧ (f = fun j => ub (ud (f j))) ∧ rng fun j => ud (f j))) (ryT own m (fun j => ud (f j)) (rrR (fun j => ud (f j)) i n))
  | _, _ => .fail
theorem ryF0_ok : SpecOk Try.prog 109 ryF0 := by
  refine knownS KQY_ok Try.func109 fun args h r he => ?_
  unfold ryF0 at he
  split at he
  · rename_i i n own m f
    obtain ⟨⟨h1, h2, h3⟩, he'⟩ := Tr.eval_ask.1 he
    have e1 : some ⟨5, own, .row 1 m f⟩ = rowU own m fun j => ud (f j) := by rw [rowU, ← h2]
    rw [e1]
    exact ⟨(fun _ => []), [], 60, nol, noLoopsS, (ry_eval h3 h1).trans he'⟩
  · cases he
/- A row of bytes, written out. -/
def lstU : List (List AC) → Option (List Int)
  | [] => some []
  | [.v (.int .u8 x)] :: l => (lstU l).map (x :: ·)
  | _ => none
theorem lstU_len : ∀ {l : List (List AC)} {xs : List Int}, lstU l = some xs → l.length = xs.length ∧ ∀ i z, i < l.length → l.getD i z = ofCells (ub (xs.getD i 0))
  | [], xs, h => by cases h; exact ⟨rfl, fun i z hi => absurd hi (Nat.not_lt_zero i)⟩
  | [.v (.int .u8 x)] :: l, xs, h => by
    simp only [lstU, Option.map_eq_some_iff] at h
    obtain ⟨ys, h1, rfl⟩ := h
    obtain ⟨h2, h3⟩ := lstU_len h1
    refine ⟨by simp [h2], fun i z hi => ?_⟩
    cases i with
    | zero => rfl
    | succ i =>
      rw [List.getD_cons_succ, List.getD_cons_succ]
      exact h3 i z (by simpa using hi)
theorem lstU_same {l : List (List AC)} {xs : List Int} {z : List AC} {own : Bool} (h : lstU l = some xs) : SameB (rowU own xs.length (gL xs)) (some ⟨5, own, .lst 1 l z⟩) := by
  obtain ⟨h1, h2⟩ := lstU_len h
  refine ⟨rfl, rfl, rfl, h1.symm, fun i hi => ?_⟩
  have hi' : i < l.length := by rw [h1]; exact hi
  exact (h2 i z hi').symm
noncomputable def qyF : Spec := fun args h => match args, h with
  | [.c (.sl 0 i n)], [some ⟨5, own, .lst 1 l z⟩] => match lstU l with
    | some xs => .need (yes (i + n ≤ xs.length ∧ rng (gL xs))) (qyT own xs.length (gL xs) (rqR (gL xs) i n))
    | none => .fail
  | args, h => qyF0 args h
theorem qyF_ok : SpecOk Try.prog 107 qyF := by
  refine SpecOk.same qyF0_ok fun args H r H' he => ?_
  unfold qyF at he
  split at he
  · rename_i i n own l z
    split at he
    · rename_i xs hx
      obtain ⟨⟨h1, h2⟩, he'⟩ := Tr.eval_ask.1 he
      refine ⟨[rowU own xs.length (gL xs)], H', .cons (lstU_same hx) .nil, SameH.refl _, ?_⟩
      exact Tr.eval_ask.2 ⟨⟨h1, rfl, h2⟩, he'⟩
    · cases he
  · exact ⟨H, H', SameH.refl _, SameH.refl _, he⟩
noncomputable def ryF : Spec := fun args h => match args, h with
  | [.c (.sl 0 i n)], [some ⟨5, own, .lst 1 l z⟩] => match lstU l with
    | some xs => .need (yes (i + n ≤ xs.length ∧ rng (gL xs))) (ryT own xs.length (gL xs) (rrR (gL xs) i n))
    | none => .fail
  | args, h => ryF0 args h
theorem ryF_ok : SpecOk Try.prog 109 ryF := by
  refine SpecOk.same ryF0_ok fun args H r H' he => ?_
  unfold ryF at he
  split at he
  · rename_i i n own l z
    split at he
    · rename_i xs hx
      obtain ⟨⟨h1, h2⟩, he'⟩ := Tr.eval_ask.1 he
      refine ⟨[rowU own xs.length (gL xs)], H', .cons (lstU_same hx) .nil, SameH.refl _, ?_⟩
      exact Tr.eval_ask.2 ⟨⟨h1, rfl, h2⟩, he'⟩
    · cases he
  · exact ⟨H, H', SameH.refl _, SameH.refl _, he⟩
end
section
open Go Go.RowKit
noncomputable def KAW : Known := [(101, reF), (105, anF), (107, qyF), (109, ryF)]
theorem KAW_ok : KnownOk KAW := consK reF_ok (by kernel_rfl) (consK anF_ok (by kernel_rfl) (consK qyF_ok (by kernel_rfl) (consK ryF_ok (by kernel_rfl) nilK)))
noncomputable def awG : Ctx2 := GT KAW (fun _ => []) 0 []
theorem aw_t : (lfun awG nol 60 Try.f102 [] []).go [true, true, true, false, true, true, true, true, false] = some ([yes (reqOk { k := 4, n := 258, p := (-1 : Int), t := 0, x := 0, y := 0, o := [] }), yes (18 ≤ 18 ∧ rng (gL [1, 1, 6, 0, 0, 0, 3, 0, 0, 0, 0, 255, 255, 255, 255, 0, 1, 97])), yes ((rqR (gL [1, 1, 6, 0, 0, 0, 3, 0, 0, 0, 0, 255, 255, 255, 255, 0, 1, 97]) 0 18).snd = ([], false)), true, yes (anOk { k := 2, e := 9, a := (-1 : Int), n := 0, p := 0, t := 0, x := 0, y := 0, w := 0, h := 0 }), yes (5 ≤ 5 ∧ rng (gL [5, 255, 255, 255, 254])), yes ((rrR (gL [5, 255, 255, 255, 254]) 0 5).snd = ([], false)), yes (2 ≤ 2 ∧ rng (gL [2, 0])), !yes ((rqR (gL [2, 0]) 0 2).snd = ([], false)), true, true, true, true, true, true, true, true, true, true, true, true, true, true, true, true, true, true, true, true, true, true, true, true, true, true, true, true, true, true, true, true, true, true, true, true, true, true, true, true, true, true], Bo true, []) := by kernel_rfl
end
section
open Go Go.RowKit
def byteLb (L : List Int) : Bool := L.all fun x => decide (0 ≤ x) && decide (x < 256)
theorem byteLb_ok {L : List Int} (h : byteLb L = true) : byteL L := fun x hx => by
  unfold byteLb at h
  rw [List.all_eq_true] at h
  have := h x hx
  rw [Bool.and_eq_true, decide_eq_true_eq, decide_eq_true_eq] at this
  exact this
noncomputable def awF : Spec := fun args h => match args, h with
  | [], [] => .ret (Bo true, [])
  | _, _ => .fail
theorem awF_ok : SpecOk Try.prog 102 awF := by
  refine knownS KAW_ok Try.func102 fun args h r he => ?_
  unfold awF at he
  split at he
  · cases he
    refine ⟨(fun _ => []), [], 60, nol, noLoopsS, (Tr.go_eval aw_t ?_).trans rfl⟩
    refine AllT.cons (yes_of ⟨by kernel_rfl, by kernel_rfl⟩) ?_
    refine AllT.cons (yes_of ⟨Nat.le_refl _, rng_gL (byteLb_ok (by kernel_rfl))⟩) ?_
    refine AllT.cons (yes_of (by kernel_rfl)) ?_
    refine AllT.cons rfl ?_
    refine AllT.cons (yes_of ⟨by kernel_rfl, by kernel_rfl⟩) ?_
    refine AllT.cons (yes_of ⟨Nat.le_refl _, rng_gL (byteLb_ok (by kernel_rfl))⟩) ?_
    refine AllT.cons (yes_of (by kernel_rfl)) ?_
    refine AllT.cons (yes_of ⟨Nat.le_refl _, rng_gL (byteLb_ok (by kernel_rfl))⟩) ?_
    refine AllT.cons (not_eq (yes_no ?_)) ?_
    · intro h
      have e : (rqR (gL [2, 0]) 0 2).2 = ([0], false) := by kernel_rfl
      rw [e] at h
      cases h
    · repeat' (first | exact AllT.nil | refine AllT.cons ?_ ?_)
      all_goals rfl
  · cases he
end
section
open Go Go.RowKit
def rbK (n : Int) : Int := [(1 : Int), 2, 3, 4, 5, 6].getD (0 + ((and64 n 255).tmod 6).toNat) 0
theorem rbK_in (n : Int) : rbK n = 1 ∨ rbK n = 2 ∨ rbK n = 3 ∨ rbK n = 4 ∨ rbK n = 5 ∨ rbK n = 6 := by
  have ha : and64 n 255 = n % (2 ^ 8 : Int) := and_mask 8 (by omega) n 255 (by decide)
  have hb : 0 ≤ n % (2 ^ 8 : Int) := by omega
  have ht : (and64 n 255).tmod 6 = (n % (2 ^ 8 : Int)) % 6 := by rw [ha]; exact Int.tmod_eq_emod_of_nonneg hb
  unfold rbK
  rw [ht]
  have hi : ((n % (2 ^ 8 : Int)) % 6).toNat < 6 := by omega
  generalize ((n % (2 ^ 8 : Int)) % 6).toNat = i at hi
  have : i = 0 ∨ i = 1 ∨ i = 2 ∨ i = 3 ∨ i = 4 ∨ i = 5 := by omega
  rcases this with rfl | rfl | rfl | rfl | rfl | rfl <;> simp
theorem and255_by (e : Int) : byOk (and64 e 255) = true := by
  have ha : and64 e 255 = e % (2 ^ 8 : Int) := and_mask 8 (by omega) e 255 (by decide)
  unfold byOk
  rw [ha, decide_eq_true (by omega), decide_eq_true (by omega)]; rfl
/-- The law's answers, by kind. -/
def rbQ (n : Int) (a : Rd) : Rd := bif rbK n == 2 then ⟨rbK n, and64 a.e 255, fo4 a.a, 0, 0, 0, 0, 0, 0, 0⟩
  else bif rbK n == 3 then ⟨rbK n, 0, 0, 0, fo4 a.p, fo4 a.t, 0, 0, 0, 0⟩
  else bif rbK n == 4 then ⟨rbK n, 0, 0, 0, 0, 0, fo4 a.x, fo4 a.y, fo4 a.w, fo4 a.h⟩
  else bif rbK n == 5 || rbK n == 6 then ⟨rbK n, 0, 0, fo4 a.n, 0, 0, 0, 0, 0, 0⟩ else ⟨rbK n, 0, 0, 0, 0, 0, 0, 0, 0, 0⟩
theorem rbQ_ok (n : Int) (a : Rd) : anOk (rbQ n a) ∧ bareR (rbQ n a) = rbQ n a := by
  unfold anOk rbQ
  rcases rbK_in n with h | h | h | h | h | h <;> rw [h]
  · exact ⟨⟨rfl, rfl⟩, rfl⟩
  · refine ⟨⟨?_, rfl⟩, rfl⟩
    show (byOk (and64 a.e 255) && fits (fo4 a.a)) = true
    rw [and255_by, fo4_fits]; rfl
  · refine ⟨⟨?_, rfl⟩, rfl⟩
    show (fits (fo4 a.p) && fits (fo4 a.t)) = true
    rw [fo4_fits, fo4_fits]; rfl
  · refine ⟨⟨rfl, rfl⟩, ?_⟩
    show (⟨4, 0, 0, 0, 0, 0, held4 (fo4 a.x), held4 (fo4 a.y), held4 (fo4 a.w), held4 (fo4 a.h)⟩ : Rd) = ⟨4, 0, 0, 0, 0, 0, fo4 a.x, fo4 a.y, fo4 a.w, fo4 a.h⟩
    rw [held_fits (fo4_fits _), held_fits (fo4_fits _), held_fits (fo4_fits _), held_fits (fo4_fits _)]
  · refine ⟨⟨?_, rfl⟩, rfl⟩
    show fits (fo4 a.n) = true
    exact fo4_fits _
  · refine ⟨⟨?_, rfl⟩, rfl⟩
    show fits (fo4 a.n) = true
    exact fo4_fits _
end
section
open Go Go.RowKit
theorem f4_w {v : Int} : (lfun niG nol 60 Try.f113 [I64 v] []).go [] = some ([], I64 (w64 (IntKind.i32.wrap v)), []) := by kernel_rfl
noncomputable def fo4F : Spec := fun args h => match args, h with
  | [.c (.v (.int .i64 v))], [] => .ret (I64 (fo4 v), [])
  | _, _ => .fail
theorem fo4F_ok : SpecOk Try.prog 113 fo4F := by
  refine knownS nilK Try.func113 fun args h r he => ?_
  unfold fo4F at he
  split at he
  · cases he
    exact ⟨_, [], 60, nol, noLoopsS, (Tr.go_eval f4_w (by first | exact AllT.nil | exact ⟨rfl, trivial⟩ | exact ⟨rfl, rfl, trivial⟩)).trans rfl⟩
  · cases he
noncomputable def KWB : Known := [(112, lqF), (101, reF), (107, qyF), (111, sqF), (105, anF), (109, ryF), (102, awF), (113, fo4F)]
theorem KWB_ok : KnownOk KWB := consK lqF_ok (by kernel_rfl) (consK reF_ok (by kernel_rfl) (consK qyF_ok (by kernel_rfl) (consK laF_ok (by kernel_rfl) (consK anF_ok (by kernel_rfl) (consK ryF_ok (by kernel_rfl) (consK awF_ok (by kernel_rfl) (consK fo4F_ok (by kernel_rfl) nilK)))))))
noncomputable def wbG : Ctx2 := GT KWB (fun _ => []) 0 []
noncomputable def qop (f : Nat → Int) (K : Nat) : List Opp := opsP (fun j => decO (encO (opsL (fun j => vd (v1 (f (0 + j)))) (osN K) j))) (osN K)
def rb1 (n : Int) (a : Rd) : Rd := ⟨rbK n, 0, 0, 0, 0, 0, 0, 0, 0, 0⟩
def rb2 (n : Int) (a : Rd) : Rd := ⟨rbK n, and64 a.e 255, fo4 a.a, 0, 0, 0, 0, 0, 0, 0⟩
def rb3 (n : Int) (a : Rd) : Rd := ⟨rbK n, 0, 0, 0, fo4 a.p, fo4 a.t, 0, 0, 0, 0⟩
def rb4 (n : Int) (a : Rd) : Rd := ⟨rbK n, 0, 0, 0, 0, 0, fo4 a.x, fo4 a.y, fo4 a.w, fo4 a.h⟩
def rb5 (n : Int) (a : Rd) : Rd := ⟨rbK n, 0, 0, fo4 a.n, 0, 0, 0, 0, 0, 0⟩
def wbS (r : Rd) : Rd × (List Int × Bool) := rrR (fun j => ud (ub (gL (ansB r) j))) 0 (ansB r).length
def wbU (L : List Int) (b : Int) : Nat → List Value := updL (cat [Value.int IntKind.u8 (0 : Int)] (fun i => [Value.int IntKind.u8 (0 : Int)]) 0 (fun j => ub (ud (ub (gL L j)))) 0 L.length) (0 + L.length) [[Value.int IntKind.u8 b]]
def wbR (q : Qd) : Qd × (List Int × Bool) := rqR (fun j => ud (ub (gL (reqB q) j))) 0 (reqB q).length
noncomputable def wc0 (K : Nat) (f : Nat → Int) : Bool := yes (K = K ∧ (fun j => v1 (f j)) = fun j => v1 (vd (v1 (f j))))
noncomputable def wc1 (n : Int) (a : Rd) : Bool := yes (anOk { k := 5, e := 0, a := 0, n := 2147483648, p := 0, t := 0, x := 0, y := 0, w := 0, h := 0 })
noncomputable def wc2 (n : Int) (K : Nat) (f : Nat → Int) : Bool := yes (((fun j => encO (opsL (fun j => vd (v1 (f (0 + j)))) (osN K) j)) = fun j => encO (decO (encO (opsL (fun j => vd (v1 (f (0 + j)))) (osN K) j)))) ∧ ((lqD n).k = (1 : Int) → osN K = osN K ∧ wqLen (fun j => decO (encO (opsL (fun j => vd (v1 (f (0 + j)))) (osN K) j))) 2 (osN K) ≤ maxCells))
noncomputable def wc3 (n : Int) (K : Nat) (f : Nat → Int) : Bool := yes (0 + (reqB (lqQ n (qop f K))).length ≤ (reqB (lqQ n (qop f K))).length ∧ ((fun j => ub (gL (reqB (lqQ n (qop f K))) j)) = fun j => ub (ud (ub (gL (reqB (lqQ n (qop f K))) j)))) ∧ rng fun j => ud (ub (gL (reqB (lqQ n (qop f K))) j)))
noncomputable def wc4 (n : Int) (K : Nat) (f : Nat → Int) : Bool := decide (0 + (reqB (lqQ n (qop f K))).length ≤ (reqB (lqQ n (qop f K))).length)
noncomputable def wc5 (n : Int) (K : Nat) (f : Nat → Int) : Bool := decide ((0 + (reqB (lqQ n (qop f K))).length) * 1 ≤ maxCells)
noncomputable def wc6 (n : Int) (K : Nat) (f : Nat → Int) : Bool := decide (0 + (reqB (lqQ n (qop f K))).length = 0 + (reqB (lqQ n (qop f K))).length)
noncomputable def wc7 (n : Int) (K : Nat) (f : Nat → Int) : Bool := decide ((0 + (reqB (lqQ n (qop f K))).length + 1) * 1 ≤ maxCells)
noncomputable def wc8 (n : Int) (K : Nat) (f : Nat → Int) (by0 : Int) : Bool := yes (0 + (0 + (reqB (lqQ n (qop f K))).length + 1) ≤ 0 + (reqB (lqQ n (qop f K))).length + 1 ∧ (wbU (reqB (lqQ n (qop f K))) by0 = fun j => ub (ud (wbU (reqB (lqQ n (qop f K))) by0 j))) ∧ rng fun j => ud (wbU (reqB (lqQ n (qop f K))) by0 j))
noncomputable def wc9 (n : Int) (K : Nat) (f : Nat → Int) (by0 : Int) : Bool := yes ((rqR (fun j => ud (wbU (reqB (lqQ n (qop f K))) by0 j)) 0 (0 + (reqB (lqQ n (qop f K))).length + 1)).snd = ([], false))
noncomputable def wc10 (n : Int) (K : Nat) (f : Nat → Int) : Bool := decInt (0 : Int) (w64 ((((reqB (lqQ n (qop f K))).length : Nat) : Int) - (1 : Int))) (reqB (lqQ n (qop f K))).length
noncomputable def wc11 (n : Int) (K : Nat) (f : Nat → Int) : Bool := yes (0 + (w64 ((((reqB (lqQ n (qop f K))).length : Nat) : Int) - (1 : Int))).toNat ≤ (reqB (lqQ n (qop f K))).length ∧ ((fun j => ub (ud (ub (gL (reqB (lqQ n (qop f K))) j)))) = fun j => ub (ud (ub (ud (ub (gL (reqB (lqQ n (qop f K))) j)))))) ∧ rng fun j => ud (ub (ud (ub (gL (reqB (lqQ n (qop f K))) j)))))
noncomputable def wc12 (n : Int) (K : Nat) (f : Nat → Int) : Bool := yes ((rqR (fun j => ud (ub (ud (ub (gL (reqB (lqQ n (qop f K))) j))))) 0 (w64 ((((reqB (lqQ n (qop f K))).length : Nat) : Int) - (1 : Int))).toNat).snd = ([], false))
noncomputable def wc13 (n : Int) : Bool := yes (0 + (reqB (lqQ n [])).length ≤ (reqB (lqQ n [])).length ∧ ((fun j => ub (gL (reqB (lqQ n [])) j)) = fun j => ub (ud (ub (gL (reqB (lqQ n [])) j)))) ∧ rng fun j => ud (ub (gL (reqB (lqQ n [])) j)))
noncomputable def wc14 (n : Int) : Bool := yes (sameF { k := (wbR (lqQ n [])).fst.k, n := (wbR (lqQ n [])).fst.n, p := (wbR (lqQ n [])).fst.p, t := (wbR (lqQ n [])).fst.t, x := (wbR (lqQ n [])).fst.x, y := (wbR (lqQ n [])).fst.y, o := [] } (lqQ n []))
noncomputable def wc15 (n : Int) : Bool := decide (0 + (reqB (lqQ n [])).length ≤ (reqB (lqQ n [])).length)
noncomputable def wc16 (n : Int) : Bool := decide (0 + (reqB (lqQ n [])).length = 0 + (reqB (lqQ n [])).length)
noncomputable def wc17 (n : Int) (by0 : Int) : Bool := yes (0 + (0 + (reqB (lqQ n [])).length + 1) ≤ 0 + (reqB (lqQ n [])).length + 1 ∧ (wbU (reqB (lqQ n [])) by0 = fun j => ub (ud (wbU (reqB (lqQ n [])) by0 j))) ∧ rng fun j => ud (wbU (reqB (lqQ n [])) by0 j))
noncomputable def wc18 (n : Int) (by0 : Int) : Bool := yes ((rqR (fun j => ud (wbU (reqB (lqQ n [])) by0 j)) 0 (0 + (reqB (lqQ n [])).length + 1)).snd = ([], false))
noncomputable def wc19 (n : Int) : Bool := decInt (0 : Int) (w64 ((((reqB (lqQ n [])).length : Nat) : Int) - (1 : Int))) (reqB (lqQ n [])).length
noncomputable def wc20 (n : Int) : Bool := yes (0 + (w64 ((((reqB (lqQ n [])).length : Nat) : Int) - (1 : Int))).toNat ≤ (reqB (lqQ n [])).length ∧ ((fun j => ub (ud (ub (gL (reqB (lqQ n [])) j)))) = fun j => ub (ud (ub (ud (ub (gL (reqB (lqQ n [])) j)))))) ∧ rng fun j => ud (ub (ud (ub (gL (reqB (lqQ n [])) j)))))
noncomputable def wc21 (n : Int) : Bool := yes ((rqR (fun j => ud (ub (ud (ub (gL (reqB (lqQ n [])) j))))) 0 (w64 ((((reqB (lqQ n [])).length : Nat) : Int) - (1 : Int))).toNat).snd = ([], false))
noncomputable def wc22 (n : Int) (a : Rd) : Bool := yes (0 + (ansB (rb5 n a)).length ≤ (ansB (rb5 n a)).length ∧ ((fun j => ub (gL (ansB (rb5 n a)) j)) = fun j => ub (ud (ub (gL (ansB (rb5 n a)) j)))) ∧ rng fun j => ud (ub (gL (ansB (rb5 n a)) j)))
noncomputable def wc23 (n : Int) (a : Rd) : Bool := (wbS (rb5 n a)).fst.k == (rbK n) && ((wbS (rb5 n a)).fst.e == (0 : Int) && ((wbS (rb5 n a)).fst.a == (0 : Int) && ((wbS (rb5 n a)).fst.n == fo4 a.n && ((wbS (rb5 n a)).fst.p == (0 : Int) && ((wbS (rb5 n a)).fst.t == (0 : Int) && ((wbS (rb5 n a)).fst.x == (0 : Int) && ((wbS (rb5 n a)).fst.y == (0 : Int) && ((wbS (rb5 n a)).fst.w == (0 : Int) && ((wbS (rb5 n a)).fst.h == (0 : Int) && true)))))))))
noncomputable def wc24 (K : Nat) (f : Nat → Int) : Bool := yes ((fun j => encO (decO (encO (opsL (fun j => vd (v1 (f (0 + j)))) (osN K) j)))) = fun j => encO (decO (encO (decO (encO (opsL (fun j => vd (v1 (f (0 + j)))) (osN K) j))))))
noncomputable def wc25 (n : Int) (K : Nat) (f : Nat → Int) : Bool := yes (sameF { k := (wbR (lqQ n (qop f K))).fst.k, n := (wbR (lqQ n (qop f K))).fst.n, p := (wbR (lqQ n (qop f K))).fst.p, t := (wbR (lqQ n (qop f K))).fst.t, x := (wbR (lqQ n (qop f K))).fst.x, y := (wbR (lqQ n (qop f K))).fst.y, o := [] } (lqQ n []) ∧ osN K = 0)
noncomputable def wc26 (n : Int) (K : Nat) (f : Nat → Int) : Bool := yes ((wbR (lqQ n (qop f K))).fst.o.length ≤ (wbR (lqQ n (qop f K))).fst.o.length ∧ osN K ≤ osN K ∧ (wbR (lqQ n (qop f K))).fst.o.length < 2 ^ 60 ∧ ((fun j => encO (gP (wbR (lqQ n (qop f K))).fst.o j)) = fun j => encO (decO (encO (gP (wbR (lqQ n (qop f K))).fst.o j)))) ∧ (fun j => encO (decO (encO (opsL (fun j => vd (v1 (f (0 + j)))) (osN K) j)))) = fun j => encO (decO (encO (decO (encO (opsL (fun j => vd (v1 (f (0 + j)))) (osN K) j))))))
noncomputable def wc27 (n : Int) (K : Nat) (f : Nat → Int) : Bool := yes (sameF { k := (wbR (lqQ n (qop f K))).fst.k, n := (wbR (lqQ n (qop f K))).fst.n, p := (wbR (lqQ n (qop f K))).fst.p, t := (wbR (lqQ n (qop f K))).fst.t, x := (wbR (lqQ n (qop f K))).fst.x, y := (wbR (lqQ n (qop f K))).fst.y, o := [] } (lqQ n []) ∧ (wbR (lqQ n (qop f K))).fst.o.length = osN K ∧ ∀ (t : Nat), t < (wbR (lqQ n (qop f K))).fst.o.length → decO (encO (gP (wbR (lqQ n (qop f K))).fst.o t)) = decO (encO (decO (encO (opsL (fun j => vd (v1 (f (0 + j)))) (osN K) t)))))
noncomputable def wc28 (n : Int) (a : Rd) : Bool := yes (0 + (ansB (rb1 n a)).length ≤ (ansB (rb1 n a)).length ∧ ((fun j => ub (gL (ansB (rb1 n a)) j)) = fun j => ub (ud (ub (gL (ansB (rb1 n a)) j)))) ∧ rng fun j => ud (ub (gL (ansB (rb1 n a)) j)))
noncomputable def wc29 (n : Int) (a : Rd) : Bool := (wbS (rb1 n a)).fst.k == (rbK n) && ((wbS (rb1 n a)).fst.e == (0 : Int) && ((wbS (rb1 n a)).fst.a == (0 : Int) && ((wbS (rb1 n a)).fst.n == (0 : Int) && ((wbS (rb1 n a)).fst.p == (0 : Int) && ((wbS (rb1 n a)).fst.t == (0 : Int) && ((wbS (rb1 n a)).fst.x == (0 : Int) && ((wbS (rb1 n a)).fst.y == (0 : Int) && ((wbS (rb1 n a)).fst.w == (0 : Int) && ((wbS (rb1 n a)).fst.h == (0 : Int) && true)))))))))
noncomputable def wc30 (n : Int) (a : Rd) : Bool := yes (0 + (ansB (rb2 n a)).length ≤ (ansB (rb2 n a)).length ∧ ((fun j => ub (gL (ansB (rb2 n a)) j)) = fun j => ub (ud (ub (gL (ansB (rb2 n a)) j)))) ∧ rng fun j => ud (ub (gL (ansB (rb2 n a)) j)))
noncomputable def wc31 (n : Int) (a : Rd) : Bool := (wbS (rb2 n a)).fst.k == (rbK n) && ((wbS (rb2 n a)).fst.e == and64 a.e (255 : Int) && ((wbS (rb2 n a)).fst.a == fo4 a.a && ((wbS (rb2 n a)).fst.n == (0 : Int) && ((wbS (rb2 n a)).fst.p == (0 : Int) && ((wbS (rb2 n a)).fst.t == (0 : Int) && ((wbS (rb2 n a)).fst.x == (0 : Int) && ((wbS (rb2 n a)).fst.y == (0 : Int) && ((wbS (rb2 n a)).fst.w == (0 : Int) && ((wbS (rb2 n a)).fst.h == (0 : Int) && true)))))))))
noncomputable def wc32 (n : Int) (a : Rd) : Bool := yes (0 + (ansB (rb3 n a)).length ≤ (ansB (rb3 n a)).length ∧ ((fun j => ub (gL (ansB (rb3 n a)) j)) = fun j => ub (ud (ub (gL (ansB (rb3 n a)) j)))) ∧ rng fun j => ud (ub (gL (ansB (rb3 n a)) j)))
noncomputable def wc33 (n : Int) (a : Rd) : Bool := (wbS (rb3 n a)).fst.k == (rbK n) && ((wbS (rb3 n a)).fst.e == (0 : Int) && ((wbS (rb3 n a)).fst.a == (0 : Int) && ((wbS (rb3 n a)).fst.n == (0 : Int) && ((wbS (rb3 n a)).fst.p == fo4 a.p && ((wbS (rb3 n a)).fst.t == fo4 a.t && ((wbS (rb3 n a)).fst.x == (0 : Int) && ((wbS (rb3 n a)).fst.y == (0 : Int) && ((wbS (rb3 n a)).fst.w == (0 : Int) && ((wbS (rb3 n a)).fst.h == (0 : Int) && true)))))))))
noncomputable def wc34 (n : Int) (a : Rd) : Bool := yes (0 + (ansB (rb4 n a)).length ≤ (ansB (rb4 n a)).length ∧ ((fun j => ub (gL (ansB (rb4 n a)) j)) = fun j => ub (ud (ub (gL (ansB (rb4 n a)) j)))) ∧ rng fun j => ud (ub (gL (ansB (rb4 n a)) j)))
noncomputable def wc35 (n : Int) (a : Rd) : Bool := (wbS (rb4 n a)).fst.k == (rbK n) && ((wbS (rb4 n a)).fst.e == (0 : Int) && ((wbS (rb4 n a)).fst.a == (0 : Int) && ((wbS (rb4 n a)).fst.n == (0 : Int) && ((wbS (rb4 n a)).fst.p == (0 : Int) && ((wbS (rb4 n a)).fst.t == (0 : Int) && ((wbS (rb4 n a)).fst.x == w64 (IntKind.i32.wrap a.x) && ((wbS (rb4 n a)).fst.y == w64 (IntKind.i32.wrap a.y) && ((wbS (rb4 n a)).fst.w == w64 (IntKind.i32.wrap a.w) && ((wbS (rb4 n a)).fst.h == w64 (IntKind.i32.wrap a.h) && true)))))))))
theorem wb_n1 {n : Int} {K : Nat} {f : Nat → Int} {a : Rd} {by0 : Int} : (lfun wbG nol 60 Try.f39 [I64 n, .c (.sl 0 0 K), rV a, .c (.v (.int .u8 by0))] [rowJ false K f]).go [true, false, true, true, true, true, false, false, false, false, false, false, false, false, false, false, false, false, false, true, true, true, true, true, true, true, false, true, true, false, false, false, false, false, true, true, true, true, false, false, false, false, false, true, true, true, false] = some ([ wc0 K f, !lqK n == (1 : Int), yes (reqOk (lqQ n [])), wc13 n, yes ((wbR (lqQ n [])).snd = ([], false)), (wbR (lqQ n [])).fst.o.isEmpty, true, true, true, true, true, true, true, true, !!(wc14 n), true, true, true, !(((reqB (lqQ n [])).length : Nat) : Int) == (0 : Int), true, wc15 n, decide ((0 + (reqB (lqQ n [])).length) * 1 ≤ maxCells), wc16 n, true, decide ((0 + (reqB (lqQ n [])).length + 1) * 1 ≤ maxCells), wc17 n by0, !(wc18 n by0), wc19 n, wc20 n, !(wc21 n), true, true, true, true, true, decide ((0 : Int) ≤ (and64 n 255).tmod 6), decide ((and64 n 255).tmod 6 < ((6 : Nat) : Int)), decide (0 + ((and64 n 255).tmod 6).toNat < 6), !(rbK n) == (2 : Int), !(rbK n) == (3 : Int), !(rbK n) == (4 : Int), !(rbK n) == (5 : Int), !(rbK n) == (6 : Int), yes (anOk (rb1 n a)), wc28 n a, yes ((wbS (rb1 n a)).snd = ([], false)), !(wc1 n a), true, true, true, true, true, true, true, wc29 n a, true, true, true, true, true, true, true, true], Bo true, [some ⟨2, false, .row 1 K fun j => [.int .i64 (vd (v1 (f j)))]⟩]) := by kernel_rfl
theorem wb_n2 {n : Int} {K : Nat} {f : Nat → Int} {a : Rd} {by0 : Int} : (lfun wbG nol 60 Try.f39 [I64 n, .c (.sl 0 0 K), rV a, .c (.v (.int .u8 by0))] [rowJ false K f]).go [true, false, true, true, true, true, false, false, false, false, false, false, false, false, false, false, false, false, false, true, true, true, true, true, true, true, false, true, true, false, false, false, false, false, true, true, true, true, true, true, true, true, false] = some ([ wc0 K f, !lqK n == (1 : Int), yes (reqOk (lqQ n [])), wc13 n, yes ((wbR (lqQ n [])).snd = ([], false)), (wbR (lqQ n [])).fst.o.isEmpty, true, true, true, true, true, true, true, true, !!(wc14 n), true, true, true, !(((reqB (lqQ n [])).length : Nat) : Int) == (0 : Int), true, wc15 n, decide ((0 + (reqB (lqQ n [])).length) * 1 ≤ maxCells), wc16 n, true, decide ((0 + (reqB (lqQ n [])).length + 1) * 1 ≤ maxCells), wc17 n by0, !(wc18 n by0), wc19 n, wc20 n, !(wc21 n), true, true, true, true, true, decide ((0 : Int) ≤ (and64 n 255).tmod 6), decide ((and64 n 255).tmod 6 < ((6 : Nat) : Int)), decide (0 + ((and64 n 255).tmod 6).toNat < 6), (rbK n) == (2 : Int), yes (anOk (rb2 n a)), wc30 n a, yes ((wbS (rb2 n a)).snd = ([], false)), !(wc1 n a), true, true, true, true, true, true, true, wc31 n a, true, true, true, true, true, true, true, true], Bo true, [some ⟨2, false, .row 1 K fun j => [.int .i64 (vd (v1 (f j)))]⟩]) := by kernel_rfl
theorem wb_n3 {n : Int} {K : Nat} {f : Nat → Int} {a : Rd} {by0 : Int} : (lfun wbG nol 60 Try.f39 [I64 n, .c (.sl 0 0 K), rV a, .c (.v (.int .u8 by0))] [rowJ false K f]).go [true, false, true, true, true, true, false, false, false, false, false, false, false, false, false, false, false, false, false, true, true, true, true, true, true, true, false, true, true, false, false, false, false, false, true, true, true, true, false, true, true, true, true, false] = some ([ wc0 K f, !lqK n == (1 : Int), yes (reqOk (lqQ n [])), wc13 n, yes ((wbR (lqQ n [])).snd = ([], false)), (wbR (lqQ n [])).fst.o.isEmpty, true, true, true, true, true, true, true, true, !!(wc14 n), true, true, true, !(((reqB (lqQ n [])).length : Nat) : Int) == (0 : Int), true, wc15 n, decide ((0 + (reqB (lqQ n [])).length) * 1 ≤ maxCells), wc16 n, true, decide ((0 + (reqB (lqQ n [])).length + 1) * 1 ≤ maxCells), wc17 n by0, !(wc18 n by0), wc19 n, wc20 n, !(wc21 n), true, true, true, true, true, decide ((0 : Int) ≤ (and64 n 255).tmod 6), decide ((and64 n 255).tmod 6 < ((6 : Nat) : Int)), decide (0 + ((and64 n 255).tmod 6).toNat < 6), !(rbK n) == (2 : Int), (rbK n) == (3 : Int), yes (anOk (rb3 n a)), wc32 n a, yes ((wbS (rb3 n a)).snd = ([], false)), !(wc1 n a), true, true, true, true, true, true, true, wc33 n a, true, true, true, true, true, true, true, true], Bo true, [some ⟨2, false, .row 1 K fun j => [.int .i64 (vd (v1 (f j)))]⟩]) := by kernel_rfl
theorem wb_n4 {n : Int} {K : Nat} {f : Nat → Int} {a : Rd} {by0 : Int} : (lfun wbG nol 60 Try.f39 [I64 n, .c (.sl 0 0 K), rV a, .c (.v (.int .u8 by0))] [rowJ false K f]).go [true, false, true, true, true, true, false, false, false, false, false, false, false, false, false, false, false, false, false, true, true, true, true, true, true, true, false, true, true, false, false, false, false, false, true, true, true, true, false, false, true, true, true, true, false] = some ([ wc0 K f, !lqK n == (1 : Int), yes (reqOk (lqQ n [])), wc13 n, yes ((wbR (lqQ n [])).snd = ([], false)), (wbR (lqQ n [])).fst.o.isEmpty, true, true, true, true, true, true, true, true, !!(wc14 n), true, true, true, !(((reqB (lqQ n [])).length : Nat) : Int) == (0 : Int), true, wc15 n, decide ((0 + (reqB (lqQ n [])).length) * 1 ≤ maxCells), wc16 n, true, decide ((0 + (reqB (lqQ n [])).length + 1) * 1 ≤ maxCells), wc17 n by0, !(wc18 n by0), wc19 n, wc20 n, !(wc21 n), true, true, true, true, true, decide ((0 : Int) ≤ (and64 n 255).tmod 6), decide ((and64 n 255).tmod 6 < ((6 : Nat) : Int)), decide (0 + ((and64 n 255).tmod 6).toNat < 6), !(rbK n) == (2 : Int), !(rbK n) == (3 : Int), (rbK n) == (4 : Int), yes (anOk (rb4 n a)), wc34 n a, yes ((wbS (rb4 n a)).snd = ([], false)), !(wc1 n a), true, true, true, true, true, true, true, wc35 n a, true, true, true, true, true, true, true, true], Bo true, [some ⟨2, false, .row 1 K fun j => [.int .i64 (vd (v1 (f j)))]⟩]) := by kernel_rfl
theorem wb_n5 {n : Int} {K : Nat} {f : Nat → Int} {a : Rd} {by0 : Int} : (lfun wbG nol 60 Try.f39 [I64 n, .c (.sl 0 0 K), rV a, .c (.v (.int .u8 by0))] [rowJ false K f]).go [true, false, true, true, true, true, false, false, false, false, false, false, false, false, false, false, false, false, false, true, true, true, true, true, true, true, false, true, true, false, false, false, false, false, true, true, true, true, false, false, false, true, true, true, true, true, false] = some ([ wc0 K f, !lqK n == (1 : Int), yes (reqOk (lqQ n [])), wc13 n, yes ((wbR (lqQ n [])).snd = ([], false)), (wbR (lqQ n [])).fst.o.isEmpty, true, true, true, true, true, true, true, true, !!(wc14 n), true, true, true, !(((reqB (lqQ n [])).length : Nat) : Int) == (0 : Int), true, wc15 n, decide ((0 + (reqB (lqQ n [])).length) * 1 ≤ maxCells), wc16 n, true, decide ((0 + (reqB (lqQ n [])).length + 1) * 1 ≤ maxCells), wc17 n by0, !(wc18 n by0), wc19 n, wc20 n, !(wc21 n), true, true, true, true, true, decide ((0 : Int) ≤ (and64 n 255).tmod 6), decide ((and64 n 255).tmod 6 < ((6 : Nat) : Int)), decide (0 + ((and64 n 255).tmod 6).toNat < 6), !(rbK n) == (2 : Int), !(rbK n) == (3 : Int), !(rbK n) == (4 : Int), (rbK n) == (5 : Int), true, yes (anOk (rb5 n a)), wc22 n a, yes ((wbS (rb5 n a)).snd = ([], false)), !(wc1 n a), true, true, true, true, true, true, true, wc23 n a, true, true, true, true, true, true, true, true], Bo true, [some ⟨2, false, .row 1 K fun j => [.int .i64 (vd (v1 (f j)))]⟩]) := by kernel_rfl
theorem wb_n6 {n : Int} {K : Nat} {f : Nat → Int} {a : Rd} {by0 : Int} : (lfun wbG nol 60 Try.f39 [I64 n, .c (.sl 0 0 K), rV a, .c (.v (.int .u8 by0))] [rowJ false K f]).go [true, false, true, true, true, true, false, false, false, false, false, false, false, false, false, false, false, false, false, true, true, true, true, true, true, true, false, true, true, false, false, false, false, false, true, true, true, true, false, false, false, false, true, true, true, true, false] = some ([ wc0 K f, !lqK n == (1 : Int), yes (reqOk (lqQ n [])), wc13 n, yes ((wbR (lqQ n [])).snd = ([], false)), (wbR (lqQ n [])).fst.o.isEmpty, true, true, true, true, true, true, true, true, !!(wc14 n), true, true, true, !(((reqB (lqQ n [])).length : Nat) : Int) == (0 : Int), true, wc15 n, decide ((0 + (reqB (lqQ n [])).length) * 1 ≤ maxCells), wc16 n, true, decide ((0 + (reqB (lqQ n [])).length + 1) * 1 ≤ maxCells), wc17 n by0, !(wc18 n by0), wc19 n, wc20 n, !(wc21 n), true, true, true, true, true, decide ((0 : Int) ≤ (and64 n 255).tmod 6), decide ((and64 n 255).tmod 6 < ((6 : Nat) : Int)), decide (0 + ((and64 n 255).tmod 6).toNat < 6), !(rbK n) == (2 : Int), !(rbK n) == (3 : Int), !(rbK n) == (4 : Int), !(rbK n) == (5 : Int), (rbK n) == (6 : Int), yes (anOk (rb5 n a)), wc22 n a, yes ((wbS (rb5 n a)).snd = ([], false)), !(wc1 n a), true, true, true, true, true, true, true, wc23 n a, true, true, true, true, true, true, true, true], Bo true, [some ⟨2, false, .row 1 K fun j => [.int .i64 (vd (v1 (f j)))]⟩]) := by kernel_rfl
theorem wb_e1 {n : Int} {K : Nat} {f : Nat → Int} {a : Rd} {by0 : Int} : (lfun wbG nol 60 Try.f39 [I64 n, .c (.sl 0 0 K), rV a, .c (.v (.int .u8 by0))] [rowJ false K f]).go [true, true, true, true, true, true, true, false, false, false, false, false, false, true, false, false, false, false, false, false, false, true, true, true, true, true, true, true, false, true, true, false, false, false, false, false, true, true, true, true, false, false, false, false, false, true, true, true, false] = some ([ wc0 K f, lqK n == (1 : Int), wc2 n K f, yes (reqOk (lqQ n (qop f K))), wc3 n K f, yes ((wbR (lqQ n (qop f K))).snd = ([], false)), (wbR (lqQ n (qop f K))).fst.o.isEmpty, true, true, true, true, true, true, wc24 K f, true, true, !!(wc25 n K f), true, true, true, !(((reqB (lqQ n (qop f K))).length : Nat) : Int) == (0 : Int), true, wc4 n K f, wc5 n K f, wc6 n K f, true, wc7 n K f, wc8 n K f by0, !(wc9 n K f by0), wc10 n K f, wc11 n K f, !(wc12 n K f), true, true, true, true, true, decide ((0 : Int) ≤ (and64 n 255).tmod 6), decide ((and64 n 255).tmod 6 < ((6 : Nat) : Int)), decide (0 + ((and64 n 255).tmod 6).toNat < 6), !(rbK n) == (2 : Int), !(rbK n) == (3 : Int), !(rbK n) == (4 : Int), !(rbK n) == (5 : Int), !(rbK n) == (6 : Int), yes (anOk (rb1 n a)), wc28 n a, yes ((wbS (rb1 n a)).snd = ([], false)), !(wc1 n a), true, true, true, true, true, true, true, wc29 n a, true, true, true, true, true, true, true, true], Bo true, [some ⟨2, false, .row 1 K fun j => [.int .i64 (vd (v1 (f j)))]⟩]) := by kernel_rfl
theorem wb_e2 {n : Int} {K : Nat} {f : Nat → Int} {a : Rd} {by0 : Int} : (lfun wbG nol 60 Try.f39 [I64 n, .c (.sl 0 0 K), rV a, .c (.v (.int .u8 by0))] [rowJ false K f]).go [true, true, true, true, true, true, true, false, false, false, false, false, false, true, false, false, false, false, false, false, false, true, true, true, true, true, true, true, false, true, true, false, false, false, false, false, true, true, true, true, true, true, true, true, false] = some ([ wc0 K f, lqK n == (1 : Int), wc2 n K f, yes (reqOk (lqQ n (qop f K))), wc3 n K f, yes ((wbR (lqQ n (qop f K))).snd = ([], false)), (wbR (lqQ n (qop f K))).fst.o.isEmpty, true, true, true, true, true, true, wc24 K f, true, true, !!(wc25 n K f), true, true, true, !(((reqB (lqQ n (qop f K))).length : Nat) : Int) == (0 : Int), true, wc4 n K f, wc5 n K f, wc6 n K f, true, wc7 n K f, wc8 n K f by0, !(wc9 n K f by0), wc10 n K f, wc11 n K f, !(wc12 n K f), true, true, true, true, true, decide ((0 : Int) ≤ (and64 n 255).tmod 6), decide ((and64 n 255).tmod 6 < ((6 : Nat) : Int)), decide (0 + ((and64 n 255).tmod 6).toNat < 6), (rbK n) == (2 : Int), yes (anOk (rb2 n a)), wc30 n a, yes ((wbS (rb2 n a)).snd = ([], false)), !(wc1 n a), true, true, true, true, true, true, true, wc31 n a, true, true, true, true, true, true, true, true], Bo true, [some ⟨2, false, .row 1 K fun j => [.int .i64 (vd (v1 (f j)))]⟩]) := by kernel_rfl
theorem wb_e3 {n : Int} {K : Nat} {f : Nat → Int} {a : Rd} {by0 : Int} : (lfun wbG nol 60 Try.f39 [I64 n, .c (.sl 0 0 K), rV a, .c (.v (.int .u8 by0))] [rowJ false K f]).go [true, true, true, true, true, true, true, false, false, false, false, false, false, true, false, false, false, false, false, false, false, true, true, true, true, true, true, true, false, true, true, false, false, false, false, false, true, true, true, true, false, true, true, true, true, false] = some ([ wc0 K f, lqK n == (1 : Int), wc2 n K f, yes (reqOk (lqQ n (qop f K))), wc3 n K f, yes ((wbR (lqQ n (qop f K))).snd = ([], false)), (wbR (lqQ n (qop f K))).fst.o.isEmpty, true, true, true, true, true, true, wc24 K f, true, true, !!(wc25 n K f), true, true, true, !(((reqB (lqQ n (qop f K))).length : Nat) : Int) == (0 : Int), true, wc4 n K f, wc5 n K f, wc6 n K f, true, wc7 n K f, wc8 n K f by0, !(wc9 n K f by0), wc10 n K f, wc11 n K f, !(wc12 n K f), true, true, true, true, true, decide ((0 : Int) ≤ (and64 n 255).tmod 6), decide ((and64 n 255).tmod 6 < ((6 : Nat) : Int)), decide (0 + ((and64 n 255).tmod 6).toNat < 6), !(rbK n) == (2 : Int), (rbK n) == (3 : Int), yes (anOk (rb3 n a)), wc32 n a, yes ((wbS (rb3 n a)).snd = ([], false)), !(wc1 n a), true, true, true, true, true, true, true, wc33 n a, true, true, true, true, true, true, true, true], Bo true, [some ⟨2, false, .row 1 K fun j => [.int .i64 (vd (v1 (f j)))]⟩]) := by kernel_rfl
theorem wb_e4 {n : Int} {K : Nat} {f : Nat → Int} {a : Rd} {by0 : Int} : (lfun wbG nol 60 Try.f39 [I64 n, .c (.sl 0 0 K), rV a, .c (.v (.int .u8 by0))] [rowJ false K f]).go [true, true, true, true, true, true, true, false, false, false, false, false, false, true, false, false, false, false, false, false, false, true, true, true, true, true, true, true, false, true, true, false, false, false, false, false, true, true, true, true, false, false, true, true, true, true, false] = some ([ wc0 K f, lqK n == (1 : Int), wc2 n K f, yes (reqOk (lqQ n (qop f K))), wc3 n K f, yes ((wbR (lqQ n (qop f K))).snd = ([], false)), (wbR (lqQ n (qop f K))).fst.o.isEmpty, true, true, true, true, true, true, wc24 K f, true, true, !!(wc25 n K f), true, true, true, !(((reqB (lqQ n (qop f K))).length : Nat) : Int) == (0 : Int), true, wc4 n K f, wc5 n K f, wc6 n K f, true, wc7 n K f, wc8 n K f by0, !(wc9 n K f by0), wc10 n K f, wc11 n K f, !(wc12 n K f), true, true, true, true, true, decide ((0 : Int) ≤ (and64 n 255).tmod 6), decide ((and64 n 255).tmod 6 < ((6 : Nat) : Int)), decide (0 + ((and64 n 255).tmod 6).toNat < 6), !(rbK n) == (2 : Int), !(rbK n) == (3 : Int), (rbK n) == (4 : Int), yes (anOk (rb4 n a)), wc34 n a, yes ((wbS (rb4 n a)).snd = ([], false)), !(wc1 n a), true, true, true, true, true, true, true, wc35 n a, true, true, true, true, true, true, true, true], Bo true, [some ⟨2, false, .row 1 K fun j => [.int .i64 (vd (v1 (f j)))]⟩]) := by kernel_rfl
theorem wb_e5 {n : Int} {K : Nat} {f : Nat → Int} {a : Rd} {by0 : Int} : (lfun wbG nol 60 Try.f39 [I64 n, .c (.sl 0 0 K), rV a, .c (.v (.int .u8 by0))] [rowJ false K f]).go [true, true, true, true, true, true, true, false, false, false, false, false, false, true, false, false, false, false, false, false, false, true, true, true, true, true, true, true, false, true, true, false, false, false, false, false, true, true, true, true, false, false, false, true, true, true, true, true, false] = some ([ wc0 K f, lqK n == (1 : Int), wc2 n K f, yes (reqOk (lqQ n (qop f K))), wc3 n K f, yes ((wbR (lqQ n (qop f K))).snd = ([], false)), (wbR (lqQ n (qop f K))).fst.o.isEmpty, true, true, true, true, true, true, wc24 K f, true, true, !!(wc25 n K f), true, true, true, !(((reqB (lqQ n (qop f K))).length : Nat) : Int) == (0 : Int), true, wc4 n K f, wc5 n K f, wc6 n K f, true, wc7 n K f, wc8 n K f by0, !(wc9 n K f by0), wc10 n K f, wc11 n K f, !(wc12 n K f), true, true, true, true, true, decide ((0 : Int) ≤ (and64 n 255).tmod 6), decide ((and64 n 255).tmod 6 < ((6 : Nat) : Int)), decide (0 + ((and64 n 255).tmod 6).toNat < 6), !(rbK n) == (2 : Int), !(rbK n) == (3 : Int), !(rbK n) == (4 : Int), (rbK n) == (5 : Int), true, yes (anOk (rb5 n a)), wc22 n a, yes ((wbS (rb5 n a)).snd = ([], false)), !(wc1 n a), true, true, true, true, true, true, true, wc23 n a, true, true, true, true, true, true, true, true], Bo true, [some ⟨2, false, .row 1 K fun j => [.int .i64 (vd (v1 (f j)))]⟩]) := by kernel_rfl
theorem wb_e6 {n : Int} {K : Nat} {f : Nat → Int} {a : Rd} {by0 : Int} : (lfun wbG nol 60 Try.f39 [I64 n, .c (.sl 0 0 K), rV a, .c (.v (.int .u8 by0))] [rowJ false K f]).go [true, true, true, true, true, true, true, false, false, false, false, false, false, true, false, false, false, false, false, false, false, true, true, true, true, true, true, true, false, true, true, false, false, false, false, false, true, true, true, true, false, false, false, false, true, true, true, true, false] = some ([ wc0 K f, lqK n == (1 : Int), wc2 n K f, yes (reqOk (lqQ n (qop f K))), wc3 n K f, yes ((wbR (lqQ n (qop f K))).snd = ([], false)), (wbR (lqQ n (qop f K))).fst.o.isEmpty, true, true, true, true, true, true, wc24 K f, true, true, !!(wc25 n K f), true, true, true, !(((reqB (lqQ n (qop f K))).length : Nat) : Int) == (0 : Int), true, wc4 n K f, wc5 n K f, wc6 n K f, true, wc7 n K f, wc8 n K f by0, !(wc9 n K f by0), wc10 n K f, wc11 n K f, !(wc12 n K f), true, true, true, true, true, decide ((0 : Int) ≤ (and64 n 255).tmod 6), decide ((and64 n 255).tmod 6 < ((6 : Nat) : Int)), decide (0 + ((and64 n 255).tmod 6).toNat < 6), !(rbK n) == (2 : Int), !(rbK n) == (3 : Int), !(rbK n) == (4 : Int), !(rbK n) == (5 : Int), (rbK n) == (6 : Int), yes (anOk (rb5 n a)), wc22 n a, yes ((wbS (rb5 n a)).snd = ([], false)), !(wc1 n a), true, true, true, true, true, true, true, wc23 n a, true, true, true, true, true, true, true, true], Bo true, [some ⟨2, false, .row 1 K fun j => [.int .i64 (vd (v1 (f j)))]⟩]) := by kernel_rfl
theorem wb_s1 {n : Int} {K : Nat} {f : Nat → Int} {a : Rd} {by0 : Int} : (lfun wbG nol 60 Try.f39 [I64 n, .c (.sl 0 0 K), rV a, .c (.v (.int .u8 by0))] [rowJ false K f]).go [true, true, true, true, true, true, false, false, false, false, false, false, false, true, false, false, false, false, false, false, false, true, true, true, true, true, true, true, false, true, true, false, false, false, false, false, true, true, true, true, false, false, false, false, false, true, true, true, false] = some ([ wc0 K f, lqK n == (1 : Int), wc2 n K f, yes (reqOk (lqQ n (qop f K))), wc3 n K f, yes ((wbR (lqQ n (qop f K))).snd = ([], false)), !(wbR (lqQ n (qop f K))).fst.o.isEmpty, true, true, true, true, true, true, wc26 n K f, true, true, !!(wc27 n K f), true, true, true, !(((reqB (lqQ n (qop f K))).length : Nat) : Int) == (0 : Int), true, wc4 n K f, wc5 n K f, wc6 n K f, true, wc7 n K f, wc8 n K f by0, !(wc9 n K f by0), wc10 n K f, wc11 n K f, !(wc12 n K f), true, true, true, true, true, decide ((0 : Int) ≤ (and64 n 255).tmod 6), decide ((and64 n 255).tmod 6 < ((6 : Nat) : Int)), decide (0 + ((and64 n 255).tmod 6).toNat < 6), !(rbK n) == (2 : Int), !(rbK n) == (3 : Int), !(rbK n) == (4 : Int), !(rbK n) == (5 : Int), !(rbK n) == (6 : Int), yes (anOk (rb1 n a)), wc28 n a, yes ((wbS (rb1 n a)).snd = ([], false)), !(wc1 n a), true, true, true, true, true, true, true, wc29 n a, true, true, true, true, true, true, true, true], Bo true, [some ⟨2, false, .row 1 K fun j => [.int .i64 (vd (v1 (f j)))]⟩]) := by kernel_rfl
theorem wb_s2 {n : Int} {K : Nat} {f : Nat → Int} {a : Rd} {by0 : Int} : (lfun wbG nol 60 Try.f39 [I64 n, .c (.sl 0 0 K), rV a, .c (.v (.int .u8 by0))] [rowJ false K f]).go [true, true, true, true, true, true, false, false, false, false, false, false, false, true, false, false, false, false, false, false, false, true, true, true, true, true, true, true, false, true, true, false, false, false, false, false, true, true, true, true, true, true, true, true, false] = some ([ wc0 K f, lqK n == (1 : Int), wc2 n K f, yes (reqOk (lqQ n (qop f K))), wc3 n K f, yes ((wbR (lqQ n (qop f K))).snd = ([], false)), !(wbR (lqQ n (qop f K))).fst.o.isEmpty, true, true, true, true, true, true, wc26 n K f, true, true, !!(wc27 n K f), true, true, true, !(((reqB (lqQ n (qop f K))).length : Nat) : Int) == (0 : Int), true, wc4 n K f, wc5 n K f, wc6 n K f, true, wc7 n K f, wc8 n K f by0, !(wc9 n K f by0), wc10 n K f, wc11 n K f, !(wc12 n K f), true, true, true, true, true, decide ((0 : Int) ≤ (and64 n 255).tmod 6), decide ((and64 n 255).tmod 6 < ((6 : Nat) : Int)), decide (0 + ((and64 n 255).tmod 6).toNat < 6), (rbK n) == (2 : Int), yes (anOk (rb2 n a)), wc30 n a, yes ((wbS (rb2 n a)).snd = ([], false)), !(wc1 n a), true, true, true, true, true, true, true, wc31 n a, true, true, true, true, true, true, true, true], Bo true, [some ⟨2, false, .row 1 K fun j => [.int .i64 (vd (v1 (f j)))]⟩]) := by kernel_rfl
theorem wb_s3 {n : Int} {K : Nat} {f : Nat → Int} {a : Rd} {by0 : Int} : (lfun wbG nol 60 Try.f39 [I64 n, .c (.sl 0 0 K), rV a, .c (.v (.int .u8 by0))] [rowJ false K f]).go [true, true, true, true, true, true, false, false, false, false, false, false, false, true, false, false, false, false, false, false, false, true, true, true, true, true, true, true, false, true, true, false, false, false, false, false, true, true, true, true, false, true, true, true, true, false] = some ([ wc0 K f, lqK n == (1 : Int), wc2 n K f, yes (reqOk (lqQ n (qop f K))), wc3 n K f, yes ((wbR (lqQ n (qop f K))).snd = ([], false)), !(wbR (lqQ n (qop f K))).fst.o.isEmpty, true, true, true, true, true, true, wc26 n K f, true, true, !!(wc27 n K f), true, true, true, !(((reqB (lqQ n (qop f K))).length : Nat) : Int) == (0 : Int), true, wc4 n K f, wc5 n K f, wc6 n K f, true, wc7 n K f, wc8 n K f by0, !(wc9 n K f by0), wc10 n K f, wc11 n K f, !(wc12 n K f), true, true, true, true, true, decide ((0 : Int) ≤ (and64 n 255).tmod 6), decide ((and64 n 255).tmod 6 < ((6 : Nat) : Int)), decide (0 + ((and64 n 255).tmod 6).toNat < 6), !(rbK n) == (2 : Int), (rbK n) == (3 : Int), yes (anOk (rb3 n a)), wc32 n a, yes ((wbS (rb3 n a)).snd = ([], false)), !(wc1 n a), true, true, true, true, true, true, true, wc33 n a, true, true, true, true, true, true, true, true], Bo true, [some ⟨2, false, .row 1 K fun j => [.int .i64 (vd (v1 (f j)))]⟩]) := by kernel_rfl
theorem wb_s4 {n : Int} {K : Nat} {f : Nat → Int} {a : Rd} {by0 : Int} : (lfun wbG nol 60 Try.f39 [I64 n, .c (.sl 0 0 K), rV a, .c (.v (.int .u8 by0))] [rowJ false K f]).go [true, true, true, true, true, true, false, false, false, false, false, false, false, true, false, false, false, false, false, false, false, true, true, true, true, true, true, true, false, true, true, false, false, false, false, false, true, true, true, true, false, false, true, true, true, true, false] = some ([ wc0 K f, lqK n == (1 : Int), wc2 n K f, yes (reqOk (lqQ n (qop f K))), wc3 n K f, yes ((wbR (lqQ n (qop f K))).snd = ([], false)), !(wbR (lqQ n (qop f K))).fst.o.isEmpty, true, true, true, true, true, true, wc26 n K f, true, true, !!(wc27 n K f), true, true, true, !(((reqB (lqQ n (qop f K))).length : Nat) : Int) == (0 : Int), true, wc4 n K f, wc5 n K f, wc6 n K f, true, wc7 n K f, wc8 n K f by0, !(wc9 n K f by0), wc10 n K f, wc11 n K f, !(wc12 n K f), true, true, true, true, true, decide ((0 : Int) ≤ (and64 n 255).tmod 6), decide ((and64 n 255).tmod 6 < ((6 : Nat) : Int)), decide (0 + ((and64 n 255).tmod 6).toNat < 6), !(rbK n) == (2 : Int), !(rbK n) == (3 : Int), (rbK n) == (4 : Int), yes (anOk (rb4 n a)), wc34 n a, yes ((wbS (rb4 n a)).snd = ([], false)), !(wc1 n a), true, true, true, true, true, true, true, wc35 n a, true, true, true, true, true, true, true, true], Bo true, [some ⟨2, false, .row 1 K fun j => [.int .i64 (vd (v1 (f j)))]⟩]) := by kernel_rfl
theorem wb_s5 {n : Int} {K : Nat} {f : Nat → Int} {a : Rd} {by0 : Int} : (lfun wbG nol 60 Try.f39 [I64 n, .c (.sl 0 0 K), rV a, .c (.v (.int .u8 by0))] [rowJ false K f]).go [true, true, true, true, true, true, false, false, false, false, false, false, false, true, false, false, false, false, false, false, false, true, true, true, true, true, true, true, false, true, true, false, false, false, false, false, true, true, true, true, false, false, false, true, true, true, true, true, false] = some ([ wc0 K f, lqK n == (1 : Int), wc2 n K f, yes (reqOk (lqQ n (qop f K))), wc3 n K f, yes ((wbR (lqQ n (qop f K))).snd = ([], false)), !(wbR (lqQ n (qop f K))).fst.o.isEmpty, true, true, true, true, true, true, wc26 n K f, true, true, !!(wc27 n K f), true, true, true, !(((reqB (lqQ n (qop f K))).length : Nat) : Int) == (0 : Int), true, wc4 n K f, wc5 n K f, wc6 n K f, true, wc7 n K f, wc8 n K f by0, !(wc9 n K f by0), wc10 n K f, wc11 n K f, !(wc12 n K f), true, true, true, true, true, decide ((0 : Int) ≤ (and64 n 255).tmod 6), decide ((and64 n 255).tmod 6 < ((6 : Nat) : Int)), decide (0 + ((and64 n 255).tmod 6).toNat < 6), !(rbK n) == (2 : Int), !(rbK n) == (3 : Int), !(rbK n) == (4 : Int), (rbK n) == (5 : Int), true, yes (anOk (rb5 n a)), wc22 n a, yes ((wbS (rb5 n a)).snd = ([], false)), !(wc1 n a), true, true, true, true, true, true, true, wc23 n a, true, true, true, true, true, true, true, true], Bo true, [some ⟨2, false, .row 1 K fun j => [.int .i64 (vd (v1 (f j)))]⟩]) := by kernel_rfl
theorem wb_s6 {n : Int} {K : Nat} {f : Nat → Int} {a : Rd} {by0 : Int} : (lfun wbG nol 60 Try.f39 [I64 n, .c (.sl 0 0 K), rV a, .c (.v (.int .u8 by0))] [rowJ false K f]).go [true, true, true, true, true, true, false, false, false, false, false, false, false, true, false, false, false, false, false, false, false, true, true, true, true, true, true, true, false, true, true, false, false, false, false, false, true, true, true, true, false, false, false, false, true, true, true, true, false] = some ([ wc0 K f, lqK n == (1 : Int), wc2 n K f, yes (reqOk (lqQ n (qop f K))), wc3 n K f, yes ((wbR (lqQ n (qop f K))).snd = ([], false)), !(wbR (lqQ n (qop f K))).fst.o.isEmpty, true, true, true, true, true, true, wc26 n K f, true, true, !!(wc27 n K f), true, true, true, !(((reqB (lqQ n (qop f K))).length : Nat) : Int) == (0 : Int), true, wc4 n K f, wc5 n K f, wc6 n K f, true, wc7 n K f, wc8 n K f by0, !(wc9 n K f by0), wc10 n K f, wc11 n K f, !(wc12 n K f), true, true, true, true, true, decide ((0 : Int) ≤ (and64 n 255).tmod 6), decide ((and64 n 255).tmod 6 < ((6 : Nat) : Int)), decide (0 + ((and64 n 255).tmod 6).toNat < 6), !(rbK n) == (2 : Int), !(rbK n) == (3 : Int), !(rbK n) == (4 : Int), !(rbK n) == (5 : Int), (rbK n) == (6 : Int), yes (anOk (rb5 n a)), wc22 n a, yes ((wbS (rb5 n a)).snd = ([], false)), !(wc1 n a), true, true, true, true, true, true, true, wc23 n a, true, true, true, true, true, true, true, true], Bo true, [some ⟨2, false, .row 1 K fun j => [.int .i64 (vd (v1 (f j)))]⟩]) := by kernel_rfl
end
section
open Go Go.RowKit Go.ChangeShapes Go.WideShapes Go.ChangeAt
theorem ins_reply {ss : List Shp} {is : List In} (h : InsOk (.agg [.int .i64, .int .i64, .int .i64, .int .i64, .int .i64, .int .i64, .int .i64, .int .i64, .int .i64, .int .i64] :: ss) is) : ∃ (r : Rd) (is' : List In), is = .agg [.int .i64 r.k, .int .i64 r.e, .int .i64 r.a, .int .i64 r.n, .int .i64 r.p, .int .i64 r.t, .int .i64 r.x, .int .i64 r.y, .int .i64 r.w, .int .i64 r.h] :: is' ∧ InsOk ss is' := by
  obtain ⟨i, is', rfl, h1, h2⟩ := ins_cons h
  cases i with
  | agg cs =>
    have h1' : F2 Kd.ok [.int .i64, .int .i64, .int .i64, .int .i64, .int .i64, .int .i64, .int .i64, .int .i64, .int .i64, .int .i64] cs := h1
    cases h1' with
    | cons p1 h1' => cases h1' with
      | cons p2 h1' => cases h1' with
        | cons p3 h1' => cases h1' with
          | cons p4 h1' => cases h1' with
            | cons p5 h1' => cases h1' with
              | cons p6 h1' => cases h1' with
                | cons p7 h1' => cases h1' with
                  | cons p8 h1' => cases h1' with
                    | cons p9 h1' => cases h1' with
                      | cons p10 h1' => cases h1' with
                        | nil =>
                          obtain ⟨a1, rfl, _⟩ := p1
                          obtain ⟨a2, rfl, _⟩ := p2
                          obtain ⟨a3, rfl, _⟩ := p3
                          obtain ⟨a4, rfl, _⟩ := p4
                          obtain ⟨a5, rfl, _⟩ := p5
                          obtain ⟨a6, rfl, _⟩ := p6
                          obtain ⟨a7, rfl, _⟩ := p7
                          obtain ⟨a8, rfl, _⟩ := p8
                          obtain ⟨a9, rfl, _⟩ := p9
                          obtain ⟨a10, rfl, _⟩ := p10
                          exact ⟨⟨a1, a2, a3, a4, a5, a6, a7, a8, a9, a10⟩, is', rfl, h2⟩
  | _ => cases h1
theorem ins_u8 {ss : List Shp} {is : List In} (h : InsOk (.one (.int .u8) :: ss) is) : ∃ (a : Int) (is' : List In), is = .one (.int .u8 a) :: is' ∧ InsOk ss is' ∧ 0 ≤ a ∧ a < 256 := by
  obtain ⟨i, is', rfl, h1, h2⟩ := ins_cons h
  cases i with
  | one v =>
    obtain ⟨⟨a, rfl, hw⟩, _⟩ := h1
    refine ⟨a, is', rfl, h2, ?_⟩
    simp only [Lit.wf, Bool.and_eq_true, decide_eq_true_eq] at hw
    have e1 : IntKind.u8.min = 0 := by decide
    have e2 : IntKind.u8.max = 255 := by decide
    omega
  | _ => cases h1
end
end Go.Proofs.Ytcpahifgdppkbaa.QAI
