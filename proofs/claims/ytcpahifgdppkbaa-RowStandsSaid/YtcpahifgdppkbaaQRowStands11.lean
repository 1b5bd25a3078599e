/- Lines that are placed: what the walks of all lines come to. -/
import Derived.Test.YtcpahifgdppkbaaQRowStands10
section
set_option linter.unusedVariables false
set_option linter.unusedSimpArgs false
namespace Go.Proofs.Ytcpahifgdppkbaa.QAI
open Go Go.RowKit
set_option maxRecDepth 100000
theorem cat_pc (l l' : List Pc) : cat (encC zPc) (fun j => encC (pcAt l j)) l.length (fun j => encC (pcAt l' j)) 0 l'.length = fun j => encC (pcAt (l ++ l') j) := by
  funext j
  unfold cat pcAt
  simp only [List.getD_eq_getElem?_getD]
  by_cases h : j < l.length
  · rw [if_pos h, List.getElem?_append_left h]
  · rw [if_neg h, List.getElem?_append_right (by omega)]
    by_cases h2 : j < l.length + l'.length
    · rw [if_pos h2, Nat.zero_add]
    · rw [if_neg h2, List.getElem?_eq_none (by omega)]; rfl
theorem cat_pc' (l l' : List Pc) : (fun k => if k < l.length then encC (pcAt l k) else if k < l.length + l'.length then encC (pcAt l' (k - l.length)) else encC zPc) = fun j => encC (pcAt (l ++ l') j) := by
  rw [← cat_pc]
  funext j
  unfold cat
  simp only [Nat.zero_add]
def PlOk (k n : Nat) (A : Int) (ng : Nat) (L : Nat → Gl) : Prop :=
  k ≤ n ∧ ng < 2 ^ 30 ∧ (-1125899906842624 ≤ A ∧ A ≤ 1125899906842624) ∧ WOk L ∧ ∀ z, z < ng → 0 ≤ (L z).r ∧ (L z).r < k ∧ 0 ≤ (L z).a ∧ (L z).a < 1099511627776
theorem sp_at {n : Nat} {L : Nat → Gl} {A : Int} {j : Nat} (hj : j < lnC n L A) : spAt (lns n L A) j = ⟨lnAt n L A j, lnTo n L A j, lnW n L A j⟩ := by
  have h1 := (lnC_spec n L A).2.1 j hj
  obtain ⟨h, _⟩ := ln_line (show lnAt n L A j ≤ n by omega)
  have e : spAt (lns n L A) j = spOf n L A (lnAt n L A j) := by
    unfold spAt lns lnsN
    rw [List.getD_eq_getElem?_getD, List.getElem?_map, List.getElem?_range hj]
    rfl
  rw [e, spOf, h.eq]
  rfl
theorem ln_le {n : Nat} {L : Nat → Gl} {A : Int} : ∀ j, j < lnC n L A → lnAt n L A j ≤ n := fun j hj => by
  have := (lnC_spec n L A).2.1 j hj
  omega
section
variable {own : Bool} {k n : Nat} {R : Nat → Rn} {A st al : Int} {ng : Nat} {L : Nat → Gl}
theorem PlOk.ln (h : PlOk k n A ng L) {j : Nat} (hj : j < lnC ng L A) : LnOk k n R (lnAt ng L A j) (lnTo ng L A j - lnAt ng L A j) ng L (hd st) (stA A (lnW ng L A j) al) (lnY ng L A R (hd st) j) := by
  obtain ⟨h1, h2, h3, h4, h5⟩ := h
  obtain ⟨hl, _⟩ := ln_line (ln_le j hj)
  have hle := hl.le
  have hln := hl.ln
  have hb := hd_b st
  have hY := lnY_b (n := ng) (L := L) (A := A) (R := R) hb.1 hb.2 j
  have hC := (lnC_spec ng L A).1
  have hX := stA_b A (lnW ng L A j) al
  have hW := sw_b h4 (lnAt ng L A j) (lnTo ng L A j - lnAt ng L A j)
  have hWd : lnW ng L A j = sw L (lnAt ng L A j) (lnTo ng L A j - lnAt ng L A j) := rfl
  refine ⟨h1, by omega, h2, hb, ⟨hX.1, by omega⟩, ⟨hY.1, by omega⟩, h4, fun q hq => h5 _ (by omega)⟩
def plM (own : Bool) (k n : Nat) (R : Nat → Rn) (A st al : Int) (ng : Nat) (L : Nat → Gl) (c : Nat) (S : Nat → Sp) (np : Nat) (f : Nat → List Value) (y i : Int) : St :=
  ⟨slots 60 [(1, .c (.sl 0 0 k)), (2, I64 A), (3, I64 st), (4, I64 al), (12, .c (.sl 1 0 ng)), (13, .c (.sl 2 0 np)), (14, I64 y), (24, .c (.sl 3 0 c)), (25, I64 c), (26, I64 i)], [rowRn own n R, rowGl ng L, some ⟨112, true, .row 8 np f⟩, rowSp c S]⟩
theorem pl_loop (h : PlOk k n A ng L) :
    CodeSem plG 1 (.loop (bodyOf Try.f96 0)) (plS own k n R A st al ng L (lnC ng L A) (spAt (lns ng L A)) 0 (fun _ => zPc) 0 0)
      (.exit 0, plS own k n R A st al ng L (lnC ng L A) (spAt (lns ng L A)) (plN ng L A R (hd st) al (lnC ng L A)).length (pcAt (plN ng L A R (hd st) al (lnC ng L A))) (lnY ng L A R (hd st) (lnC ng L A)) (lnC ng L A)) := by
  refine loop_of (fun j => plS own k n R A st al ng L (lnC ng L A) (spAt (lns ng L A)) (plN ng L A R (hd st) al j).length (pcAt (plN ng L A R (hd st) al j)) (lnY ng L A R (hd st) j) j) (lnC ng L A) (by simp) ?_ fun j hj => ?_
  · exact rT_sem plG_ok noLoopsS (rT_go pl_e ⟨by simp, trivial⟩)
  · have hLn := h.ln (R := R) (st := st) (al := al) hj
    have hS := sp_at hj
    obtain ⟨hl, _⟩ := ln_line (ln_le j hj)
    have hle := hl.le
    have hln := hl.ln
    have hb := hd_b st
    have hC := (lnC_spec ng L A).1
    have hng := h.2.1
    have e3 := succ64 (j := j) (by omega)
    have hud := udN_b (R := R) (L := L) (o := lnAt ng L A j) hb.1 hb.2 (lnTo ng L A j - lnAt ng L A j)
    have hY := hLn.2.2.2.2.2.1
    have hW := sw_b hLn.2.2.2.2.2.2.1 (lnAt ng L A j) (lnTo ng L A j - lnAt ng L A j)
    have hWd : lnW ng L A j = sw L (lnAt ng L A j) (lnTo ng L A j - lnAt ng L A j) := rfl
    have e4 : w64 (lnY ng L A R (hd st) j + ((udN R L (hd st) (lnAt ng L A j) (lnTo ng L A j - lnAt ng L A j)).1 + (udN R L (hd st) (lnAt ng L A j) (lnTo ng L A j - lnAt ng L A j)).2)) = lnY ng L A R (hd st) (j + 1) := by
      rw [w64_id (by omega) (by omega)]; rfl
    have hdec : decInt (lnAt ng L A j : Int) (lnTo ng L A j : Int) ng = true := by simp [decInt]; omega
    have hlen := plN_len (n := ng) (L := L) (A := A) (R := R) (s := hd st) (al := al) j fun q hq => ln_le q (by omega)
    have hlen2 := lnP_len (n := ng) (L := L) (A := A) (R := R) (s := hd st) (al := al) (i := j)
    have hlnj := ln_le j hj
    have e5 : pcs R L (lnAt ng L A j) (stA A (lnW ng L A j) al) (lnY ng L A R (hd st) j + (udN R L (hd st) (lnAt ng L A j) (lnTo ng L A j - lnAt ng L A j)).1) j (lnTo ng L A j - lnAt ng L A j) = lnP ng L A R (hd st) al j := rfl
    have hcell : decide (((plN ng L A R (hd st) al j).length + (lnP ng L A R (hd st) al j).length) * 64 ≤ maxCells) = true := decide_eq_true (by unfold maxCells; omega)
    have e6 : plN ng L A R (hd st) al (j + 1) = plN ng L A R (hd st) al j ++ lnP ng L A R (hd st) al j := rfl
    rw [e6, List.length_append]
    generalize lnP ng L A R (hd st) al j = l' at e5 hcell ⊢
    generalize plN ng L A R (hd st) al j = l at hcell ⊢
    have hA := h.2.2.1
    refine rT_sem plG_ok noLoopsS ((rT_go pl_go ?_).trans ?_)
    · try simp only [Int.toNat_natCast, Nat.zero_add, hS, e3, e4, e5]
      repeat' (first | exact AllT.nil | refine AllT.cons ?_ ?_)
      all_goals first | (with_reducible rfl) | (with_reducible assumption) | exact yes_of ⟨hLn, rfl, rfl⟩ | exact yes_of ⟨by omega, by omega, by omega, by omega⟩ | exact yes_of ⟨rfl, rfl⟩ | exact decide_eq_true (by omega) | exact beq_iff_eq.2 (by omega) | (simp; done) | (simp; omega)
    · try simp only [Int.toNat_natCast, Nat.zero_add, hS, e3, e4, e5]
      exact congrArg (fun f => some (Ex.normal, plM own k n R A st al ng L (lnC ng L A) (spAt (lns ng L A)) (l.length + l'.length) f (lnY ng L A R (hd st) (j + 1)) ((j + 1 : Nat) : Int))) (cat_pc' l l')
theorem gscan {t a : Nat} : ∀ d b, b + d = t → a < b → (∀ q, a ≤ q → q < b → (L q).r = (L a).r) → ∃ b', a < b' ∧ b' ≤ t ∧ (∀ q, a ≤ q → q < b' → (L q).r = (L a).r) ∧ (b' = t ∨ (L b').r ≠ (L a).r)
  | 0, b, hb, hab, hs => ⟨b, hab, by omega, hs, .inl (by omega)⟩
  | d + 1, b, hb, hab, hs => by
    by_cases h : (L b).r = (L a).r
    · refine gscan d (b + 1) (by omega) (by omega) fun q h1 h2 => ?_
      rcases Nat.lt_or_ge q b with h3 | h3
      · exact hs q h1 h3
      · have : q = b := by omega
        rw [this, h]
    · exact ⟨b, hab, by omega, hs, .inr h⟩
variable {c : Nat} {S : Nat → Sp} {np : Nat} {P : Nat → Pc} {y s : Int} {up dn x : Int}
theorem rp3_loop {j a b o t : Nat} {w : Int} (hng : ng < 2 ^ 30) (hj : j < c) (hS : S j = ⟨o, t, w⟩) (hab : a < b) (hbt : b ≤ t) (htn : t ≤ ng) (hs : ∀ q, a ≤ q → q < b → (L q).r = (L a).r) (he : b = t ∨ (L b).r ≠ (L a).r) :
    CodeSem rpG 1 (.loop (bodyOf Try.f98 3)) (rp3S own k n R A al ng L c S np P y s j up dn x a a) (.exit 6, rp3S own k n R A al ng L c S np P y s j up dn x a b) := by
  have key := loop_of (G := rpG) (n0 := 1) (b := bodyOf Try.f98 3) (fun d => rp3S own k n R A al ng L c S np P y s j up dn x a ((a + d : Nat) : Int)) (b - a) (e := .exit 6) (Se := rp3S own k n R A al ng L c S np P y s j up dn x a ((a + (b - a) : Nat) : Int)) (by simp) ?_ fun d hd => ?_
  · rw [show a + (b - a) = b by omega] at key
    exact key
  · rw [show a + (b - a) = b by omega]
    by_cases hbt' : b = t
    · refine rT_sem rpG_ok noLoopsS ((rT_go rp3_e1 ?_).trans ?_)
      · try simp only [Int.toNat_natCast, Nat.zero_add, hS]
        repeat' (first | exact AllT.nil | refine AllT.cons ?_ ?_)
        all_goals first | (with_reducible rfl) | (with_reducible assumption) | exact yes_of ⟨rfl, rfl⟩ | exact decide_eq_true (by omega) | exact beq_iff_eq.2 (by omega) | (simp; done) | (simp; omega)
      · try simp only [Int.toNat_natCast, Nat.zero_add, hS]
        rfl
    · have hr : (!((L b).r == (L a).r)) = true := by
        have : ((L b).r == (L a).r) = false := by
          rw [beq_eq_false_iff_ne]; rcases he with h | h
          · exact absurd h hbt'
          · exact h
        rw [this]; rfl
      refine rT_sem rpG_ok noLoopsS ((rT_go rp3_e2 ?_).trans ?_)
      · try simp only [Int.toNat_natCast, Nat.zero_add, hS]
        repeat' (first | exact AllT.nil | refine AllT.cons ?_ ?_)
        all_goals first | (with_reducible rfl) | (with_reducible assumption) | exact yes_of ⟨rfl, rfl⟩ | exact decide_eq_true (by omega) | exact beq_iff_eq.2 (by omega) | (simp; done) | (simp; omega)
      · try simp only [Int.toNat_natCast, Nat.zero_add, hS]
        rfl
  · have e3 := succ64 (j := a + d) (by omega)
    have hr : ((L (a + d)).r == (L a).r) = true := by rw [hs (a + d) (by omega) (by omega)]; simp
    refine rT_sem rpG_ok noLoopsS ((rT_go rp3_go ?_).trans ?_)
    · try simp only [Int.toNat_natCast, Nat.zero_add, hS, e3]
      repeat' (first | exact AllT.nil | refine AllT.cons ?_ ?_)
      all_goals first | (with_reducible rfl) | (with_reducible assumption) | exact yes_of ⟨rfl, rfl⟩ | exact decide_eq_true (by omega) | exact beq_iff_eq.2 (by omega) | (simp; done) | (simp; omega)
    · try simp only [Int.toNat_natCast, Nat.zero_add, hS, e3]
      rfl
def rp2M (own : Bool) (k n : Nat) (R : Nat → Rn) (A al : Int) (ng : Nat) (L : Nat → Gl) (c : Nat) (S : Nat → Sp) (np : Nat) (P : Nat → Pc) (y s i : Int) (up dn x a : Int) (f : Nat → List Value) : St := ⟨slots 201 [(1, .c (.sl 0 0 k)), (2, I64 A), (4, I64 al), (12, .c (.sl 1 0 ng)), (13, .c (.sl 2 0 c)), (14, .c (.sl 3 0 np)), (15, I64 y), (16, I64 s), (17, I64 i), (18, I64 up), (19, I64 dn), (22, I64 x), (24, I64 a)], [rowRn own n R, rowGl ng L, rowSp c S, some ⟨112, true, .row 8 np f⟩]⟩
theorem rp2_step {j o t : Nat} {w X : Int} {l0 : List Pc} {a b : Nat} (h : LnOk k n R o (t - o) ng L s X y) (hup : 0 ≤ up ∧ up ≤ 1073741824) (hj : j < c) (hS : S j = ⟨o, t, w⟩) (hl0 : l0.length ≤ o) (ho : o ≤ a) (hn : newAt L o (a - o) = true) (hab : a < b) (hbt : b ≤ t) (hs : ∀ q, a ≤ q → q < b → (L q).r = (L a).r) (he : b = t ∨ (L b).r ≠ (L a).r) :
    CodeSem rpG 1 (bodyOf Try.f98 2) (rp2S own k n R A al ng L c S (l0 ++ pcs R L o X (y + up) j (a - o)).length (pcAt (l0 ++ pcs R L o X (y + up) j (a - o))) y s j up dn (X + sw L o (a - o)) a)
      (.normal, rp2S own k n R A al ng L c S (l0 ++ pcs R L o X (y + up) j (b - o)).length (pcAt (l0 ++ pcs R L o X (y + up) j (b - o))) y s j up dn (X + sw L o (b - o)) b) := by
  obtain ⟨h1, h2, h3, h4, hx, hy, hL, hg⟩ := h
  have hlen := (gps_ok L o (a - o)).len
  have hpl := pcs_len R L o X (y + up) j (a - o)
  have e1 := pcs_scan (R := R) (x := X) (yu := y + up) (n := j) ho hn (b - a - 1) (fun q h1 h2 => hs q h1 (by omega))
  rw [show a + 1 + (b - a - 1) = b by omega] at e1
  rw [e1, ← List.append_assoc]
  have hP := pcAt_app (l0 ++ pcs R L o X (y + up) j (a - o)) (pcOf R L o X (y + up) j (a, b))
  have hll : (l0 ++ pcs R L o X (y + up) j (a - o)).length ≤ t := by rw [List.length_append]; omega
  generalize l0 ++ pcs R L o X (y + up) j (a - o) = l at hP hll ⊢
  rw [List.length_append, List.length_singleton]
  obtain ⟨r1, r2, a1, a2⟩ := hg (a - o) (by omega)
  obtain ⟨_, _, b1, b2⟩ := hg (b - 1 - o) (by omega)
  rw [show o + (a - o) = a by omega] at r1 r2 a1 a2
  rw [show o + (b - 1 - o) = b - 1 by omega] at b1 b2
  have hb := hd_b (R (L a).r.toNat).l
  have hu := upL_b hb.1
  have hs1 := sw_b hL o (a - o)
  have hs2 := sw_b hL a (b - a)
  have e2 := sw_add (L := L) o (a - o) (b - a)
  rw [show a - o + (b - a) = b - o by omega, show o + (a - o) = a by omega] at e2
  have e3 : w64 (X + sw L o (a - o) + sw L a (b - a)) = X + sw L o (b - o) := by rw [w64_id (by omega) (by omega)]; omega
  have e4 : w64 ((b : Int) - 1) = ((b - 1 : Nat) : Int) := by rw [w64_id (by omega) (by omega)]; omega
  have e5 : w64 (y + up) = y + up := w64_id (by omega) (by omega)
  have e6 : w64 (y + up - upL (hd (R (L a).r.toNat).l)) = y + up - upL (hd (R (L a).r.toNat).l) := w64_id (by omega) (by omega)
  have e7 : w64 ((L (b - 1)).a + 1) = (L (b - 1)).a + 1 := w64_id (by omega) (by omega)
  have hdec : decInt (a : Int) (b : Int) ng = true := by simp [decInt]; omega
  have hcell : decide ((l.length + 1) * 64 ≤ maxCells) = true := decide_eq_true (by unfold maxCells; omega)
  have l3 := rp3_loop (own := own) (k := k) (n := n) (R := R) (A := A) (al := al) (np := l.length) (P := pcAt l) (y := y) (s := s) (up := up) (dn := dn) (x := X + sw L o (a - o)) h3 hj hS hab hbt (by omega) hs he
  refine rT_sem rpG_ok (tell_ok l3) ((rT_go rp2_go ?_).trans ?_)
  · try simp only [Int.toNat_natCast, Nat.zero_add, hS, e3, e4, e5, e6, e7]
    repeat' (first | exact AllT.nil | refine AllT.cons ?_ ?_)
    all_goals first | (with_reducible rfl) | (with_reducible assumption) | exact yes_of ⟨by omega, by omega, rfl, hL⟩ | exact yes_of ⟨by omega, by omega⟩ | exact yes_of ⟨rfl, rfl⟩ | exact decide_eq_true (by omega) | exact beq_iff_eq.2 (by omega) | (simp; done) | (simp; omega)
  · try simp only [Int.toNat_natCast, Nat.zero_add, hS, e3, e4, e5, e6, e7]
    refine congrArg (fun f => some (Ex.normal, rp2M own k n R A al ng L c S (l.length + 1) (fun _ => zPc) y s j up dn (X + sw L o (b - o)) b f)) (funext fun q => ?_)
    rw [hP q]
    by_cases hq : q = l.length
    · subst hq
      simp only [decide_true, cond_true, encC, pcOf, hR]
      try rfl
    · simp only [decide_eq_false hq, cond_false, encC]
      try rfl
theorem rp2_rounds {j o t : Nat} {w X : Int} {l0 : List Pc} (h : LnOk k n R o (t - o) ng L s X y) (hup : 0 ≤ up ∧ up ≤ 1073741824) (hj : j < c) (hS : S j = ⟨o, t, w⟩) (hl0 : l0.length ≤ o) (hot : o ≤ t) : ∀ d a, a + d = t → o ≤ a → (a = t ∨ newAt L o (a - o) = true) →
    LoopR rpG 1 (bodyOf Try.f98 2) (rp2S own k n R A al ng L c S (l0 ++ pcs R L o X (y + up) j (a - o)).length (pcAt (l0 ++ pcs R L o X (y + up) j (a - o))) y s j up dn (X + sw L o (a - o)) a)
      (.exit 4, rp2S own k n R A al ng L c S (l0 ++ pcs R L o X (y + up) j (t - o)).length (pcAt (l0 ++ pcs R L o X (y + up) j (t - o))) y s j up dn (X + sw L o (t - o)) t) := by
  intro d
  induction d using Nat.strongRecOn with
  | _ d ih =>
    intro a had hoa hst
    by_cases hat : a = t
    · subst hat
      refine LoopR.stop (by simp) ?_
      refine rT_sem rpG_ok noLoopsS ((rT_go rp2_e ?_).trans ?_)
      · try simp only [Int.toNat_natCast, Nat.zero_add, hS]
        repeat' (first | exact AllT.nil | refine AllT.cons ?_ ?_)
        all_goals first | (with_reducible rfl) | (with_reducible assumption) | exact yes_of ⟨rfl, rfl⟩ | exact decide_eq_true (by omega) | exact beq_iff_eq.2 (by omega) | (simp; done) | (simp; omega)
      · try simp only [Int.toNat_natCast, Nat.zero_add, hS]
        rfl
    · have hn : newAt L o (a - o) = true := hst.resolve_left hat
      obtain ⟨b, hab, hbt, hs, he⟩ := gscan (L := L) (t := t) (a := a) (t - (a + 1)) (a + 1) (by omega) (by omega) (fun q h1 h2 => by rw [show q = a by omega])
      refine LoopR.next (rp2_step h hup hj hS hl0 hoa hn hab hbt hs he) (ih (t - b) (by omega) b (by omega) (by omega) ?_)
      rcases he with he | he
      · exact .inl he
      · refine .inr ?_
        simp only [newAt, Bool.or_eq_true, decide_eq_true_eq, Bool.not_eq_true', beq_eq_false_iff_ne]
        refine .inr ?_
        rw [show o + (b - o) - 1 = b - 1 by omega, show o + (b - o) = b by omega, hs (b - 1) (by omega) (by omega)]
        exact fun e => he e.symm
theorem rp2_loop {j o t : Nat} {w X : Int} {l0 : List Pc} (h : LnOk k n R o (t - o) ng L s X y) (hup : 0 ≤ up ∧ up ≤ 1073741824) (hj : j < c) (hS : S j = ⟨o, t, w⟩) (hl0 : l0.length ≤ o) (hot : o ≤ t) :
    CodeSem rpG 1 (.loop (bodyOf Try.f98 2)) (rp2S own k n R A al ng L c S l0.length (pcAt l0) y s j up dn X o)
      (.exit 4, rp2S own k n R A al ng L c S (l0 ++ pcs R L o X (y + up) j (t - o)).length (pcAt (l0 ++ pcs R L o X (y + up) j (t - o))) y s j up dn (X + sw L o (t - o)) t) := by
  have key := (rp2_rounds (own := own) (k := k) (n := n) (R := R) (A := A) (al := al) (dn := dn) (L := L) h hup hj hS hl0 hot (t - o) o (by omega) (Nat.le_refl _) (.inr (by simp [newAt]))).sem
  have e : pcs R L o X (y + up) j (o - o) = [] := by rw [Nat.sub_self]; rfl
  have e2 : X + sw L o (o - o) = X := by rw [Nat.sub_self]; simp [sw]
  rw [e, e2, List.append_nil] at key
  exact key
theorem rp1_loop {j o t : Nat} {w X : Int} (h : LnOk k n R o (t - o) ng L s X y) (hj : j < c) (hS : S j = ⟨o, t, w⟩) (hot : o ≤ t) :
    CodeSem rpG 1 (.loop (bodyOf Try.f98 1)) (rp1S own k n R A al ng L c S np P y s j (upL s) (w64 (s - upL s)) o) (.exit 2, rp1S own k n R A al ng L c S np P y s j (udN R L s o (t - o)).1 (udN R L s o (t - o)).2 t) := by
  obtain ⟨h1, h2, h3, ⟨s1, s2⟩, hx, hy, hL, hg⟩ := h
  have e0 : w64 (s - upL s) = s - upL s := by have := upL_b s1; rw [w64_id (by omega) (by omega)]
  rw [e0]
  have key := loop_of (G := rpG) (n0 := 1) (b := bodyOf Try.f98 1) (fun d => rp1S own k n R A al ng L c S np P y s j (udN R L s o d).1 (udN R L s o d).2 ((o + d : Nat) : Int)) (t - o) (e := .exit 2) (Se := rp1S own k n R A al ng L c S np P y s j (udN R L s o (t - o)).1 (udN R L s o (t - o)).2 ((o + (t - o) : Nat) : Int)) (by simp) ?_ fun d hdt => ?_
  · rw [show o + (t - o) = t by omega] at key
    exact key
  · rw [show o + (t - o) = t by omega]
    refine rT_sem rpG_ok noLoopsS ((rT_go rp1_e ?_).trans ?_)
    · try simp only [Int.toNat_natCast, Nat.zero_add, hS]
      repeat' (first | exact AllT.nil | refine AllT.cons ?_ ?_)
      all_goals first | (with_reducible rfl) | (with_reducible assumption) | exact yes_of ⟨rfl, rfl⟩ | exact decide_eq_true (by omega) | exact beq_iff_eq.2 (by omega) | (simp; done) | (simp; omega)
    · try simp only [Int.toNat_natCast, Nat.zero_add, hS]
      rfl
  · have e3 := succ64 (j := o + d) (by omega)
    obtain ⟨r1, r2, a1, a2⟩ := hg d hdt
    have hb := hd_b (R (L (o + d)).r.toNat).l
    have hu := upL_b hb.1
    have e4 : w64 (hd (R (L (o + d)).r.toNat).l - upL (hd (R (L (o + d)).r.toNat).l)) = hd (R (L (o + d)).r.toNat).l - upL (hd (R (L (o + d)).r.toNat).l) := w64_id (by omega) (by omega)
    refine rT_sem rpG_ok noLoopsS ((rT_go rp1_go ?_).trans ?_)
    · try simp only [Int.toNat_natCast, Nat.zero_add, hS, e3, e4]
      repeat' (first | exact AllT.nil | refine AllT.cons ?_ ?_)
      all_goals first | (with_reducible rfl) | (with_reducible assumption) | exact yes_of ⟨by omega, by omega⟩ | exact yes_of ⟨rfl, rfl⟩ | exact decide_eq_true (by omega) | exact beq_iff_eq.2 (by omega) | (simp; done) | (simp; omega)
    · try simp only [Int.toNat_natCast, Nat.zero_add, hS, e3, e4]
      rfl
theorem CodeSem.of_eq {G : Ctx2} {n0 : Nat} {c : Code} {S S' : St} {r : Ex × St} (e : S = S') (h : CodeSem G n0 c S r) : CodeSem G n0 c S' r := e ▸ h
theorem rpO_step {j : Nat} (h : PlOk k n A ng L) (hj : j < lnC ng L A) :
    CodeSem rpG 1 (bodyOf Try.f98 0) (rpO own k n R A al ng L (lnC ng L A) (spAt (lns ng L A)) (plN ng L A R (hd st) al j).length (pcAt (plN ng L A R (hd st) al j)) (lnY ng L A R (hd st) j) (hd st) j)
      (.normal, rpO own k n R A al ng L (lnC ng L A) (spAt (lns ng L A)) (plN ng L A R (hd st) al (j + 1)).length (pcAt (plN ng L A R (hd st) al (j + 1))) (lnY ng L A R (hd st) (j + 1)) (hd st) ((j + 1 : Nat) : Int)) := by
  have hLn := h.ln (R := R) (st := st) (al := al) hj
  have hS := sp_at hj
  obtain ⟨hl, _⟩ := ln_line (ln_le j hj)
  have hle := hl.le
  have hln := hl.ln
  have hb := hd_b st
  have hC := (lnC_spec ng L A).1
  have hng := h.2.1
  have hA := h.2.2.1
  have e3 := succ64 (j := j) (by omega)
  have hud := udN_b (R := R) (L := L) (o := lnAt ng L A j) hb.1 hb.2 (lnTo ng L A j - lnAt ng L A j)
  have hY := hLn.2.2.2.2.2.1
  have hW := sw_b hLn.2.2.2.2.2.2.1 (lnAt ng L A j) (lnTo ng L A j - lnAt ng L A j)
  have hWd : lnW ng L A j = sw L (lnAt ng L A j) (lnTo ng L A j - lnAt ng L A j) := rfl
  have e4 : w64 (w64 (lnY ng L A R (hd st) j + (udN R L (hd st) (lnAt ng L A j) (lnTo ng L A j - lnAt ng L A j)).1) + (udN R L (hd st) (lnAt ng L A j) (lnTo ng L A j - lnAt ng L A j)).2) = lnY ng L A R (hd st) (j + 1) := by
    have e : w64 (lnY ng L A R (hd st) j + (udN R L (hd st) (lnAt ng L A j) (lnTo ng L A j - lnAt ng L A j)).1) = lnY ng L A R (hd st) j + (udN R L (hd st) (lnAt ng L A j) (lnTo ng L A j - lnAt ng L A j)).1 := w64_id (by omega) (by omega)
    have e' : lnY ng L A R (hd st) (j + 1) = lnY ng L A R (hd st) j + ((udN R L (hd st) (lnAt ng L A j) (lnTo ng L A j - lnAt ng L A j)).1 + (udN R L (hd st) (lnAt ng L A j) (lnTo ng L A j - lnAt ng L A j)).2) := rfl
    rw [e, w64_id (by omega) (by omega), e']
    omega
  have hlen := plN_len (n := ng) (L := L) (A := A) (R := R) (s := hd st) (al := al) j fun q hq => ln_le q (by omega)
  have l1 := rp1_loop (own := own) (al := al) (c := lnC ng L A) (S := spAt (lns ng L A)) (A := A) (np := (plN ng L A R (hd st) al j).length) (P := pcAt (plN ng L A R (hd st) al j)) hLn hj hS hle
  have l2 := rp2_loop (own := own) (al := al) (c := lnC ng L A) (S := spAt (lns ng L A)) (A := A) (dn := (udN R L (hd st) (lnAt ng L A j) (lnTo ng L A j - lnAt ng L A j)).2) hLn (up := (udN R L (hd st) (lnAt ng L A j) (lnTo ng L A j - lnAt ng L A j)).1) ⟨hud.1, hud.2.1⟩ hj hS hlen hle
  have e6 : plN ng L A R (hd st) al (j + 1) = plN ng L A R (hd st) al j ++ pcs R L (lnAt ng L A j) (stA A (lnW ng L A j) al) (lnY ng L A R (hd st) j + (udN R L (hd st) (lnAt ng L A j) (lnTo ng L A j - lnAt ng L A j)).1) j (lnTo ng L A j - lnAt ng L A j) := rfl
  rw [e6]
  generalize plN ng L A R (hd st) al j = l at l1 l2 ⊢
  have eS : spAt (lns ng L A) (0 + (j : Int).toNat) = ⟨lnAt ng L A j, lnTo ng L A j, lnW ng L A j⟩ := by rw [Int.toNat_natCast, Nat.zero_add]; exact hS
  have ew : w64 (A - lnW ng L A j) = A - lnW ng L A j := w64_id (by omega) (by omega)
  have l1' := CodeSem.of_eq (S' := rp1S own k n R A al ng L (lnC ng L A) (spAt (lns ng L A)) l.length (pcAt l) (lnY ng L A R (hd st) j) (hd st) j (upL (hd st)) (w64 (hd st - upL (hd st))) (spAt (lns ng L A) (0 + (j : Int).toNat)).f) (by simp only [eS]) l1
  have fin := fun X (hX : X = stA A (lnW ng L A j) al) => CodeSem.of_eq (S' := rp2S own k n R A al ng L (lnC ng L A) (spAt (lns ng L A)) l.length (pcAt l) (lnY ng L A R (hd st) j) (hd st) j (udN R L (hd st) (lnAt ng L A j) (lnTo ng L A j - lnAt ng L A j)).1 (udN R L (hd st) (lnAt ng L A j) (lnTo ng L A j - lnAt ng L A j)).2 X (spAt (lns ng L A) (0 + (j : Int).toNat)).f) (by simp only [eS, hX]) l2
  by_cases hf : A - lnW ng L A j > 0
  · have hf0 : ¬ A - lnW ng L A j < 0 := by omega
    by_cases h1 : al = 1
    · have hX := fin (w64 (A - (spAt (lns ng L A) (0 + (j : Int).toNat)).w)) (by simp only [eS, ew, stA, if_neg hf0, if_pos h1])
      have c1 : (al == 1) = true := by simpa using h1
      refine rT_sem rpG_ok (byReg_sem (r := 11) (tell_ok l1') (tell_ok hX)) ((rT_go rpO_1 ?_).trans ?_)
      · try simp only [Int.toNat_natCast, Nat.zero_add, hS, e3, e4, ew]
        repeat' (first | exact AllT.nil | refine AllT.cons ?_ ?_)
        all_goals first | (with_reducible rfl) | (with_reducible assumption) | exact yes_of ⟨by omega, by omega⟩ | exact yes_of ⟨rfl, rfl⟩ | exact decide_eq_true (by omega) | exact beq_iff_eq.2 (by omega) | (simp; done) | (simp; omega)
      · try simp only [Int.toNat_natCast, Nat.zero_add, hS, e3, e4, ew]
        rfl
    · have c1 : (!(al == 1)) = true := by simpa using h1
      by_cases h2 : al = 2
      · have ew2 : w64 ((A - lnW ng L A j).tdiv 2) = (A - lnW ng L A j) / 2 := by rw [Int.tdiv_eq_ediv_of_nonneg (by omega), w64_id (by omega) (by omega)]
        have hX := fin (w64 ((w64 (A - (spAt (lns ng L A) (0 + (j : Int).toNat)).w)).tdiv 2)) (by simp only [eS, ew, ew2, stA, if_neg hf0, if_neg h1, if_pos h2])
        have c2 : (al == 2) = true := by simpa using h2
        refine rT_sem rpG_ok (byReg_sem (r := 11) (tell_ok l1') (tell_ok hX)) ((rT_go rpO_2 ?_).trans ?_)
        · try simp only [Int.toNat_natCast, Nat.zero_add, hS, e3, e4, ew]
          repeat' (first | exact AllT.nil | refine AllT.cons ?_ ?_)
          all_goals first | (with_reducible rfl) | (with_reducible assumption) | exact yes_of ⟨by omega, by omega⟩ | exact yes_of ⟨rfl, rfl⟩ | exact decide_eq_true (by omega) | exact beq_iff_eq.2 (by omega) | (simp; done) | (simp; omega)
        · try simp only [Int.toNat_natCast, Nat.zero_add, hS, e3, e4, ew]
          rfl
      · have c2 : (!(al == 2)) = true := by simpa using h2
        have hX := fin 0 (by simp only [stA, if_neg hf0, if_neg h1, if_neg h2])
        refine rT_sem rpG_ok (byReg_sem (r := 11) (tell_ok l1') (tell_ok hX)) ((rT_go rpO_3 ?_).trans ?_)
        · try simp only [Int.toNat_natCast, Nat.zero_add, hS, e3, e4, ew]
          repeat' (first | exact AllT.nil | refine AllT.cons ?_ ?_)
          all_goals first | (with_reducible rfl) | (with_reducible assumption) | exact yes_of ⟨by omega, by omega⟩ | exact yes_of ⟨rfl, rfl⟩ | exact decide_eq_true (by omega) | exact beq_iff_eq.2 (by omega) | (simp; done) | (simp; omega)
        · try simp only [Int.toNat_natCast, Nat.zero_add, hS, e3, e4, ew]
          rfl
  · have hX := fin 0 (by have := stA_b A (lnW ng L A j) al; omega)
    refine rT_sem rpG_ok (byReg_sem (r := 11) (tell_ok l1') (tell_ok hX)) ((rT_go rpO_0 ?_).trans ?_)
    · try simp only [Int.toNat_natCast, Nat.zero_add, hS, e3, e4, ew]
      repeat' (first | exact AllT.nil | refine AllT.cons ?_ ?_)
      all_goals first | (with_reducible rfl) | (with_reducible assumption) | exact yes_of ⟨by omega, by omega⟩ | exact yes_of ⟨rfl, rfl⟩ | exact decide_eq_true (by omega) | exact beq_iff_eq.2 (by omega) | (simp; done) | (simp; omega)
    · try simp only [Int.toNat_natCast, Nat.zero_add, hS, e3, e4, ew]
      rfl
theorem rpO_loop (h : PlOk k n A ng L) :
    CodeSem rpG 1 (.loop (bodyOf Try.f98 0)) (rpO own k n R A al ng L (lnC ng L A) (spAt (lns ng L A)) 0 (fun _ => zPc) 0 (hd st) 0)
      (.exit 0, rpO own k n R A al ng L (lnC ng L A) (spAt (lns ng L A)) (plN ng L A R (hd st) al (lnC ng L A)).length (pcAt (plN ng L A R (hd st) al (lnC ng L A))) (lnY ng L A R (hd st) (lnC ng L A)) (hd st) (lnC ng L A)) := by
  refine loop_of (fun j => rpO own k n R A al ng L (lnC ng L A) (spAt (lns ng L A)) (plN ng L A R (hd st) al j).length (pcAt (plN ng L A R (hd st) al j)) (lnY ng L A R (hd st) j) (hd st) j) (lnC ng L A) (by simp) ?_ fun j hj => rpO_step h hj
  exact rT_sem rpG_ok noLoopsS (rT_go rpO_e ⟨by simp, trivial⟩)
end
end Go.Proofs.Ytcpahifgdppkbaa.QAI
end
section
/- Lines that are placed: specs of the whole; two rows of pieces the same; what is fixed. -/
set_option linter.unusedVariables false
set_option linter.unusedSimpArgs false
namespace Go.Proofs.Ytcpahifgdppkbaa.QAI
open Go Go.RowKit
set_option maxRecDepth 100000
theorem ga_bd (a : Nat → Int) (v c : Int) : 0 ≤ ga (Mt a) v c ∧ ga (Mt a) v c ≤ 65536 := by
  unfold ga
  split
  · split
    · omega
    · exact cl_b _
  · split
    · exact cl_b _
    · exact cl_b _
theorem gl_wok {a : Nat → Int} {R : Nat → Rn} {k : Nat} : WOk (at_ (glyphs (Mt a) R k)) := by
  intro i
  rcases Nat.lt_or_ge i (glyphs (Mt a) R k).length with h | h
  · obtain ⟨r, q, _, _, e⟩ := glyphs_mem (at_mem h)
    rw [e]
    have := ga_bd a (R r).v (bt (R r).s q)
    exact ⟨this.1, by show ga (Mt a) (R r).v (bt (R r).s q) ≤ 1048576; omega⟩
  · have : at_ (glyphs (Mt a) R k) i = zGl := by
      unfold at_
      rw [List.getD_eq_getElem?_getD, List.getElem?_eq_none h]
      rfl
    rw [this]
    simp [zGl]
theorem gl_pl {a : Nat → Int} {R : Nat → Rn} {k n : Nat} {A : Int} (h1 : k ≤ n) (h3 : lenR R k < 2 ^ 30) (hA : -1125899906842624 ≤ A ∧ A ≤ 1125899906842624) : PlOk k n A (glyphs (Mt a) R k).length (at_ (glyphs (Mt a) R k)) := by
  have hl := glyphs_len (M := Mt a) (R := R) (k := k)
  refine ⟨h1, by omega, hA, gl_wok, fun z hz => ?_⟩
  obtain ⟨r, q, hr, hq, e⟩ := glyphs_mem (at_mem hz)
  have := lenR_le (R := R) (k := k) r hr
  rw [e]
  simp only [gl]
  omega
def plA (M : Int → Int) (R : Nat → Rn) (k : Nat) (A st al : Int) : List Pc := plN (glyphs M R k).length (at_ (glyphs M R k)) A R (hd st) al (lnC (glyphs M R k).length (at_ (glyphs M R k)) A)
def plY (M : Int → Int) (R : Nat → Rn) (k : Nat) (A st : Int) : Int := lnY (glyphs M R k).length (at_ (glyphs M R k)) A R (hd st) (lnC (glyphs M R k).length (at_ (glyphs M R k)) A)
theorem plA_len {M : Int → Int} {R : Nat → Rn} {k : Nat} {A st al : Int} : (plA M R k A st al).length ≤ lenR R k + 1 := by
  have h1 := plN_len (n := (glyphs M R k).length) (L := at_ (glyphs M R k)) (A := A) (R := R) (s := hd st) (al := al) (lnC (glyphs M R k).length (at_ (glyphs M R k)) A) fun q hq => ln_le q hq
  have h2 := glyphs_len (M := M) (R := R) (k := k)
  have h3 : lnAt (glyphs M R k).length (at_ (glyphs M R k)) A (lnC (glyphs M R k).length (at_ (glyphs M R k)) A) ≤ (glyphs M R k).length + 1 := by
    generalize hc : lnC (glyphs M R k).length (at_ (glyphs M R k)) A = c
    cases c with
    | zero => exact Nat.zero_le _
    | succ c => exact (lnAt_le (ln_le c (by omega))).2
  unfold plA
  omega
noncomputable def plF : Spec := fun args h => match args, h with
  | [.arr 256 f, .c (.sl 0 0 k), .c (.v (.int .i64 A)), .c (.v (.int .i64 st)), .c (.v (.int .i64 al))], [some ⟨83, own, .row 4 n q⟩] =>
    .need (yes (k ≤ n ∧ k < 2 ^ 40 ∧ lenR (fun i => decN (q i)) k < 2 ^ 30 ∧ (-1125899906842624 ≤ A ∧ A ≤ 1125899906842624) ∧ (f = fun k => .int .i64 (dv (f k))) ∧ q = fun j => encN (decN (q j))))
      (.ret (.tup [.c (.sl 1 0 (plA (Mt fun k => dv (f k)) (fun i => decN (q i)) k A st al).length), I64 (plY (Mt fun k => dv (f k)) (fun i => decN (q i)) k A st)],
        [some ⟨83, own, .row 4 n q⟩, rowPc (plA (Mt fun k => dv (f k)) (fun i => decN (q i)) k A st al).length (pcAt (plA (Mt fun k => dv (f k)) (fun i => decN (q i)) k A st al))]))
  | _, _ => .fail
theorem zero_fun {α : Type} (R : Nat → α) : (fun i => R (0 + i)) = R := funext fun i => by rw [Nat.zero_add]
theorem plF_ok : SpecOk Try.prog 96 plF := by
  refine knownS KP1_ok Try.func96 fun args h r he => ?_
  unfold plF at he
  split at he
  · rename_i f k A st al own n q
    obtain ⟨⟨h1, h2, h3, h4, h5, h6⟩, he⟩ := Tr.eval_ask.1 he
    cases he
    have e1 : AV.arr 256 f = aA fun k => dv (f k) := by rw [aA, ← h5]
    have e2 : some ⟨83, own, .row 4 n q⟩ = rowRn own n fun j => decN (q j) := by rw [rowRn, ← h6]
    rw [e1, e2]
    generalize (fun j => decN (q j)) = R at h3 ⊢
    generalize (fun k => dv (f k)) = a
    have hl := pl_loop (own := own) (st := st) (al := al) (R := R) (gl_pl (a := a) (R := R) h1 h3 h4)
    have hlen := glyphs_len (M := Mt a) (R := R) (k := k)
    have hw := pl_w (own := own) (k := k) (n := n) (R := R) (A := A) (st := st) (al := al) (a := a) (np := (plA (Mt a) R k A st al).length) (P := pcAt (plA (Mt a) R k A st al)) (y := plY (Mt a) R k A st) (i := (lnC (glyphs (Mt a) R k).length (at_ (glyphs (Mt a) R k)) A : Nat))
    have ez : (fun i => decN (encN (R (0 + i)))) = R := funext fun i => by rw [Nat.zero_add]; rfl
    simp only [zero_fun R, ez] at hw
    refine ⟨_, [], 60, _, tell_ok hl, (Tr.go_eval hw ?_).trans ?_⟩
    · repeat' (first | exact AllT.nil | refine AllT.cons ?_ ?_)
      all_goals first
        | rfl
        | exact yes_of ⟨rfl, rfl⟩
        | (refine yes_of ?_
           repeat' (first | exact trivial | (with_reducible rfl) | refine And.intro ?_ ?_)
           all_goals first | omega | exact gl_wok | exact Nat.le_refl _ | (show lenR R k < 2 ^ 39; omega) | (show (glyphs (Mt a) R k).length < 2 ^ 30; omega) | rfl)
    · rfl
  · cases he
theorem rplF_ok : SpecOk Try.prog 98 plF := by
  refine knownS KP2_ok Try.func98 fun args h r he => ?_
  unfold plF at he
  split at he
  · rename_i f k A st al own n q
    obtain ⟨⟨h1, h2, h3, h4, h5, h6⟩, he⟩ := Tr.eval_ask.1 he
    cases he
    have e1 : AV.arr 256 f = aA fun k => dv (f k) := by rw [aA, ← h5]
    have e2 : some ⟨83, own, .row 4 n q⟩ = rowRn own n fun j => decN (q j) := by rw [rowRn, ← h6]
    rw [e1, e2]
    generalize (fun j => decN (q j)) = R at h3 ⊢
    generalize (fun k => dv (f k)) = a
    have hl := rpO_loop (own := own) (st := st) (al := al) (R := R) (gl_pl (a := a) (R := R) h1 h3 h4)
    have hlen := glyphs_len (M := Mt a) (R := R) (k := k)
    have hw := rp_w (own := own) (k := k) (n := n) (R := R) (A := A) (st := st) (al := al) (a := a) (np := (plA (Mt a) R k A st al).length) (P := pcAt (plA (Mt a) R k A st al)) (y := plY (Mt a) R k A st) (i := (lnC (glyphs (Mt a) R k).length (at_ (glyphs (Mt a) R k)) A : Nat))
    have ez : (fun i => decN (encN (R (0 + i)))) = R := funext fun i => by rw [Nat.zero_add]; rfl
    simp only [zero_fun R, ez] at hw
    refine ⟨_, [], 60, _, tell_ok hl, (Tr.go_eval hw ?_).trans ?_⟩
    · repeat' (first | exact AllT.nil | refine AllT.cons ?_ ?_)
      all_goals first
        | rfl
        | exact yes_of ⟨rfl, rfl⟩
        | (refine yes_of ?_
           repeat' (first | exact trivial | (with_reducible rfl) | refine And.intro ?_ ?_)
           all_goals first | omega | exact gl_wok | exact Nat.le_refl _ | (show lenR R k < 2 ^ 39; omega) | (show (glyphs (Mt a) R k).length < 2 ^ 30; omega) | rfl)
    · rfl
  · cases he
abbrev spcK : List (Nat × Option TypeId) := [(0,none),(1,none),(5,none)]
noncomputable def spcG : Ctx2 := GT [] (fun k => if k = 4 then spcK else []) 0 []
theorem spcG_ok : XOk spcG := GT_ok nilK _ _ _
def spcS (k n n' : Nat) (P P' : Nat → Pc) (i : Int) : St := ⟨slots 26 [(0, .c (.sl 0 0 k)), (1, .c (.sl 1 0 k)), (5, I64 i)], [rowPc n P, rowPc n' P']⟩
theorem spc_go {k n n' : Nat} {P P' : Nat → Pc} {i : Int} : (rT spcG nol 2 54 (bodyOf Try.f99 0) spcK spcK (spcS k n n' P P' i)).go [true, true, true, true, true, true, true, false] =
  some
    ([decide (i < ((k : Nat) : Int)), decide ((0 : Int) ≤ i), decide (i < ((k : Nat) : Int)), decide (0 + i.toNat < n),
        decide ((0 : Int) ≤ i), decide (i < ((k : Nat) : Int)), decide (0 + i.toNat < n'),
        !!((P (0 + i.toNat)).n == (P' (0 + i.toNat)).n &&
              ((P (0 + i.toNat)).x == (P' (0 + i.toNat)).x &&
                ((P (0 + i.toNat)).y == (P' (0 + i.toNat)).y &&
                  ((P (0 + i.toNat)).w == (P' (0 + i.toNat)).w &&
                    ((P (0 + i.toNat)).h == (P' (0 + i.toNat)).h &&
                      ((P (0 + i.toNat)).f == (P' (0 + i.toNat)).f &&
                        ((P (0 + i.toNat)).t == (P' (0 + i.toNat)).t &&
                          ((P (0 + i.toNat)).l == (P' (0 + i.toNat)).l && true))))))))],
      Ex.normal,
      {
        sl :=
          slots 26
            [(0, AV.c (AC.sl 0 0 k)), (1, AV.c (AC.sl 1 0 k)),
              (5, I64 (w64 (i + (1 : Int))))],
        h :=
          [some
              { t := 112, own := true,
                c :=
                  Cont.row 8 n fun j =>
                    [Value.int IntKind.i64 (P j).n, Value.int IntKind.i64 (P j).x, Value.int IntKind.i64 (P j).y,
                      Value.int IntKind.i64 (P j).w, Value.int IntKind.i64 (P j).h, Value.int IntKind.i64 (P j).f,
                      Value.int IntKind.i64 (P j).t, Value.int IntKind.i64 (P j).l] },
            some
              { t := 112, own := true,
                c :=
                  Cont.row 8 n' fun j =>
                    [Value.int IntKind.i64 (P' j).n, Value.int IntKind.i64 (P' j).x, Value.int IntKind.i64 (P' j).y,
                      Value.int IntKind.i64 (P' j).w, Value.int IntKind.i64 (P' j).h, Value.int IntKind.i64 (P' j).f,
                      Value.int IntKind.i64 (P' j).t, Value.int IntKind.i64 (P' j).l] }] }) := by kernel_rfl
theorem spc_ex {k n n' : Nat} {P P' : Nat → Pc} {i : Int} : (rT spcG nol 2 54 (bodyOf Try.f99 0) spcK spcK (spcS k n n' P P' i)).go [false] =
  some
    ([!decide (i < ((k : Nat) : Int))], Ex.exit 0,
      {
        sl :=
          slots 26
            [(0, AV.c (AC.sl 0 0 k)), (1, AV.c (AC.sl 1 0 k)),
              (5, I64 i)],
        h :=
          [some
              { t := 112, own := true,
                c :=
                  Cont.row 8 n fun j =>
                    [Value.int IntKind.i64 (P j).n, Value.int IntKind.i64 (P j).x, Value.int IntKind.i64 (P j).y,
                      Value.int IntKind.i64 (P j).w, Value.int IntKind.i64 (P j).h, Value.int IntKind.i64 (P j).f,
                      Value.int IntKind.i64 (P j).t, Value.int IntKind.i64 (P j).l] },
            some
              { t := 112, own := true,
                c :=
                  Cont.row 8 n' fun j =>
                    [Value.int IntKind.i64 (P' j).n, Value.int IntKind.i64 (P' j).x, Value.int IntKind.i64 (P' j).y,
                      Value.int IntKind.i64 (P' j).w, Value.int IntKind.i64 (P' j).h, Value.int IntKind.i64 (P' j).f,
                      Value.int IntKind.i64 (P' j).t, Value.int IntKind.i64 (P' j).l] }] }) := by kernel_rfl
theorem spc_w {k n n' : Nat} {P P' : Nat → Pc} {i : Int} : (lfun spcG (tell (bodyOf Try.f99 0) (spcS k n n' P P' 0) (.exit 0, spcS k n n' P P' i)) 60 Try.f99 [.c (.sl 0 0 k), .c (.sl 1 0 k)] [rowPc n P, rowPc n' P']).go [false] =
  some
    ([!((k : Nat) : Int) != ((k : Nat) : Int), yes (wasS (bodyOf Try.f99 0) (spcS k n n' P P' 0))], Bo true,
      [some
          { t := 112, own := true,
            c :=
              Cont.row 8 n fun j =>
                [Value.int IntKind.i64 (P j).n, Value.int IntKind.i64 (P j).x, Value.int IntKind.i64 (P j).y,
                  Value.int IntKind.i64 (P j).w, Value.int IntKind.i64 (P j).h, Value.int IntKind.i64 (P j).f,
                  Value.int IntKind.i64 (P j).t, Value.int IntKind.i64 (P j).l] },
        some
          { t := 112, own := true,
            c :=
              Cont.row 8 n' fun j =>
                [Value.int IntKind.i64 (P' j).n, Value.int IntKind.i64 (P' j).x, Value.int IntKind.i64 (P' j).y,
                  Value.int IntKind.i64 (P' j).w, Value.int IntKind.i64 (P' j).h, Value.int IntKind.i64 (P' j).f,
                  Value.int IntKind.i64 (P' j).t, Value.int IntKind.i64 (P' j).l] }]) := by kernel_rfl
theorem spc_loop {k n n' : Nat} {P P' : Nat → Pc} (hn : k ≤ n) (hn' : k ≤ n') (hk : k < 2 ^ 40) (h : ∀ i, i < k → P i = P' i) :
    CodeSem spcG 2 (.loop (bodyOf Try.f99 0)) (spcS k n n' P P' 0) (.exit 0, spcS k n n' P P' k) := by
  refine loop_of (fun i => spcS k n n' P P' (i : Int)) k (by simp) ?_ fun j hj => ?_
  · exact rT_sem spcG_ok noLoopsS (rT_go spc_ex ⟨by simp, trivial⟩)
  · have h3 := succ64 (j := j) (by omega)
    refine rT_sem spcG_ok noLoopsS ((rT_go spc_go ?_).trans ?_)
    · try simp only [Int.toNat_natCast, Nat.zero_add, h j hj, h3]
      repeat' (first | exact AllT.nil | refine AllT.cons ?_ ?_)
      all_goals first | (with_reducible rfl) | (with_reducible assumption) | exact yes_of ⟨rfl, rfl⟩ | exact decide_eq_true (by omega) | exact beq_iff_eq.2 (by omega) | (simp; done) | (simp; omega)
    · try simp only [Int.toNat_natCast, Nat.zero_add, h j hj, h3]
      rfl
noncomputable def samePc : Spec := fun args h => match args, h with
  | [.c (.sl 0 0 k), .c (.sl 1 0 k')], [some ⟨112, true, .row 8 n q⟩, some ⟨112, true, .row 8 n' q'⟩] =>
    .need (yes (k' = k ∧ k ≤ n ∧ k ≤ n' ∧ k < 2 ^ 40 ∧ (q = fun j => encC (decC (q j))) ∧ (q' = fun j => encC (decC (q' j))) ∧ ∀ i, i < k → decC (q i) = decC (q' i)))
      (.ret (Bo true, [some ⟨112, true, .row 8 n q⟩, some ⟨112, true, .row 8 n' q'⟩]))
  | _, _ => .fail
theorem samePc_ok : SpecOk Try.prog 99 samePc := by
  refine knownS nilK Try.func99 fun args h r he => ?_
  unfold samePc at he
  split at he
  · rename_i k k' n q n' q'
    obtain ⟨⟨h0, h1, h2, h3, h4, h5, h6⟩, he2⟩ := Tr.eval_ask.1 he
    clear he
    cases he2
    subst h0
    refine ⟨_, [], 60, _, tell_ok (spc_loop (P := fun j => decC (q j)) (P' := fun j => decC (q' j)) h1 h2 h3 h6), ?_⟩
    have e1 : some ⟨112, true, .row 8 n q⟩ = rowPc n fun j => decC (q j) := by rw [rowPc, ← h4]
    have e2 : some ⟨112, true, .row 8 n' q'⟩ = rowPc n' fun j => decC (q' j) := by rw [rowPc, ← h5]
    rw [e1, e2]
    refine Tr.go_eval spc_w ?_
    repeat' (first | exact AllT.nil | refine AllT.cons ?_ ?_)
    all_goals first | exact yes_of ⟨rfl, rfl⟩ | rfl | (simp; done)
  · cases he
noncomputable def KE1 : Known := [(51, afun (GK [] (fun _ => []) 0) 60 Try.f51), (135, afun (GK [] (fun _ => []) 0) 60 Try.f135)]
theorem KE1_ok : KnownOk KE1 := consK (known0 nilK 60 Try.func51) (by kernel_rfl) (consK (known0 nilK 60 Try.func135) (by kernel_rfl) nilK)
noncomputable def KE2 : Known := [(82, afun (GK KH2 (fun k => if k = 4 then glK else []) 20) 60 Try.f82), (87, afun (GK KD3 (fun k => if k = 4 then liK else []) 20) 60 Try.f87), (134, afun (GK KE1 (fun k => if k = 4 then lp1K else if k = 11 then lp2K else []) 20) 60 Try.f134), (135, afun (GK [] (fun _ => []) 0) 60 Try.f135), (136, afun (GK [] (fun _ => []) 0) 60 Try.f136)]
theorem KE2_ok : KnownOk KE2 := consK (known' KH2_ok Try.func82 fun _ _ _ h => ⟨_, _, _, h⟩) (by kernel_rfl) (consK (known' KD3_ok Try.func87 fun _ _ _ h => ⟨_, _, _, h⟩) (by kernel_rfl) (consK (known' KE1_ok Try.func134 fun _ _ _ h => ⟨_, _, _, h⟩) (by kernel_rfl) (consK (known0 nilK 60 Try.func135) (by kernel_rfl) (consK (known0 nilK 60 Try.func136) (by kernel_rfl) nilK))))
noncomputable def KE3 : Known := [(96, afun (GK KE2 (fun k => if k = 5 then plK else []) 20) 60 Try.f96)]
theorem KE3_ok : KnownOk KE3 := consK (known' KE2_ok Try.func96 fun _ _ _ h => ⟨_, _, _, h⟩) (by kernel_rfl) nilK
theorem awake12_eq : (afun (GK KE3 (fun _ => []) 0) 60 Try.f97 [] []).eval = some (Bo true, []) := by kernel_rfl
theorem awake12_ok : SpecOk Try.prog 97 sAwakeT := by
  refine known' KE3_ok Try.func97 fun args h r he => ?_
  unfold sAwakeT at he
  split at he
  · cases he
    exact ⟨_, _, _, awake12_eq⟩
  · cases he
noncomputable def KRT : Known := [(46, tmF2), (81, rnF), (84, fewF), (86, glF), (93, linesF), (94, neF pSB), (95, neF brk), (96, plF), (97, sAwakeT), (98, plF), (99, samePc)]
theorem KRT_ok : KnownOk KRT := consK tmF2_ok (by kernel_rfl) (consK rnF_ok (by kernel_rfl) (consK fewF_ok (by kernel_rfl) (consK rgF_ok (by kernel_rfl) (consK rlinesF_ok (by kernel_rfl) (consK rleF_ok (by kernel_rfl) (consK rmoF_ok (by kernel_rfl) (consK plF_ok (by kernel_rfl) (consK awake12_ok (by kernel_rfl) (consK rplF_ok (by kernel_rfl) (consK samePc_ok (by kernel_rfl) nilK))))))))))
end Go.Proofs.Ytcpahifgdppkbaa.QAI
end
section
/- Lines that are placed: runs of one line-height: plain. -/
set_option linter.unusedVariables false
set_option linter.unusedSimpArgs false
namespace Go.Proofs.Ytcpahifgdppkbaa.QAI
open Go Go.RowKit
/-- Runs, the first i with a line-height. -/
def setLn (l : Int) (i : Nat) (R : Nat → Rn) : Nat → Rn := fun j => if j < i then { R j with l := l } else R j
theorem setLn_s (l : Int) (i : Nat) (R : Nat → Rn) (j : Nat) : (setLn l i R j).s = (R j).s := by unfold setLn; split <;> rfl
theorem setLn_n (l : Int) (i : Nat) (R : Nat → Rn) (j : Nat) : (setLn l i R j).n = (R j).n := by unfold setLn; split <;> rfl
theorem setLn_v (l : Int) (i : Nat) (R : Nat → Rn) (j : Nat) : (setLn l i R j).v = (R j).v := by unfold setLn; split <;> rfl
theorem setLn_l (l : Int) (i : Nat) (R : Nat → Rn) (j : Nat) : (setLn l i R j).l = if j < i then l else (R j).l := by unfold setLn; split <;> rfl
theorem setLn_len (l : Int) (i : Nat) (R : Nat → Rn) : ∀ k, lenR (setLn l i R) k = lenR R k
  | 0 => rfl
  | k + 1 => by rw [lenR, lenR, setLn_len l i R k, setLn_s]
theorem setLn_0 (l : Int) (R : Nat → Rn) : setLn l 0 R = R := funext fun j => by simp [setLn]
theorem setLn_step (l : Int) (i : Nat) (R : Nat → Rn) (q : Nat) : setLn l (i + 1) R q = bif decide (q = i) then { setLn l i R q with l := l } else setLn l i R q := by
  unfold setLn
  rcases Nat.lt_trichotomy q i with h | h | h
  · rw [if_pos (by omega), if_pos h, decide_eq_false (by omega)]; rfl
  · subst h; simp
  · rw [if_neg (by omega), if_neg (by omega), decide_eq_false (by omega)]; rfl
section
variable {n : Nat} {L : Nat → Gl} {A : Int} {R : Nat → Rn} {l s al : Int}
theorem udN_same {o : Nat} (h0 : 0 ≤ l) : ∀ c, (∀ j, j < c → hR R (L (o + j)) = l) → udN R L l o c = (upL l, l - upL l)
  | 0, _ => rfl
  | c + 1, h => by
    rw [udN, udN_same h0 c fun j hj => h j (by omega), h c (by omega), mxI_eq, mxI_eq]
    simp
theorem udN_two {o : Nat} (h0 : 0 ≤ l) (hs : 0 ≤ s) : ∀ c, (∀ j, j < c → hR R (L (o + j)) = l) → udN R L s o c = (upL s, s - upL s) ∨ udN R L s o c = (max (upL l) (upL s), max (l - upL l) (s - upL s))
  | 0, _ => .inl rfl
  | c + 1, h => by
    right
    rw [udN, h c (by omega)]
    simp only [mxI_eq]
    rcases udN_two h0 hs c (fun j hj => h j (by omega)) with e | e <;> rw [e] <;> simp only [Prod.mk.injEq] <;> omega
theorem ud_sum {o c : Nat} (h0 : 0 ≤ l) (hs : 0 ≤ s) (h : ∀ j, j < c → hR R (L (o + j)) = l) : s ≤ (udN R L s o c).1 + (udN R L s o c).2 ∧ (udN R L s o c).1 + (udN R L s o c).2 ≤ max l s := by
  rcases udN_two (s := s) h0 hs c h with e | e <;> rw [e]
  · simp only; omega
  · have h1 := upL_b h0
    have h2 := upL_b hs
    rcases Int.le_total l s with h3 | h3
    · have := upL_mono h3; simp only; omega
    · have := upL_mono h3; simp only; omega
/-- All runs that show have one line-height. -/
def OneH (n : Nat) (L : Nat → Gl) (R : Nat → Rn) (l : Int) : Prop := ∀ z, z < n → hR R (L z) = l
theorem lnY_same (hL : OneH n L R l) (h0 : 0 ≤ l) : ∀ i, (∀ j, j < i → lnAt n L A j ≤ n) → lnY n L A R l i = i * l
  | 0, _ => by simp [lnY]
  | i + 1, h => by
    obtain ⟨ht, _⟩ := ln_line (h i (by omega))
    have hle := ht.le
    have hln := ht.ln
    have e := udN_same (R := R) (L := L) (o := lnAt n L A i) h0 (lnTo n L A i - lnAt n L A i) fun j hj => hL _ (by omega)
    rw [lnY, lnY_same hL h0 i fun j hj => h j (by omega), udL, e, Int.natCast_add, Int.add_mul]
    simp only
    omega
theorem lnY_two (hL : OneH n L R l) (h0 : 0 ≤ l) (hs : 0 ≤ s) : ∀ i, (∀ j, j < i → lnAt n L A j ≤ n) → i * s ≤ lnY n L A R s i ∧ lnY n L A R s i ≤ i * max l s
  | 0, _ => by simp [lnY]
  | i + 1, h => by
    obtain ⟨ht, _⟩ := ln_line (h i (by omega))
    have hle := ht.le
    have hln := ht.ln
    have e := ud_sum (R := R) (L := L) (s := s) (o := lnAt n L A i) (c := lnTo n L A i - lnAt n L A i) h0 hs fun j hj => hL _ (by omega)
    have ih := lnY_two hL h0 hs i fun j hj => h j (by omega)
    rw [lnY, Int.natCast_add, Int.add_mul, Int.add_mul]
    simp only [udL]
    omega
theorem pc_same (hL : OneH n L R l) (h0 : 0 ≤ l) (q : Nat) (hq : q < (tpN n L A (lnC n L A)).length) :
    (pcAt (plN n L A R l al (lnC n L A)) q).y = (pcAt (plN n L A R l al (lnC n L A)) q).l * l ∧ (pcAt (plN n L A R l al (lnC n L A)) q).h = l ∧ 0 ≤ (pcAt (plN n L A R l al (lnC n L A)) q).l ∧ (pcAt (plN n L A R l al (lnC n L A)) q).l < lnC n L A := by
  have ok := tp_ok (n := n) (L := L) (A := A) (lnC n L A) fun j hj => ln_le j hj
  have h1 := ok.ln q hq
  have h2 := ok.gr q hq
  obtain ⟨ht, _⟩ := ln_line (ln_le _ h1)
  have hln := ht.ln
  rw [plN_at hq]
  generalize tAt (tpN n L A (lnC n L A)) q = t at h1 h2 ht hln ⊢
  have e1 : hR R (L t.2.1) = l := hL _ (by omega)
  have e2 := lnY_same (A := A) hL h0 t.1 fun j hj => ln_le j (by omega)
  have e3 := udN_same (R := R) (L := L) (o := lnAt n L A t.1) h0 (lnTo n L A t.1 - lnAt n L A t.1) fun j hj => hL _ (by omega)
  simp only [pcT, pcOf, udL, e1, e2, e3]
  refine ⟨by omega, trivial, by omega, by omega⟩
end
/-- Glyphs do not look at line-heights. -/
theorem goR_congr {M : Int → Int} {R R' : Nat → Rn} (h : ∀ j, (R j).s = (R' j).s ∧ (R j).v = (R' j).v) : ∀ k, goR M R k = goR M R' k
  | 0 => rfl
  | k + 1 => by rw [goR, goR, goR_congr h k, (h k).1, (h k).2]
theorem glyphs_congr {M : Int → Int} {R R' : Nat → Rn} (h : ∀ j, (R j).s = (R' j).s ∧ (R j).v = (R' j).v) (k : Nat) : glyphs M R k = glyphs M R' k := by unfold glyphs; rw [goR_congr h]
theorem gl_oneH {M : Int → Int} {R : Nat → Rn} {k : Nat} {l : Int} (h : ∀ r, r < k → hd (R r).l = l) : OneH (glyphs M R k).length (at_ (glyphs M R k)) R l := by
  intro z hz
  obtain ⟨r, q, hr, hq, e⟩ := glyphs_mem (at_mem hz)
  rw [e]
  show hd (R ((r : Nat) : Int).toNat).l = l
  rw [Int.toNat_natCast]
  exact h r hr
end Go.Proofs.Ytcpahifgdppkbaa.QAI
end
section
/- RowTells: the walk. -/
set_option linter.unusedVariables false
set_option linter.unusedSimpArgs false
namespace Go.Proofs.Ytcpahifgdppkbaa.QAI
open Go Go.RowKit
set_option maxRecDepth 100000
abbrev tlK : List (Nat × Option TypeId) := [(2,none),(3,none),(4,none),(5,none),(6,none),(13,none),(14,none)]
noncomputable def tlG : Ctx2 := GT KRT (fun k => if k = 6 then tlK else []) 0 []
theorem tlG_ok : XOk tlG := GT_ok KRT_ok _ _ _
def tl0 (k : Nat) (R0 : Nat → Rn) (K : Nat) (g a : Nat → Int) (A line al i : Int) : St :=
  ⟨slots 68 [(2, .c (.sl 1 0 K)), (3, I64 A), (4, I64 line), (5, I64 al), (6, .c (.ptr 2 0 0)), (13, .c (.sl 0 0 k)), (14, I64 i)], [rowRn false k R0, rowJ false K g, rowA a]⟩
def tl1 (k : Nat) (R0 : Nat → Rn) (K : Nat) (g a : Nat → Int) (m : Nat) (R : Nat → Rn) (A line al i : Int) : St :=
  ⟨slots 68 [(2, .c (.sl 1 0 K)), (3, I64 A), (4, I64 line), (5, I64 al), (6, .c (.ptr 2 0 0)), (13, .c (.sl 3 0 m)), (14, I64 i)], [rowRn false k R0, rowJ false K g, rowA a, rowRn true m R]⟩
theorem tl_0 {k : Nat} {R0 : Nat → Rn} {K : Nat} {g a : Nat → Int} {A line al i : Int} : (rT tlG nol 2 52 (bodyOf Try.f34 0) tlK tlK (tl0 k R0 K g a A line al i)).go [true, true, true, true, true, true, false, false, false, false, false] =
  some
    ([decide (i < (2 : Int)), true,
        yes
          (k ≤ k ∧
            k < 2 ^ 40 ∧
              lenR (fun i => decN (encN (R0 i))) k < 2 ^ 30 ∧
                ((-1125899906842624 : Int) ≤ A ∧ A ≤ (1125899906842624 : Int)) ∧
                  ((fun k => (v1 (a k)).headD undef) = fun k => Value.int IntKind.i64 (dv ((v1 (a k)).headD undef))) ∧
                    (fun j => encN (R0 j)) = fun j => encN (decN (encN (R0 j)))),
        true,
        yes
          (k ≤ k ∧
            k < 2 ^ 40 ∧
              lenR (fun i => decN (encN (R0 i))) k < 2 ^ 30 ∧
                ((-1125899906842624 : Int) ≤ A ∧ A ≤ (1125899906842624 : Int)) ∧
                  ((fun k => (v1 (a k)).headD undef) = fun k => Value.int IntKind.i64 (dv ((v1 (a k)).headD undef))) ∧
                    (fun j => encN (R0 j)) = fun j => encN (decN (encN (R0 j)))),
        yes
          ((plA (Mt fun k => dv ((v1 (a k)).headD undef)) (fun i => decN (encN (R0 i))) k A line al).length =
              (plA (Mt fun k => dv ((v1 (a k)).headD undef)) (fun i => decN (encN (R0 i))) k A line al).length ∧
            (plA (Mt fun k => dv ((v1 (a k)).headD undef)) (fun i => decN (encN (R0 i))) k A line al).length ≤
                (plA (Mt fun k => dv ((v1 (a k)).headD undef)) (fun i => decN (encN (R0 i))) k A line al).length ∧
              (plA (Mt fun k => dv ((v1 (a k)).headD undef)) (fun i => decN (encN (R0 i))) k A line al).length ≤
                  (plA (Mt fun k => dv ((v1 (a k)).headD undef)) (fun i => decN (encN (R0 i))) k A line al).length ∧
                (plA (Mt fun k => dv ((v1 (a k)).headD undef)) (fun i => decN (encN (R0 i))) k A line al).length <
                    2 ^ 40 ∧
                  ((fun j =>
                        encC
                          (pcAt
                            (plA (Mt fun k => dv ((v1 (a k)).headD undef)) (fun i => decN (encN (R0 i))) k A line al)
                            j)) =
                      fun j =>
                      encC
                        (decC
                          (encC
                            (pcAt
                              (plA (Mt fun k => dv ((v1 (a k)).headD undef)) (fun i => decN (encN (R0 i))) k A line al)
                              j)))) ∧
                    ((fun j =>
                          encC
                            (pcAt
                              (plA (Mt fun k => dv ((v1 (a k)).headD undef)) (fun i => decN (encN (R0 i))) k A line al)
                              j)) =
                        fun j =>
                        encC
                          (decC
                            (encC
                              (pcAt
                                (plA (Mt fun k => dv ((v1 (a k)).headD undef)) (fun i => decN (encN (R0 i))) k A line
                                  al)
                                j)))) ∧
                      ∀ (i : Nat),
                        i <
                            (plA (Mt fun k => dv ((v1 (a k)).headD undef)) (fun i => decN (encN (R0 i))) k A line
                                al).length →
                          decC
                              (encC
                                (pcAt
                                  (plA (Mt fun k => dv ((v1 (a k)).headD undef)) (fun i => decN (encN (R0 i))) k A line
                                    al)
                                  i)) =
                            decC
                              (encC
                                (pcAt
                                  (plA (Mt fun k => dv ((v1 (a k)).headD undef)) (fun i => decN (encN (R0 i))) k A line
                                    al)
                                  i))),
        true, true, true, true,
        !plY (Mt fun k => dv ((v1 (a k)).headD undef)) (fun i => decN (encN (R0 i))) k A line !=
            plY (Mt fun k => dv ((v1 (a k)).headD undef)) (fun i => decN (encN (R0 i))) k A line,
        true, yes ((fun k => (v1 (a k)).headD undef) = fun k => Value.int IntKind.i64 (dv ((v1 (a k)).headD undef))),
        yes (0 + K ≤ K ∧ (fun j => v1 (g j)) = fun j => v1 (vd (v1 (g j))))],
      Ex.normal,
      {
        sl :=
          slots 68
            [(2, AV.c (AC.sl 1 0 K)), (3, I64 (and64 A (4095 : Int))),
              (4, I64 (and64 line (4095 : Int))), (5, I64 (and64 al (3 : Int))),
              (6, AV.c (AC.ptr 2 0 0)),
              (13, AV.c (AC.sl 3 0 (m12 K))), (14, I64 (w64 (i + (1 : Int))))],
        h :=
          [some
              { t := 83, own := false,
                c :=
                  Cont.row 4 k fun j =>
                    [Value.int IntKind.i64 (R0 j).n, Value.string (R0 j).s, Value.int IntKind.i64 (R0 j).v,
                      Value.int IntKind.i64 (R0 j).l] },
            some { t := 2, own := false, c := Cont.row 1 K fun j => [Value.int IntKind.i64 (g j)] },
            some
              { t := 35, own := true,
                c :=
                  Cont.row 1 256 fun k =>
                    [Value.int IntKind.i64 (tz (fun k => dv ((v1 (a k)).headD undef)) k)] },
            some
              { t := 83, own := true,
                c :=
                  Cont.row 4 (m12 K) fun j =>
                    [Value.int IntKind.i64 (runsL (fun j => vd (v1 (g (0 + j)))) (m12 K) j).n,
                      Value.string (runsL (fun j => vd (v1 (g (0 + j)))) (m12 K) j).s,
                      Value.int IntKind.i64 (runsL (fun j => vd (v1 (g (0 + j)))) (m12 K) j).v,
                      Value.int IntKind.i64 (runsL (fun j => vd (v1 (g (0 + j)))) (m12 K) j).l] }] }) := by kernel_rfl
theorem tl_1 {k : Nat} {R0 : Nat → Rn} {K : Nat} {g a : Nat → Int} {m : Nat} {R : Nat → Rn} {A line al i : Int} : (rT tlG nol 2 52 (bodyOf Try.f34 0) tlK tlK (tl1 k R0 K g a m R A line al i)).go [true, true, true, true, true, true, false, false, false, false, false] =
  some
    ([decide (i < (2 : Int)), true,
        yes
          (m ≤ m ∧
            m < 2 ^ 40 ∧
              lenR (fun i => decN (encN (R i))) m < 2 ^ 30 ∧
                ((-1125899906842624 : Int) ≤ A ∧ A ≤ (1125899906842624 : Int)) ∧
                  ((fun k => (v1 (a k)).headD undef) = fun k => Value.int IntKind.i64 (dv ((v1 (a k)).headD undef))) ∧
                    (fun j => encN (R j)) = fun j => encN (decN (encN (R j)))),
        true,
        yes
          (m ≤ m ∧
            m < 2 ^ 40 ∧
              lenR (fun i => decN (encN (R i))) m < 2 ^ 30 ∧
                ((-1125899906842624 : Int) ≤ A ∧ A ≤ (1125899906842624 : Int)) ∧
                  ((fun k => (v1 (a k)).headD undef) = fun k => Value.int IntKind.i64 (dv ((v1 (a k)).headD undef))) ∧
                    (fun j => encN (R j)) = fun j => encN (decN (encN (R j)))),
        yes
          ((plA (Mt fun k => dv ((v1 (a k)).headD undef)) (fun i => decN (encN (R i))) m A line al).length =
              (plA (Mt fun k => dv ((v1 (a k)).headD undef)) (fun i => decN (encN (R i))) m A line al).length ∧
            (plA (Mt fun k => dv ((v1 (a k)).headD undef)) (fun i => decN (encN (R i))) m A line al).length ≤
                (plA (Mt fun k => dv ((v1 (a k)).headD undef)) (fun i => decN (encN (R i))) m A line al).length ∧
              (plA (Mt fun k => dv ((v1 (a k)).headD undef)) (fun i => decN (encN (R i))) m A line al).length ≤
                  (plA (Mt fun k => dv ((v1 (a k)).headD undef)) (fun i => decN (encN (R i))) m A line al).length ∧
                (plA (Mt fun k => dv ((v1 (a k)).headD undef)) (fun i => decN (encN (R i))) m A line al).length <
                    2 ^ 40 ∧
                  ((fun j =>
                        encC
                          (pcAt (plA (Mt fun k => dv ((v1 (a k)).headD undef)) (fun i => decN (encN (R i))) m A line al)
                            j)) =
                      fun j =>
                      encC
                        (decC
                          (encC
                            (pcAt
                              (plA (Mt fun k => dv ((v1 (a k)).headD undef)) (fun i => decN (encN (R i))) m A line al)
                              j)))) ∧
                    ((fun j =>
                          encC
                            (pcAt
                              (plA (Mt fun k => dv ((v1 (a k)).headD undef)) (fun i => decN (encN (R i))) m A line al)
                              j)) =
                        fun j =>
                        encC
                          (decC
                            (encC
                              (pcAt
                                (plA (Mt fun k => dv ((v1 (a k)).headD undef)) (fun i => decN (encN (R i))) m A line al)
                                j)))) ∧
                      ∀ (i : Nat),
                        i <
                            (plA (Mt fun k => dv ((v1 (a k)).headD undef)) (fun i => decN (encN (R i))) m A line
                                al).length →
                          decC
                              (encC
                                (pcAt
                                  (plA (Mt fun k => dv ((v1 (a k)).headD undef)) (fun i => decN (encN (R i))) m A line
                                    al)
                                  i)) =
                            decC
                              (encC
                                (pcAt
                                  (plA (Mt fun k => dv ((v1 (a k)).headD undef)) (fun i => decN (encN (R i))) m A line
                                    al)
                                  i))),
        true, true, true, true,
        !plY (Mt fun k => dv ((v1 (a k)).headD undef)) (fun i => decN (encN (R i))) m A line !=
            plY (Mt fun k => dv ((v1 (a k)).headD undef)) (fun i => decN (encN (R i))) m A line,
        true, yes ((fun k => (v1 (a k)).headD undef) = fun k => Value.int IntKind.i64 (dv ((v1 (a k)).headD undef))),
        yes (0 + K ≤ K ∧ (fun j => v1 (g j)) = fun j => v1 (vd (v1 (g j))))],
      Ex.normal,
      {
        sl :=
          slots 68
            [(2, AV.c (AC.sl 1 0 K)), (3, I64 (and64 A (4095 : Int))),
              (4, I64 (and64 line (4095 : Int))), (5, I64 (and64 al (3 : Int))),
              (6, AV.c (AC.ptr 2 0 0)),
              (13, AV.c (AC.sl 3 0 (m12 K))), (14, I64 (w64 (i + (1 : Int))))],
        h :=
          [some
              { t := 83, own := false,
                c :=
                  Cont.row 4 k fun j =>
                    [Value.int IntKind.i64 (R0 j).n, Value.string (R0 j).s, Value.int IntKind.i64 (R0 j).v,
                      Value.int IntKind.i64 (R0 j).l] },
            some { t := 2, own := false, c := Cont.row 1 K fun j => [Value.int IntKind.i64 (g j)] },
            some
              { t := 35, own := true,
                c :=
                  Cont.row 1 256 fun k =>
                    [Value.int IntKind.i64 (tz (fun k => dv ((v1 (a k)).headD undef)) k)] },
            some
              { t := 83, own := true,
                c :=
                  Cont.row 4 (m12 K) fun j =>
                    [Value.int IntKind.i64 (runsL (fun j => vd (v1 (g (0 + j)))) (m12 K) j).n,
                      Value.string (runsL (fun j => vd (v1 (g (0 + j)))) (m12 K) j).s,
                      Value.int IntKind.i64 (runsL (fun j => vd (v1 (g (0 + j)))) (m12 K) j).v,
                      Value.int IntKind.i64 (runsL (fun j => vd (v1 (g (0 + j)))) (m12 K) j).l] }] }) := by kernel_rfl
theorem tl_e {k : Nat} {R0 : Nat → Rn} {K : Nat} {g a : Nat → Int} {m : Nat} {R : Nat → Rn} {A line al i : Int} : (rT tlG nol 2 52 (bodyOf Try.f34 0) tlK tlK (tl1 k R0 K g a m R A line al i)).go [false] =
  some
    ([!decide (i < (2 : Int))], Ex.exit 0,
      {
        sl :=
          slots 68
            [(2, AV.c (AC.sl 1 0 K)), (3, I64 A), (4, I64 line),
              (5, I64 al), (6, AV.c (AC.ptr 2 0 0)),
              (13, AV.c (AC.sl 3 0 m)), (14, I64 i)],
        h :=
          [some
              { t := 83, own := false,
                c :=
                  Cont.row 4 k fun j =>
                    [Value.int IntKind.i64 (R0 j).n, Value.string (R0 j).s, Value.int IntKind.i64 (R0 j).v,
                      Value.int IntKind.i64 (R0 j).l] },
            some { t := 2, own := false, c := Cont.row 1 K fun j => [Value.int IntKind.i64 (g j)] },
            some
              { t := 35, own := true,
                c := Cont.row 1 256 fun k => [Value.int IntKind.i64 (a k)] },
            some
              { t := 83, own := true,
                c :=
                  Cont.row 4 m fun j =>
                    [Value.int IntKind.i64 (R j).n, Value.string (R j).s, Value.int IntKind.i64 (R j).v,
                      Value.int IntKind.i64 (R j).l] }] }) := by kernel_rfl
theorem tl_wf {k : Nat} {R0 : Nat → Rn} {K : Nat} {g a : Nat → Int} {A line al : Int} : (lfun tlG nol 60 Try.f34 [aA a, .c (.sl 0 0 k), .c (.sl 1 0 K), I64 A, I64 line, I64 al] [rowRn false k R0, rowJ false K g]).go [] =
  some
    ([yes (0 + k ≤ k ∧ (fun j => encN (R0 j)) = fun j => encN (decN (encN (R0 j)))),
        !fewB (fun i => decN (encN (R0 (0 + i)))) k],
      Bo true,
      [some
          { t := 83, own := false,
            c :=
              Cont.row 4 k fun j =>
                [Value.int IntKind.i64 (R0 j).n, Value.string (R0 j).s, Value.int IntKind.i64 (R0 j).v,
                  Value.int IntKind.i64 (R0 j).l] },
        some { t := 2, own := false, c := Cont.row 1 K fun j => [Value.int IntKind.i64 (g j)] }]) := by kernel_rfl
theorem tl_wt {k : Nat} {R0 : Nat → Rn} {K : Nat} {g a : Nat → Int} {A line al : Int} {a' : Nat → Int} {m : Nat} {R : Nat → Rn} {A' line' al' : Int} : (lfun tlG (tell (bodyOf Try.f34 0) (tl0 k R0 K g a (A.tmod 1099511627776) line al 0) (.exit 0, tl1 k R0 K g a' m R A' line' al' 2)) 60 Try.f34 [aA a, .c (.sl 0 0 k), .c (.sl 1 0 K), I64 A, I64 line, I64 al] [rowRn false k R0, rowJ false K g]).go [true, false] =
  some
    ([yes (0 + k ≤ k ∧ (fun j => encN (R0 j)) = fun j => encN (decN (encN (R0 j)))),
        !!fewB (fun i => decN (encN (R0 (0 + i)))) k, true, yes (wasS (bodyOf Try.f34 0) (tl0 k R0 K g a (A.tmod 1099511627776) line al 0))],
      Bo true,
      [some
          { t := 83, own := false,
            c :=
              Cont.row 4 k fun j =>
                [Value.int IntKind.i64 (R0 j).n, Value.string (R0 j).s, Value.int IntKind.i64 (R0 j).v,
                  Value.int IntKind.i64 (R0 j).l] },
        some { t := 2, own := false, c := Cont.row 1 K fun j => [Value.int IntKind.i64 (g j)] }]) := by kernel_rfl
end Go.Proofs.Ytcpahifgdppkbaa.QAI
end
section
/- RowTells: what the walk comes to. -/
set_option linter.unusedVariables false
set_option linter.unusedSimpArgs false
namespace Go.Proofs.Ytcpahifgdppkbaa.QAI
open Go Go.RowKit
set_option maxRecDepth 100000
theorem tmod_b (A : Int) {n : Int} (hn : 0 < n) : -n < A.tmod n ∧ A.tmod n < n := ⟨Int.lt_tmod_of_pos A hn, Int.tmod_lt_of_pos A hn⟩
def ruN (K : Nat) (g : Nat → Int) : Nat → Rn := runsL (fun j => vd (v1 (g (0 + j)))) (m12 K)
theorem ruN_len (K : Nat) (g : Nat → Int) : lenR (ruN K g) (m12 K) ≤ 432 := by
  obtain ⟨h1, _⟩ := m12_le K
  have := runsL_len (fun j => vd (v1 (g (0 + j)))) (m := m12 K) (m12 K) (Nat.le_refl _)
  show lenR (runsL (fun j => vd (v1 (g (0 + j)))) (m12 K)) (m12 K) ≤ 432
  omega
def tzA (a : Nat → Int) : Nat → Int := tz fun k => dv ((v1 (a k)).headD undef)
section
variable {k : Nat} {R0 : Nat → Rn} {K : Nat} {g a : Nat → Int} {A line al : Int}
theorem tl_step0 (hk : k < 2 ^ 40) (h0 : lenR R0 k < 2 ^ 30) (hA : -1125899906842624 ≤ A ∧ A ≤ 1125899906842624) :
    CodeSem tlG 2 (bodyOf Try.f34 0) (tl0 k R0 K g a A line al 0) (.normal, tl1 k R0 K g (tzA a) (m12 K) (ruN K g) (and64 A 4095) (and64 line 4095) (and64 al 3) 1) := by
  have hp := plA_len (M := Mt a) (R := R0) (k := k) (A := A) (st := line) (al := al)
  refine rT_sem tlG_ok noLoopsS ((rT_go (tl_0 (i := 0)) ?_).trans ?_)
  · repeat' (first | exact AllT.nil | refine AllT.cons ?_ ?_)
    all_goals first
      | (with_reducible rfl)
      | (simp; done)
      | (refine yes_of ?_
         repeat' (first | exact trivial | (with_reducible rfl) | refine And.intro ?_ ?_)
         all_goals first | omega | (show lenR R0 k < 2 ^ 30; omega) | (show (plA (Mt a) R0 k A line al).length < 2 ^ 40; omega) | rfl | exact fun _ _ => rfl)
  · rfl
theorem tl_step1 {m : Nat} {R : Nat → Rn} {i : Nat} (hi : i < 2) (hk : m < 2 ^ 40) (h0 : lenR R m < 2 ^ 30) (hA : -1125899906842624 ≤ A ∧ A ≤ 1125899906842624) :
    CodeSem tlG 2 (bodyOf Try.f34 0) (tl1 k R0 K g a m R A line al i) (.normal, tl1 k R0 K g (tzA a) (m12 K) (ruN K g) (and64 A 4095) (and64 line 4095) (and64 al 3) ((i + 1 : Nat) : Int)) := by
  have hp := plA_len (M := Mt a) (R := R) (k := m) (A := A) (st := line) (al := al)
  have e3 := succ64 (j := i) (by omega)
  refine rT_sem tlG_ok noLoopsS ((rT_go (tl_1 (i := i)) ?_).trans ?_)
  · repeat' (first | exact AllT.nil | refine AllT.cons ?_ ?_)
    all_goals first
      | (with_reducible rfl)
      | (simp; done)
      | exact decide_eq_true (by omega)
      | (refine yes_of ?_
         repeat' (first | exact trivial | (with_reducible rfl) | refine And.intro ?_ ?_)
         all_goals first | omega | (show lenR R m < 2 ^ 30; omega) | (show (plA (Mt a) R m A line al).length < 2 ^ 40; omega) | rfl | exact fun _ _ => rfl)
  · rw [e3]; rfl
theorem tl_loop (hk : k < 2 ^ 40) (h0 : lenR R0 k < 2 ^ 30) (hA : -1125899906842624 ≤ A ∧ A ≤ 1125899906842624) :
    CodeSem tlG 2 (.loop (bodyOf Try.f34 0)) (tl0 k R0 K g a A line al 0) (.exit 0, tl1 k R0 K g (tzA (tzA a)) (m12 K) (ruN K g) (and64 (and64 A 4095) 4095) (and64 (and64 line 4095) 4095) (and64 (and64 al 3) 3) 2) := by
  obtain ⟨hm, _⟩ := m12_le K
  have hr := ruN_len K g
  refine LoopR.sem (LoopR.next (tl_step0 hk h0 hA) (LoopR.next (tl_step1 (i := 1) (by omega) (by omega) (by omega) ?_) (LoopR.stop (by simp) ?_)))
  · have e : and64 A 4095 = A % 4096 := and_mask 12 (by decide) A 4095 rfl
    omega
  · exact rT_sem tlG_ok noLoopsS (rT_go tl_e ⟨by simp, trivial⟩)
end
theorem rowTells_true (a : Nat → Int) (k : Nat) (R0 : Nat → Rn) (K : Nat) (g : Nat → Int) (A line al : Int) : ∃ keep tm d ℓ, LoopsSem (GT KRT keep 0 tm) [rowRn false k R0, rowJ false K g].length ℓ ∧ (lfun (GT KRT keep 0 tm) ℓ d Try.f34 [aA a, .c (.sl 0 0 k), .c (.sl 1 0 K), I64 A, I64 line, I64 al] [rowRn false k R0, rowJ false K g]).eval = some (Bo true, [rowRn false k R0, rowJ false K g]) := by
  by_cases hf : fewB R0 k = true
  · obtain ⟨hk, hlen⟩ := few_len hf
    have hb := tmod_b A (n := 1099511627776) (by decide)
    refine ⟨_, [], 60, _, tell_ok (tl_loop (k := k) (R0 := R0) (K := K) (g := g) (a := a) (A := A.tmod 1099511627776) (line := line) (al := al) (by omega) (by omega) ⟨by omega, by omega⟩), (Tr.go_eval (tl_wt (k := k) (R0 := R0) (K := K) (g := g) (a := a) (A := A) (line := line) (al := al)) ?_).trans ?_⟩
    · have hf' : (!!fewB R0 k) = true := by rw [hf]; rfl
      simp only [Nat.zero_add]
      repeat' (first | exact AllT.nil | refine AllT.cons ?_ ?_)
      all_goals first | (with_reducible rfl) | exact yes_of ⟨Nat.le_refl _, rfl⟩ | exact yes_of ⟨rfl, rfl⟩ | exact hf' | rfl
    · rfl
  · have hf' : (!fewB R0 k) = true := by simpa using hf
    refine ⟨_, [], 60, nol, noLoopsS, (Tr.go_eval (tl_wf (k := k) (R0 := R0) (K := K) (g := g) (a := a) (A := A) (line := line) (al := al)) ?_).trans ?_⟩
    · simp only [Nat.zero_add]
      repeat' (first | exact AllT.nil | refine AllT.cons ?_ ?_)
      all_goals first | (with_reducible rfl) | exact yes_of ⟨Nat.le_refl _, rfl⟩ | exact hf' | rfl
    · rfl
def rowTellsS : List Shp := [.arr 256 (.int .i64), .rows 83 [.int .i64, .str, .int .i64, .int .i64], .rows 2 [.int .i64], .one (.int .i64), .one (.int .i64), .one (.int .i64)]
theorem rowTells_core : ∀ is, InsOk rowTellsS is → ∃ keep tm d ℓ, LoopsSem (GT KRT keep 0 tm) (blksIn rowTellsS is).length ℓ ∧ (lfun (GT KRT keep 0 tm) ℓ d Try.f34 (avsIn 0 rowTellsS is) (blksIn rowTellsS is)).eval = some (Bo true, blksIn rowTellsS is) := by
  intro is0 h0
  obtain ⟨v0, is1, rfl, h1⟩ := ins_arr h0
  obtain ⟨k1, v1', is2, rfl, h2, _⟩ := ins_runs h1
  obtain ⟨k2, v2, is3, rfl, h3, _⟩ := ins_ints h2
  obtain ⟨v3, is4, rfl, h4⟩ := ins_i64 h3
  obtain ⟨v4, is5, rfl, h5⟩ := ins_i64 h4
  obtain ⟨v5, is6, rfl, h6⟩ := ins_i64 h5
  obtain rfl := ins_nil h6
  exact rowTells_true v0 k1 v1' k2 v2 v3 v4 v5
end Go.Proofs.Ytcpahifgdppkbaa.QAI
end
section
/- RowStands: the walk. -/
set_option linter.unusedVariables false
set_option linter.unusedSimpArgs false
namespace Go.Proofs.Ytcpahifgdppkbaa.QAI
open Go Go.RowKit
set_option maxRecDepth 100000
noncomputable def KRS : Known := (52, upF) :: KRT
theorem KRS_ok : KnownOk KRS := consK rupF_ok (by kernel_rfl) KRT_ok
abbrev rsK : List (Nat × Option TypeId) := [(2,none),(9,none),(10,none),(11,none),(12,none),(13,none),(14,none)]
noncomputable def rsG : Ctx2 := GT KRS (fun k => if k = 8 then rsK else []) 0 []
theorem rsG_ok : XOk rsG := GT_ok KRS_ok _ _ _
def rsS (K : Nat) (g : Nat → Int) (m : Nat) (R : Nat → Rn) (ng : Nat) (L : Nat → Gl) (np : Nat) (P : Nat → Pc) (A h n i : Int) : St := ⟨slots 216 [(2, I64 A), (9, .c (.sl 1 0 m)), (10, .c (.sl 2 0 ng)), (11, .c (.sl 3 0 np)), (12, I64 h), (13, I64 n), (14, I64 i)], [rowJ false K g, rowRn true m R, rowGl ng L, rowPc np P]⟩
theorem rs_0 {K : Nat} {g : Nat → Int} {m : Nat} {R : Nat → Rn} {ng : Nat} {L : Nat → Gl} {np : Nat} {P : Nat → Pc} {A h n i : Int} : (rT rsG nol 1 49 (bodyOf Try.f35 0) rsK rsK (rsS K g m R ng L np P A h n i)).go [true, true, true, true, false, false, false, false, false, false, false, false, false, false, false, false, false, false, false, false, false, false, false, false, false, false, true, true, false, false, true, false, false, false, false, false, false, false, false, false, false, false, false, false, false, false, false, false, false, false, false, false, false, false, false, false, false, false, false, false, false, false, false, false, false, false, false, false, false, false, false, true, true, false, false, true, false, false, false, true, false] =
  some
    ([decide (i < ((np : Nat) : Int)), decide ((0 : Int) ≤ i), decide (i < ((np : Nat) : Int)), decide (0 + i.toNat < np),
        !decide ((P (0 + i.toNat)).n < (0 : Int)), true, true, true, true, true,
        !decide ((P (0 + i.toNat)).n ≥ ((m : Nat) : Int)), true, true, true, true, true,
        !decide ((P (0 + i.toNat)).t ≤ (P (0 + i.toNat)).f), true, true, true,
        !decide ((P (0 + i.toNat)).f < (0 : Int)), true, true, true, true, true,
        decide ((0 : Int) ≤ (P (0 + i.toNat)).n), decide ((P (0 + i.toNat)).n < ((m : Nat) : Int)), true, true,
        decide (0 + (P (0 + i.toNat)).n.toNat < m), true, true, true,
        !decide ((P (0 + i.toNat)).t > (((R (0 + (P (0 + i.toNat)).n.toNat)).s.size : Nat) : Int)), true, true,
        true, true, !decide ((P (0 + i.toNat)).x < (0 : Int)), true, true, true, true, true, true, true, true,
        true, !decide (w64 ((P (0 + i.toNat)).x + (P (0 + i.toNat)).w) > A), true, true, true, true,
        !decide ((P (0 + i.toNat)).y < (0 : Int)), true, true, true, true, true, true, true, true, true,
        !decide (w64 ((P (0 + i.toNat)).y + (P (0 + i.toNat)).h) > h), true, true, true, true, true,
        true, decide ((0 : Int) ≤ (P (0 + i.toNat)).n), decide ((P (0 + i.toNat)).n < ((m : Nat) : Int)), true, true,
        decide (0 + (P (0 + i.toNat)).n.toNat < m), true, true,
        !(P (0 + i.toNat)).h != (R (0 + (P (0 + i.toNat)).n.toNat)).l,
        yes ((0 : Int) ≤ (P (0 + i.toNat)).h ∧ (P (0 + i.toNat)).h ≤ (4611686018427387904 : Int)),
        !decide (i > (0 : Int))],
      Ex.normal,
      {
        sl :=
          slots 216
            [(2, I64 A), (9, AV.c (AC.sl 1 0 m)),
              (10, AV.c (AC.sl 2 0 ng)), (11, AV.c (AC.sl 3 0 np)),
              (12, I64 h), (13, I64 (mxI (w64 ((P (0 + i.toNat)).l + (1 : Int))) n)),
              (14, I64 (w64 (i + (1 : Int))))],
        h :=
          [some { t := 2, own := false, c := Cont.row 1 K fun j => [Value.int IntKind.i64 (g j)] },
            some
              { t := 83, own := true,
                c :=
                  Cont.row 4 m fun j =>
                    [Value.int IntKind.i64 (R j).n, Value.string (R j).s, Value.int IntKind.i64 (R j).v,
                      Value.int IntKind.i64 (R j).l] },
            some
              { t := 87, own := true,
                c :=
                  Cont.row 4 ng fun j =>
                    [Value.int IntKind.i64 (L j).k, Value.int IntKind.i64 (L j).r, Value.int IntKind.i64 (L j).a,
                      Value.int IntKind.i64 (L j).w] },
            some
              { t := 112, own := true,
                c :=
                  Cont.row 8 np fun j =>
                    [Value.int IntKind.i64 (P j).n, Value.int IntKind.i64 (P j).x, Value.int IntKind.i64 (P j).y,
                      Value.int IntKind.i64 (P j).w, Value.int IntKind.i64 (P j).h, Value.int IntKind.i64 (P j).f,
                      Value.int IntKind.i64 (P j).t, Value.int IntKind.i64 (P j).l] }] }) := by kernel_rfl
theorem rs_s {K : Nat} {g : Nat → Int} {m : Nat} {R : Nat → Rn} {ng : Nat} {L : Nat → Gl} {np : Nat} {P : Nat → Pc} {A h n i : Int} : (rT rsG nol 1 49 (bodyOf Try.f35 0) rsK rsK (rsS K g m R ng L np P A h n i)).go [true, true, true, true, false, false, false, false, false, false, false, false, false, false, false, false, false, false, false, false, false, false, false, false, false, false, true, true, false, false, true, false, false, false, false, false, false, false, false, false, false, false, false, false, false, false, false, false, false, false, false, false, false, false, false, false, false, false, false, false, false, false, false, false, false, false, false, false, false, false, false, true, true, false, false, true, false, false, false, true, true, true, true, true, true, true, true, true, true, false, false, false, false, false, false, false, false, false, false, false, true, false, true, false, false, false, false, false, false, false, false, false, false, false, false, false, false, false, false, false, false, false] =
  some
    ([decide (i < ((np : Nat) : Int)), decide ((0 : Int) ≤ i), decide (i < ((np : Nat) : Int)), decide (0 + i.toNat < np),
        !decide ((P (0 + i.toNat)).n < (0 : Int)), true, true, true, true, true,
        !decide ((P (0 + i.toNat)).n ≥ ((m : Nat) : Int)), true, true, true, true, true,
        !decide ((P (0 + i.toNat)).t ≤ (P (0 + i.toNat)).f), true, true, true,
        !decide ((P (0 + i.toNat)).f < (0 : Int)), true, true, true, true, true,
        decide ((0 : Int) ≤ (P (0 + i.toNat)).n), decide ((P (0 + i.toNat)).n < ((m : Nat) : Int)), true, true,
        decide (0 + (P (0 + i.toNat)).n.toNat < m), true, true, true,
        !decide ((P (0 + i.toNat)).t > (((R (0 + (P (0 + i.toNat)).n.toNat)).s.size : Nat) : Int)), true, true,
        true, true, !decide ((P (0 + i.toNat)).x < (0 : Int)), true, true, true, true, true, true, true, true,
        true, !decide (w64 ((P (0 + i.toNat)).x + (P (0 + i.toNat)).w) > A), true, true, true, true,
        !decide ((P (0 + i.toNat)).y < (0 : Int)), true, true, true, true, true, true, true, true, true,
        !decide (w64 ((P (0 + i.toNat)).y + (P (0 + i.toNat)).h) > h), true, true, true, true, true,
        true, decide ((0 : Int) ≤ (P (0 + i.toNat)).n), decide ((P (0 + i.toNat)).n < ((m : Nat) : Int)), true, true,
        decide (0 + (P (0 + i.toNat)).n.toNat < m), true, true,
        !(P (0 + i.toNat)).h != (R (0 + (P (0 + i.toNat)).n.toNat)).l,
        yes ((0 : Int) ≤ (P (0 + i.toNat)).h ∧ (P (0 + i.toNat)).h ≤ (4611686018427387904 : Int)),
        decide (i > (0 : Int)), decide ((0 : Int) ≤ w64 (i - (1 : Int))), decide (w64 (i - (1 : Int)) < ((np : Nat) : Int)),
        decide (0 + (w64 (i - (1 : Int))).toNat < np),
        yes
          ((0 : Int) ≤ (P (0 + (w64 (i - (1 : Int))).toNat)).h ∧
            (P (0 + (w64 (i - (1 : Int))).toNat)).h ≤ (4611686018427387904 : Int)),
        (P (0 + i.toNat)).l == (P (0 + (w64 (i - (1 : Int))).toNat)).l, true, true, true,
        !w64 ((P (0 + i.toNat)).y + upL (P (0 + i.toNat)).h) !=
            w64 ((P (0 + (w64 (i - (1 : Int))).toNat)).y + upL (P (0 + (w64 (i - (1 : Int))).toNat)).h),
        true, true, true, true, true, true, true, true, true, true, true, true, true,
        !(P (0 + i.toNat)).x !=
            w64 ((P (0 + (w64 (i - (1 : Int))).toNat)).x + (P (0 + (w64 (i - (1 : Int))).toNat)).w),
        true, true, true, true, true,
        !decide ((P (0 + i.toNat)).l < (P (0 + (w64 (i - (1 : Int))).toNat)).l), true, true, true, true,
        true, !decide ((P (0 + i.toNat)).l > (P (0 + (w64 (i - (1 : Int))).toNat)).l), true, true, true,
        true, true, true],
      Ex.normal,
      {
        sl :=
          slots 216
            [(2, I64 A), (9, AV.c (AC.sl 1 0 m)),
              (10, AV.c (AC.sl 2 0 ng)), (11, AV.c (AC.sl 3 0 np)),
              (12, I64 h), (13, I64 (mxI (w64 ((P (0 + i.toNat)).l + (1 : Int))) n)),
              (14, I64 (w64 (i + (1 : Int))))],
        h :=
          [some { t := 2, own := false, c := Cont.row 1 K fun j => [Value.int IntKind.i64 (g j)] },
            some
              { t := 83, own := true,
                c :=
                  Cont.row 4 m fun j =>
                    [Value.int IntKind.i64 (R j).n, Value.string (R j).s, Value.int IntKind.i64 (R j).v,
                      Value.int IntKind.i64 (R j).l] },
            some
              { t := 87, own := true,
                c :=
                  Cont.row 4 ng fun j =>
                    [Value.int IntKind.i64 (L j).k, Value.int IntKind.i64 (L j).r, Value.int IntKind.i64 (L j).a,
                      Value.int IntKind.i64 (L j).w] },
            some
              { t := 112, own := true,
                c :=
                  Cont.row 8 np fun j =>
                    [Value.int IntKind.i64 (P j).n, Value.int IntKind.i64 (P j).x, Value.int IntKind.i64 (P j).y,
                      Value.int IntKind.i64 (P j).w, Value.int IntKind.i64 (P j).h, Value.int IntKind.i64 (P j).f,
                      Value.int IntKind.i64 (P j).t, Value.int IntKind.i64 (P j).l] }] }) := by kernel_rfl
theorem rs_d {K : Nat} {g : Nat → Int} {m : Nat} {R : Nat → Rn} {ng : Nat} {L : Nat → Gl} {np : Nat} {P : Nat → Pc} {A h n i : Int} : (rT rsG nol 1 49 (bodyOf Try.f35 0) rsK rsK (rsS K g m R ng L np P A h n i)).go [true, true, true, true, false, false, false, false, false, false, false, false, false, false, false, false, false, false, false, false, false, false, false, false, false, false, true, true, false, false, true, false, false, false, false, false, false, false, false, false, false, false, false, false, false, false, false, false, false, false, false, false, false, false, false, false, false, false, false, false, false, false, false, false, false, false, false, false, false, false, false, true, true, false, false, true, false, false, false, true, true, true, true, true, true, false, false, false, false, false, false, false, false, false, false, false, false, false, false, false, false, false, false, true, true, true, false, true, false, false] =
  some
    ([decide (i < ((np : Nat) : Int)), decide ((0 : Int) ≤ i), decide (i < ((np : Nat) : Int)), decide (0 + i.toNat < np),
        !decide ((P (0 + i.toNat)).n < (0 : Int)), true, true, true, true, true,
        !decide ((P (0 + i.toNat)).n ≥ ((m : Nat) : Int)), true, true, true, true, true,
        !decide ((P (0 + i.toNat)).t ≤ (P (0 + i.toNat)).f), true, true, true,
        !decide ((P (0 + i.toNat)).f < (0 : Int)), true, true, true, true, true,
        decide ((0 : Int) ≤ (P (0 + i.toNat)).n), decide ((P (0 + i.toNat)).n < ((m : Nat) : Int)), true, true,
        decide (0 + (P (0 + i.toNat)).n.toNat < m), true, true, true,
        !decide ((P (0 + i.toNat)).t > (((R (0 + (P (0 + i.toNat)).n.toNat)).s.size : Nat) : Int)), true, true,
        true, true, !decide ((P (0 + i.toNat)).x < (0 : Int)), true, true, true, true, true, true, true, true,
        true, !decide (w64 ((P (0 + i.toNat)).x + (P (0 + i.toNat)).w) > A), true, true, true, true,
        !decide ((P (0 + i.toNat)).y < (0 : Int)), true, true, true, true, true, true, true, true, true,
        !decide (w64 ((P (0 + i.toNat)).y + (P (0 + i.toNat)).h) > h), true, true, true, true, true,
        true, decide ((0 : Int) ≤ (P (0 + i.toNat)).n), decide ((P (0 + i.toNat)).n < ((m : Nat) : Int)), true, true,
        decide (0 + (P (0 + i.toNat)).n.toNat < m), true, true,
        !(P (0 + i.toNat)).h != (R (0 + (P (0 + i.toNat)).n.toNat)).l,
        yes ((0 : Int) ≤ (P (0 + i.toNat)).h ∧ (P (0 + i.toNat)).h ≤ (4611686018427387904 : Int)),
        decide (i > (0 : Int)), decide ((0 : Int) ≤ w64 (i - (1 : Int))), decide (w64 (i - (1 : Int)) < ((np : Nat) : Int)),
        decide (0 + (w64 (i - (1 : Int))).toNat < np),
        yes
          ((0 : Int) ≤ (P (0 + (w64 (i - (1 : Int))).toNat)).h ∧
            (P (0 + (w64 (i - (1 : Int))).toNat)).h ≤ (4611686018427387904 : Int)),
        !(P (0 + i.toNat)).l == (P (0 + (w64 (i - (1 : Int))).toNat)).l, true, true, true, true, true,
        true, true, true, true, true, true,
        !decide ((P (0 + i.toNat)).l < (P (0 + (w64 (i - (1 : Int))).toNat)).l), true, true, true, true,
        true, decide ((P (0 + i.toNat)).l > (P (0 + (w64 (i - (1 : Int))).toNat)).l), true, true, true,
        true, true,
        !decide
            (w64 ((P (0 + i.toNat)).y + upL (P (0 + i.toNat)).h) <
              w64
                ((P (0 + (w64 (i - (1 : Int))).toNat)).y +
                  upL (P (0 + (w64 (i - (1 : Int))).toNat)).h))],
      Ex.normal,
      {
        sl :=
          slots 216
            [(2, I64 A), (9, AV.c (AC.sl 1 0 m)),
              (10, AV.c (AC.sl 2 0 ng)), (11, AV.c (AC.sl 3 0 np)),
              (12, I64 h), (13, I64 (mxI (w64 ((P (0 + i.toNat)).l + (1 : Int))) n)),
              (14, I64 (w64 (i + (1 : Int))))],
        h :=
          [some { t := 2, own := false, c := Cont.row 1 K fun j => [Value.int IntKind.i64 (g j)] },
            some
              { t := 83, own := true,
                c :=
                  Cont.row 4 m fun j =>
                    [Value.int IntKind.i64 (R j).n, Value.string (R j).s, Value.int IntKind.i64 (R j).v,
                      Value.int IntKind.i64 (R j).l] },
            some
              { t := 87, own := true,
                c :=
                  Cont.row 4 ng fun j =>
                    [Value.int IntKind.i64 (L j).k, Value.int IntKind.i64 (L j).r, Value.int IntKind.i64 (L j).a,
                      Value.int IntKind.i64 (L j).w] },
            some
              { t := 112, own := true,
                c :=
                  Cont.row 8 np fun j =>
                    [Value.int IntKind.i64 (P j).n, Value.int IntKind.i64 (P j).x, Value.int IntKind.i64 (P j).y,
                      Value.int IntKind.i64 (P j).w, Value.int IntKind.i64 (P j).h, Value.int IntKind.i64 (P j).f,
                      Value.int IntKind.i64 (P j).t, Value.int IntKind.i64 (P j).l] }] }) := by kernel_rfl
theorem rs_e {K : Nat} {g : Nat → Int} {m : Nat} {R : Nat → Rn} {ng : Nat} {L : Nat → Gl} {np : Nat} {P : Nat → Pc} {A h n i : Int} : (rT rsG nol 1 49 (bodyOf Try.f35 0) rsK rsK (rsS K g m R ng L np P A h n i)).go [false] =
  some
    ([!decide (i < ((np : Nat) : Int))], Ex.exit 0,
      {
        sl :=
          slots 216
            [(2, I64 A), (9, AV.c (AC.sl 1 0 m)),
              (10, AV.c (AC.sl 2 0 ng)), (11, AV.c (AC.sl 3 0 np)),
              (12, I64 h), (13, I64 n), (14, I64 i)],
        h :=
          [some { t := 2, own := false, c := Cont.row 1 K fun j => [Value.int IntKind.i64 (g j)] },
            some
              { t := 83, own := true,
                c :=
                  Cont.row 4 m fun j =>
                    [Value.int IntKind.i64 (R j).n, Value.string (R j).s, Value.int IntKind.i64 (R j).v,
                      Value.int IntKind.i64 (R j).l] },
            some
              { t := 87, own := true,
                c :=
                  Cont.row 4 ng fun j =>
                    [Value.int IntKind.i64 (L j).k, Value.int IntKind.i64 (L j).r, Value.int IntKind.i64 (L j).a,
                      Value.int IntKind.i64 (L j).w] },
            some
              { t := 112, own := true,
                c :=
                  Cont.row 8 np fun j =>
                    [Value.int IntKind.i64 (P j).n, Value.int IntKind.i64 (P j).x, Value.int IntKind.i64 (P j).y,
                      Value.int IntKind.i64 (P j).w, Value.int IntKind.i64 (P j).h, Value.int IntKind.i64 (P j).f,
                      Value.int IntKind.i64 (P j).t, Value.int IntKind.i64 (P j).l] }] }) := by kernel_rfl
theorem rs_w {K : Nat} {g a : Nat → Int} {A al n z : Int} : (lfun rsG (tell (bodyOf Try.f35 0) (rsS K g (m12 K) (ruN K g) (glyphs (Mt (tzA a)) (fun i => (ruN K g) (0 + i)) (m12 K)).length (at_ (glyphs (Mt (tzA a)) (fun i => (ruN K g) (0 + i)) (m12 K))) (plA (Mt (tzA a)) (ruN K g) (m12 K) (w64 (and64 A 4095 + (lgS pSB (at_ (glyphs (Mt (tzA a)) (fun i => (ruN K g) (0 + i)) (m12 K))) (glyphs (Mt (tzA a)) (fun i => (ruN K g) (0 + i)) (m12 K)).length).1)) 1280 (and64 al 3)).length (pcAt (plA (Mt (tzA a)) (ruN K g) (m12 K) (w64 (and64 A 4095 + (lgS pSB (at_ (glyphs (Mt (tzA a)) (fun i => (ruN K g) (0 + i)) (m12 K))) (glyphs (Mt (tzA a)) (fun i => (ruN K g) (0 + i)) (m12 K)).length).1)) 1280 (and64 al 3))) (w64 (and64 A 4095 + (lgS pSB (at_ (glyphs (Mt (tzA a)) (fun i => (ruN K g) (0 + i)) (m12 K))) (glyphs (Mt (tzA a)) (fun i => (ruN K g) (0 + i)) (m12 K)).length).1)) (plY (Mt (tzA a)) (ruN K g) (m12 K) (w64 (and64 A 4095 + (lgS pSB (at_ (glyphs (Mt (tzA a)) (fun i => (ruN K g) (0 + i)) (m12 K))) (glyphs (Mt (tzA a)) (fun i => (ruN K g) (0 + i)) (m12 K)).length).1)) 1280) 0 0) (.exit 0, (rsS K g (m12 K) (ruN K g) (glyphs (Mt (tzA a)) (fun i => (ruN K g) (0 + i)) (m12 K)).length (at_ (glyphs (Mt (tzA a)) (fun i => (ruN K g) (0 + i)) (m12 K))) (plA (Mt (tzA a)) (ruN K g) (m12 K) (w64 (and64 A 4095 + (lgS pSB (at_ (glyphs (Mt (tzA a)) (fun i => (ruN K g) (0 + i)) (m12 K))) (glyphs (Mt (tzA a)) (fun i => (ruN K g) (0 + i)) (m12 K)).length).1)) 1280 (and64 al 3)).length (pcAt (plA (Mt (tzA a)) (ruN K g) (m12 K) (w64 (and64 A 4095 + (lgS pSB (at_ (glyphs (Mt (tzA a)) (fun i => (ruN K g) (0 + i)) (m12 K))) (glyphs (Mt (tzA a)) (fun i => (ruN K g) (0 + i)) (m12 K)).length).1)) 1280 (and64 al 3))) (w64 (and64 A 4095 + (lgS pSB (at_ (glyphs (Mt (tzA a)) (fun i => (ruN K g) (0 + i)) (m12 K))) (glyphs (Mt (tzA a)) (fun i => (ruN K g) (0 + i)) (m12 K)).length).1)) (plY (Mt (tzA a)) (ruN K g) (m12 K) (w64 (and64 A 4095 + (lgS pSB (at_ (glyphs (Mt (tzA a)) (fun i => (ruN K g) (0 + i)) (m12 K))) (glyphs (Mt (tzA a)) (fun i => (ruN K g) (0 + i)) (m12 K)).length).1)) 1280) n z))) 60 Try.f35 [aA a, .c (.sl 0 0 K), I64 A, I64 al] [rowJ false K g]).go [] =
  some
    ([true, yes ((fun k => Value.int IntKind.i64 (a k)) = fun k => Value.int IntKind.i64 (a k)),
        yes (0 + K ≤ K ∧ (fun j => v1 (g j)) = fun j => v1 (vd (v1 (g j)))), true,
        yes
          (0 + m12 K ≤ m12 K ∧
            m12 K < 2 ^ 40 ∧
              lenR (fun i => decN (encN (runsL (fun j => vd (v1 (g (0 + j)))) (m12 K) (0 + i))))
                    (m12 K) <
                  2 ^ 39 ∧
                ((fun k => Value.int IntKind.i64 (tz (fun k => a k) k)) = fun k =>
                    Value.int IntKind.i64 (tz (fun k => a k) k)) ∧
                  (fun j => encN (runsL (fun j => vd (v1 (g (0 + j)))) (m12 K) j)) = fun j =>
                    encN (decN (encN (runsL (fun j => vd (v1 (g (0 + j)))) (m12 K) j)))),
        yes
          ((glyphs (Mt fun k => tz (fun k => a k) k)
                  (fun i => decN (encN (runsL (fun j => vd (v1 (g (0 + j)))) (m12 K) (0 + i))))
                  (m12 K)).length ≤
              (glyphs (Mt fun k => tz (fun k => a k) k)
                  (fun i => decN (encN (runsL (fun j => vd (v1 (g (0 + j)))) (m12 K) (0 + i))))
                  (m12 K)).length ∧
            (glyphs (Mt fun k => tz (fun k => a k) k)
                    (fun i => decN (encN (runsL (fun j => vd (v1 (g (0 + j)))) (m12 K) (0 + i))))
                    (m12 K)).length <
                2 ^ 30 ∧
              ((fun j =>
                    encG
                      (at_
                        (glyphs (Mt fun k => tz (fun k => a k) k)
                          (fun i => decN (encN (runsL (fun j => vd (v1 (g (0 + j)))) (m12 K) (0 + i))))
                          (m12 K))
                        j)) =
                  fun j =>
                  encG
                    (decG
                      (encG
                        (at_
                          (glyphs (Mt fun k => tz (fun k => a k) k)
                            (fun i =>
                              decN (encN (runsL (fun j => vd (v1 (g (0 + j)))) (m12 K) (0 + i))))
                            (m12 K))
                          j)))) ∧
                WOk fun j =>
                  decG
                    (encG
                      (at_
                        (glyphs (Mt fun k => tz (fun k => a k) k)
                          (fun i => decN (encN (runsL (fun j => vd (v1 (g (0 + j)))) (m12 K) (0 + i))))
                          (m12 K))
                        j))),
        true,
        yes
          (m12 K ≤ m12 K ∧
            m12 K < 2 ^ 40 ∧
              lenR (fun i => decN (encN (runsL (fun j => vd (v1 (g (0 + j)))) (m12 K) i))) (m12 K) <
                  2 ^ 30 ∧
                ((-1125899906842624 : Int) ≤
                      w64
                        (and64 A (4095 : Int) +
                          (lgS pSB
                              (fun j =>
                                decG
                                  (encG
                                    (at_
                                      (glyphs (Mt fun k => tz (fun k => a k) k)
                                        (fun i =>
                                          decN
                                            (encN
                                              (runsL (fun j => vd (v1 (g (0 + j)))) (m12 K) (0 + i))))
                                        (m12 K))
                                      j)))
                              (glyphs (Mt fun k => tz (fun k => a k) k)
                                  (fun i =>
                                    decN (encN (runsL (fun j => vd (v1 (g (0 + j)))) (m12 K) (0 + i))))
                                  (m12 K)).length).fst) ∧
                    w64
                        (and64 A (4095 : Int) +
                          (lgS pSB
                              (fun j =>
                                decG
                                  (encG
                                    (at_
                                      (glyphs (Mt fun k => tz (fun k => a k) k)
                                        (fun i =>
                                          decN
                                            (encN
                                              (runsL (fun j => vd (v1 (g (0 + j)))) (m12 K) (0 + i))))
                                        (m12 K))
                                      j)))
                              (glyphs (Mt fun k => tz (fun k => a k) k)
                                  (fun i =>
                                    decN (encN (runsL (fun j => vd (v1 (g (0 + j)))) (m12 K) (0 + i))))
                                  (m12 K)).length).fst) ≤
                      (1125899906842624 : Int)) ∧
                  ((fun k => Value.int IntKind.i64 (tz (fun k => a k) k)) = fun k =>
                      Value.int IntKind.i64 (tz (fun k => a k) k)) ∧
                    (fun j => encN (runsL (fun j => vd (v1 (g (0 + j)))) (m12 K) j)) = fun j =>
                      encN (decN (encN (runsL (fun j => vd (v1 (g (0 + j)))) (m12 K) j)))),
        yes (wasS (bodyOf Try.f35 0) (rsS K g (m12 K) (ruN K g) (glyphs (Mt (tzA a)) (fun i => (ruN K g) (0 + i)) (m12 K)).length (at_ (glyphs (Mt (tzA a)) (fun i => (ruN K g) (0 + i)) (m12 K))) (plA (Mt (tzA a)) (ruN K g) (m12 K) (w64 (and64 A 4095 + (lgS pSB (at_ (glyphs (Mt (tzA a)) (fun i => (ruN K g) (0 + i)) (m12 K))) (glyphs (Mt (tzA a)) (fun i => (ruN K g) (0 + i)) (m12 K)).length).1)) 1280 (and64 al 3)).length (pcAt (plA (Mt (tzA a)) (ruN K g) (m12 K) (w64 (and64 A 4095 + (lgS pSB (at_ (glyphs (Mt (tzA a)) (fun i => (ruN K g) (0 + i)) (m12 K))) (glyphs (Mt (tzA a)) (fun i => (ruN K g) (0 + i)) (m12 K)).length).1)) 1280 (and64 al 3))) (w64 (and64 A 4095 + (lgS pSB (at_ (glyphs (Mt (tzA a)) (fun i => (ruN K g) (0 + i)) (m12 K))) (glyphs (Mt (tzA a)) (fun i => (ruN K g) (0 + i)) (m12 K)).length).1)) (plY (Mt (tzA a)) (ruN K g) (m12 K) (w64 (and64 A 4095 + (lgS pSB (at_ (glyphs (Mt (tzA a)) (fun i => (ruN K g) (0 + i)) (m12 K))) (glyphs (Mt (tzA a)) (fun i => (ruN K g) (0 + i)) (m12 K)).length).1)) 1280) 0 0)),
        decide
          (plY (Mt (tzA a)) (ruN K g) (m12 K)
              (w64
                (and64 A (4095 : Int) +
                  (lgS pSB (at_ (glyphs (Mt (tzA a)) (fun i => ruN K g (0 + i)) (m12 K)))
                      (glyphs (Mt (tzA a)) (fun i => ruN K g (0 + i)) (m12 K)).length).fst))
              (1280 : Int) ≥
            w64 (n * (1280 : Int))),
        true, true, true, decide ((((glyphs (Mt (tzA a)) (fun i => ruN K g (0 + i)) (m12 K)).length : Nat) : Int) > (0 : Int)),
        true, true, true, true, true, true],
      Bo true,
      [some { t := 2, own := false, c := Cont.row 1 K fun j => [Value.int IntKind.i64 (g j)] }]) := by kernel_rfl
theorem rs_w0 {K : Nat} {g a : Nat → Int} {A al n z : Int} : (lfun rsG (tell (bodyOf Try.f35 0) (rsS K g (m12 K) (ruN K g) (glyphs (Mt (tzA a)) (fun i => (ruN K g) (0 + i)) (m12 K)).length (at_ (glyphs (Mt (tzA a)) (fun i => (ruN K g) (0 + i)) (m12 K))) (plA (Mt (tzA a)) (ruN K g) (m12 K) (w64 (and64 A 4095 + (lgS pSB (at_ (glyphs (Mt (tzA a)) (fun i => (ruN K g) (0 + i)) (m12 K))) (glyphs (Mt (tzA a)) (fun i => (ruN K g) (0 + i)) (m12 K)).length).1)) 1280 (and64 al 3)).length (pcAt (plA (Mt (tzA a)) (ruN K g) (m12 K) (w64 (and64 A 4095 + (lgS pSB (at_ (glyphs (Mt (tzA a)) (fun i => (ruN K g) (0 + i)) (m12 K))) (glyphs (Mt (tzA a)) (fun i => (ruN K g) (0 + i)) (m12 K)).length).1)) 1280 (and64 al 3))) (w64 (and64 A 4095 + (lgS pSB (at_ (glyphs (Mt (tzA a)) (fun i => (ruN K g) (0 + i)) (m12 K))) (glyphs (Mt (tzA a)) (fun i => (ruN K g) (0 + i)) (m12 K)).length).1)) (plY (Mt (tzA a)) (ruN K g) (m12 K) (w64 (and64 A 4095 + (lgS pSB (at_ (glyphs (Mt (tzA a)) (fun i => (ruN K g) (0 + i)) (m12 K))) (glyphs (Mt (tzA a)) (fun i => (ruN K g) (0 + i)) (m12 K)).length).1)) 1280) 0 0) (.exit 0, (rsS K g (m12 K) (ruN K g) (glyphs (Mt (tzA a)) (fun i => (ruN K g) (0 + i)) (m12 K)).length (at_ (glyphs (Mt (tzA a)) (fun i => (ruN K g) (0 + i)) (m12 K))) (plA (Mt (tzA a)) (ruN K g) (m12 K) (w64 (and64 A 4095 + (lgS pSB (at_ (glyphs (Mt (tzA a)) (fun i => (ruN K g) (0 + i)) (m12 K))) (glyphs (Mt (tzA a)) (fun i => (ruN K g) (0 + i)) (m12 K)).length).1)) 1280 (and64 al 3)).length (pcAt (plA (Mt (tzA a)) (ruN K g) (m12 K) (w64 (and64 A 4095 + (lgS pSB (at_ (glyphs (Mt (tzA a)) (fun i => (ruN K g) (0 + i)) (m12 K))) (glyphs (Mt (tzA a)) (fun i => (ruN K g) (0 + i)) (m12 K)).length).1)) 1280 (and64 al 3))) (w64 (and64 A 4095 + (lgS pSB (at_ (glyphs (Mt (tzA a)) (fun i => (ruN K g) (0 + i)) (m12 K))) (glyphs (Mt (tzA a)) (fun i => (ruN K g) (0 + i)) (m12 K)).length).1)) (plY (Mt (tzA a)) (ruN K g) (m12 K) (w64 (and64 A 4095 + (lgS pSB (at_ (glyphs (Mt (tzA a)) (fun i => (ruN K g) (0 + i)) (m12 K))) (glyphs (Mt (tzA a)) (fun i => (ruN K g) (0 + i)) (m12 K)).length).1)) 1280) n z))) 60 Try.f35 [aA a, .c (.sl 0 0 K), I64 A, I64 al] [rowJ false K g]).go [true, true, true, true, true, true, true, true, true, true, true, true, true, false, false, true, false] =
  some
    ([true, yes ((fun k => Value.int IntKind.i64 (a k)) = fun k => Value.int IntKind.i64 (a k)),
        yes (0 + K ≤ K ∧ (fun j => v1 (g j)) = fun j => v1 (vd (v1 (g j)))), true,
        yes
          (0 + m12 K ≤ m12 K ∧
            m12 K < 2 ^ 40 ∧
              lenR (fun i => decN (encN (runsL (fun j => vd (v1 (g (0 + j)))) (m12 K) (0 + i))))
                    (m12 K) <
                  2 ^ 39 ∧
                ((fun k => Value.int IntKind.i64 (tz (fun k => a k) k)) = fun k =>
                    Value.int IntKind.i64 (tz (fun k => a k) k)) ∧
                  (fun j => encN (runsL (fun j => vd (v1 (g (0 + j)))) (m12 K) j)) = fun j =>
                    encN (decN (encN (runsL (fun j => vd (v1 (g (0 + j)))) (m12 K) j)))),
        yes
          ((glyphs (Mt fun k => tz (fun k => a k) k)
                  (fun i => decN (encN (runsL (fun j => vd (v1 (g (0 + j)))) (m12 K) (0 + i))))
                  (m12 K)).length ≤
              (glyphs (Mt fun k => tz (fun k => a k) k)
                  (fun i => decN (encN (runsL (fun j => vd (v1 (g (0 + j)))) (m12 K) (0 + i))))
                  (m12 K)).length ∧
            (glyphs (Mt fun k => tz (fun k => a k) k)
                    (fun i => decN (encN (runsL (fun j => vd (v1 (g (0 + j)))) (m12 K) (0 + i))))
                    (m12 K)).length <
                2 ^ 30 ∧
              ((fun j =>
                    encG
                      (at_
                        (glyphs (Mt fun k => tz (fun k => a k) k)
                          (fun i => decN (encN (runsL (fun j => vd (v1 (g (0 + j)))) (m12 K) (0 + i))))
                          (m12 K))
                        j)) =
                  fun j =>
                  encG
                    (decG
                      (encG
                        (at_
                          (glyphs (Mt fun k => tz (fun k => a k) k)
                            (fun i =>
                              decN (encN (runsL (fun j => vd (v1 (g (0 + j)))) (m12 K) (0 + i))))
                            (m12 K))
                          j)))) ∧
                WOk fun j =>
                  decG
                    (encG
                      (at_
                        (glyphs (Mt fun k => tz (fun k => a k) k)
                          (fun i => decN (encN (runsL (fun j => vd (v1 (g (0 + j)))) (m12 K) (0 + i))))
                          (m12 K))
                        j))),
        true,
        yes
          (m12 K ≤ m12 K ∧
            m12 K < 2 ^ 40 ∧
              lenR (fun i => decN (encN (runsL (fun j => vd (v1 (g (0 + j)))) (m12 K) i))) (m12 K) <
                  2 ^ 30 ∧
                ((-1125899906842624 : Int) ≤
                      w64
                        (and64 A (4095 : Int) +
                          (lgS pSB
                              (fun j =>
                                decG
                                  (encG
                                    (at_
                                      (glyphs (Mt fun k => tz (fun k => a k) k)
                                        (fun i =>
                                          decN
                                            (encN
                                              (runsL (fun j => vd (v1 (g (0 + j)))) (m12 K) (0 + i))))
                                        (m12 K))
                                      j)))
                              (glyphs (Mt fun k => tz (fun k => a k) k)
                                  (fun i =>
                                    decN (encN (runsL (fun j => vd (v1 (g (0 + j)))) (m12 K) (0 + i))))
                                  (m12 K)).length).fst) ∧
                    w64
                        (and64 A (4095 : Int) +
                          (lgS pSB
                              (fun j =>
                                decG
                                  (encG
                                    (at_
                                      (glyphs (Mt fun k => tz (fun k => a k) k)
                                        (fun i =>
                                          decN
                                            (encN
                                              (runsL (fun j => vd (v1 (g (0 + j)))) (m12 K) (0 + i))))
                                        (m12 K))
                                      j)))
                              (glyphs (Mt fun k => tz (fun k => a k) k)
                                  (fun i =>
                                    decN (encN (runsL (fun j => vd (v1 (g (0 + j)))) (m12 K) (0 + i))))
                                  (m12 K)).length).fst) ≤
                      (1125899906842624 : Int)) ∧
                  ((fun k => Value.int IntKind.i64 (tz (fun k => a k) k)) = fun k =>
                      Value.int IntKind.i64 (tz (fun k => a k) k)) ∧
                    (fun j => encN (runsL (fun j => vd (v1 (g (0 + j)))) (m12 K) j)) = fun j =>
                      encN (decN (encN (runsL (fun j => vd (v1 (g (0 + j)))) (m12 K) j)))),
        yes (wasS (bodyOf Try.f35 0) (rsS K g (m12 K) (ruN K g) (glyphs (Mt (tzA a)) (fun i => (ruN K g) (0 + i)) (m12 K)).length (at_ (glyphs (Mt (tzA a)) (fun i => (ruN K g) (0 + i)) (m12 K))) (plA (Mt (tzA a)) (ruN K g) (m12 K) (w64 (and64 A 4095 + (lgS pSB (at_ (glyphs (Mt (tzA a)) (fun i => (ruN K g) (0 + i)) (m12 K))) (glyphs (Mt (tzA a)) (fun i => (ruN K g) (0 + i)) (m12 K)).length).1)) 1280 (and64 al 3)).length (pcAt (plA (Mt (tzA a)) (ruN K g) (m12 K) (w64 (and64 A 4095 + (lgS pSB (at_ (glyphs (Mt (tzA a)) (fun i => (ruN K g) (0 + i)) (m12 K))) (glyphs (Mt (tzA a)) (fun i => (ruN K g) (0 + i)) (m12 K)).length).1)) 1280 (and64 al 3))) (w64 (and64 A 4095 + (lgS pSB (at_ (glyphs (Mt (tzA a)) (fun i => (ruN K g) (0 + i)) (m12 K))) (glyphs (Mt (tzA a)) (fun i => (ruN K g) (0 + i)) (m12 K)).length).1)) (plY (Mt (tzA a)) (ruN K g) (m12 K) (w64 (and64 A 4095 + (lgS pSB (at_ (glyphs (Mt (tzA a)) (fun i => (ruN K g) (0 + i)) (m12 K))) (glyphs (Mt (tzA a)) (fun i => (ruN K g) (0 + i)) (m12 K)).length).1)) 1280) 0 0)),
        decide
          (plY (Mt (tzA a)) (ruN K g) (m12 K)
              (w64
                (and64 A (4095 : Int) +
                  (lgS pSB (at_ (glyphs (Mt (tzA a)) (fun i => ruN K g (0 + i)) (m12 K)))
                      (glyphs (Mt (tzA a)) (fun i => ruN K g (0 + i)) (m12 K)).length).fst))
              (1280 : Int) ≥
            w64 (n * (1280 : Int))),
        true, true, true,
        !decide ((((glyphs (Mt (tzA a)) (fun i => ruN K g (0 + i)) (m12 K)).length : Nat) : Int) > (0 : Int)), true, true,
        true, true,
        plY (Mt (tzA a)) (ruN K g) (m12 K)
            (w64
              (and64 A (4095 : Int) +
                (lgS pSB (at_ (glyphs (Mt (tzA a)) (fun i => ruN K g (0 + i)) (m12 K)))
                    (glyphs (Mt (tzA a)) (fun i => ruN K g (0 + i)) (m12 K)).length).fst))
            (1280 : Int) ==
          (0 : Int),
        true],
      Bo true,
      [some { t := 2, own := false, c := Cont.row 1 K fun j => [Value.int IntKind.i64 (g j)] }]) := by kernel_rfl
end Go.Proofs.Ytcpahifgdppkbaa.QAI
end
