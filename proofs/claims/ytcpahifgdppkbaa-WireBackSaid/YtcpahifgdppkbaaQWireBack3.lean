/- What the tests of a region's order say. -/
import Derived.Test.YtcpahifgdppkbaaQWireBack2
set_option linter.unusedVariables false
set_option linter.unusedSimpArgs false
set_option maxRecDepth 100000
namespace Go.Proofs.Ytcpahifgdppkbaa.QAI
section
open Go Go.RowKit

theorem pkAt_bit (w D y b : Nat) : (pkAt w D y).testBit b = (decide (b < w) && D.testBit (w * y + b)) := by
  simp [pkAt, Nat.testBit_mod_two_pow, Nat.testBit_shiftRight]
theorem pk_insert {w D y0 v : Nat} {f : Nat → Nat} (h : ∀ y, pkAt w D y = f y) (h0 : f y0 = 0) (hv : v < 2 ^ w) : ∀ y, pkAt w (D ||| (v <<< (w * y0))) y = if y = y0 then v else f y := by
  intro y
  apply Nat.eq_of_testBit_eq
  intro b
  rw [pkAt_bit, Nat.testBit_or, Nat.testBit_shiftLeft]
  have hy : (decide (b < w) && D.testBit (w * y + b)) = (f y).testBit b := by rw [← pkAt_bit, h]
  by_cases hb : b < w
  · by_cases e : y = y0
    · subst e
      rw [h0, Nat.zero_testBit] at hy
      simp only [hb, decide_true, Bool.true_and] at hy
      simp [hb, hy]
    · simp only [e, if_false, ← hy, hb, decide_true, Bool.true_and]
      have : (decide (w * y0 ≤ w * y + b) && v.testBit (w * y + b - w * y0)) = false := by
        rcases Nat.lt_or_gt_of_ne e with h1 | h1
        · have h2 : w * (y + 1) ≤ w * y0 := Nat.mul_le_mul_left _ h1
          rw [Nat.mul_add, Nat.mul_one] at h2
          have : ¬ w * y0 ≤ w * y + b := by omega
          simp [this]
        · have h2 : w * (y0 + 1) ≤ w * y := Nat.mul_le_mul_left _ h1
          rw [Nat.mul_add, Nat.mul_one] at h2
          have h3 : v < 2 ^ (w * y + b - w * y0) := Nat.lt_of_lt_of_le hv (Nat.pow_le_pow_right (by decide) (by omega))
          rw [Nat.testBit_lt_two_pow h3]
          simp
      rw [this, Bool.or_false]
  · simp only [hb, decide_false, Bool.false_and] at hy ⊢
    by_cases e : y = y0
    · simp only [e, if_true]
      exact (Nat.testBit_lt_two_pow (Nat.lt_of_lt_of_le hv (Nat.pow_le_pow_right (by decide) (by omega)))).symm
    · simp only [e, if_false]
      exact hy

theorem edgeFold_bit (f : Nat → Nat) (i : Nat) : ∀ (l : List Edge) (s : Nat), (l.foldl (fun s e => if Region.binds .any e then s ||| (1 <<< e.on) ||| f e.on else s) s).testBit i = true ↔
    s.testBit i = true ∨ ∃ e ∈ l, Region.binds .any e = true ∧ (e.on = i ∨ (f e.on).testBit i = true)
  | [], s => by simp
  | e :: l, s => by
    rw [List.foldl_cons, edgeFold_bit f i l]
    by_cases hb : Region.binds .any e = true
    · simp only [hb, if_true, Nat.testBit_or, Bool.or_eq_true, Nat.one_shiftLeft, Nat.testBit_two_pow, decide_eq_true_eq]
      constructor
      · rintro (((h | h) | h) | ⟨e', h1, h2⟩)
        · exact .inl h
        · exact .inr ⟨e, by simp, hb, .inl h⟩
        · exact .inr ⟨e, by simp, hb, .inr h⟩
        · exact .inr ⟨e', by simp [h1], h2⟩
      · rintro (h | ⟨e', h1, h2, h3⟩)
        · exact .inl (.inl (.inl h))
        · rcases List.mem_cons.1 h1 with rfl | h1
          · rcases h3 with h3 | h3
            · exact .inl (.inl (.inr h3))
            · exact .inl (.inr h3)
          · exact .inr ⟨e', h1, h2, h3⟩
    · simp only [hb, Bool.false_eq_true, if_false]
      constructor
      · rintro (h | ⟨e', h1, h2⟩)
        · exact .inl h
        · exact .inr ⟨e', by simp [h1], h2⟩
      · rintro (h | ⟨e', h1, h2, h3⟩)
        · exact .inl h
        · rcases List.mem_cons.1 h1 with rfl | h1
          · exact absurd h2 hb
          · exact .inr ⟨e', h1, h2, h3⟩
theorem edgeMask_bit (f : Nat → Nat) (o : Oper) (i : Nat) : (edgeMask f o).testBit i = true ↔ ∃ e ∈ o.after, Region.binds .any e = true ∧ (e.on = i ∨ (f e.on).testBit i = true) := by
  unfold edgeMask
  rw [edgeFold_bit]
  simp
theorem edgeMask_congr {f g : Nat → Nat} {o : Oper} (h : ∀ e ∈ o.after, Region.binds .any e = true → f e.on = g e.on) : edgeMask f o = edgeMask g o := by
  apply Nat.eq_of_testBit_eq
  intro i
  rw [Bool.eq_iff_iff, edgeMask_bit, edgeMask_bit]
  constructor
  · rintro ⟨e, h1, h2, h3⟩; exact ⟨e, h1, h2, by rwa [← h e h1 h2]⟩
  · rintro ⟨e, h1, h2, h3⟩; exact ⟨e, h1, h2, by rwa [h e h1 h2]⟩

theorem predsGo_get {n : Nat} : ∀ (l : List Oper) (Q : List Nat) (acc : Nat), (∀ y, pkAt n acc y = Q.getD y 0) → (∀ m ∈ predsGo n l Q.length acc, m < 2 ^ n) →
    (predsGo n l Q.length acc).length = l.length ∧ ∀ (k : Nat) o m, l[k]? = some o → (predsGo n l Q.length acc)[k]? = some m → m = edgeMask (fun y => (Q ++ (predsGo n l Q.length acc).take k).getD y 0) o
  | [], Q, acc, _, _ => ⟨rfl, fun k o m h => by simp at h⟩
  | o :: l, Q, acc, h, hb => by
    simp only [predsGo, natL_eq] at hb ⊢
    generalize hm : edgeMask (pkAt n acc) o = m at hb ⊢
    have hmb : m < 2 ^ n := hb m (by simp)
    have hQ : (Q ++ [m]).length = Q.length + 1 := by simp
    have hins := pk_insert h (y0 := Q.length) (v := m) (by simp) hmb
    have hg : ∀ y, pkAt n (acc ||| m <<< (n * Q.length)) y = (Q ++ [m]).getD y 0 := by
      intro y
      rw [hins y]
      by_cases e : y = Q.length
      · subst e; simp
      · simp only [e, if_false, List.getD_eq_getElem?_getD]
        rcases Nat.lt_or_ge y Q.length with h1 | h1
        · rw [List.getElem?_append_left h1]
        · rw [List.getElem?_eq_none h1, List.getElem?_eq_none (by simp; omega)]
    have ih := predsGo_get l (Q ++ [m]) _ hg (by rw [hQ]; exact fun x hx => hb x (by simp [hx]))
    rw [hQ] at ih
    obtain ⟨ih1, ih2⟩ := ih
    refine ⟨by simp [ih1], fun k o' m' ho' hm' => ?_⟩
    cases k with
    | zero =>
      simp only [List.getElem?_cons_zero, Option.some.injEq] at ho' hm'
      subst ho'
      subst hm'
      rw [← hm]
      exact edgeMask_congr fun e _ _ => by rw [h]; simp
    | succ k =>
      have := ih2 k o' m' (by simpa using ho') (by simpa using hm')
      rw [this]
      exact edgeMask_congr fun e _ _ => by simp

theorem backOk_get : ∀ (P : List Nat) (k : Nat), backOk P k = true → ∀ (j m : Nat), P[j]? = some m → m < 2 ^ (k + j)
  | [], _, _, j, m, h => by simp at h
  | x :: P, k, h, j, m, hj => by
    simp only [backOk, Bool.and_eq_true] at h
    cases j with
    | zero =>
      simp only [List.getElem?_cons_zero, Option.some.injEq] at hj
      subst hj
      simpa [Nat.blt_eq] using h.1
    | succ j =>
      have := backOk_get P (k + 1) h.2 j m (by simpa using hj)
      rwa [show k + (j + 1) = k + 1 + j by omega]

theorem preds_get {ops : Array Oper} (h : backOk (predsOf ops.toList) 0 = true) : (predsOf ops.toList).length = ops.size ∧ ∀ (j : Nat) o, ops[j]? = some o →
    (predsOf ops.toList).getD j 0 = edgeMask (fun y => (predsOf ops.toList).getD y 0) o ∧ (predsOf ops.toList).getD j 0 < 2 ^ j := by
  have hP : predsOf ops.toList = predsGo ops.size ops.toList 0 0 := by unfold predsOf; rw [natL_eq]; simp
  have hlen0 : (predsGo ops.size ops.toList 0 0).length ≤ ops.size := by
    have : ∀ (l : List Oper) (j acc : Nat), (predsGo ops.size l j acc).length = l.length := by
      intro l
      induction l with
      | nil => intro j acc; rfl
      | cons o l ih => intro j acc; simp only [predsGo, natL_eq, List.length_cons, ih]
    rw [this]
    simp
  have hb := backOk_get _ _ h
  have hall : ∀ m ∈ predsGo ops.size ops.toList 0 0, m < 2 ^ ops.size := by
    intro m hm
    obtain ⟨j, hj⟩ := List.getElem?_of_mem hm
    have h1 := hb j m (by rw [hP]; exact hj)
    have h2 := (List.getElem?_eq_some_iff.1 hj).1
    exact Nat.lt_of_lt_of_le h1 (Nat.pow_le_pow_right (by decide) (by omega))
  obtain ⟨h1, h2⟩ := predsGo_get (n := ops.size) ops.toList [] 0 (fun y => by simp [pkAt]) hall
  simp only [List.length_nil, List.nil_append] at h1 h2
  rw [hP]
  refine ⟨by rw [h1]; simp, fun j o ho => ?_⟩
  have hj : j < (predsGo ops.size ops.toList 0 0).length := by rw [h1]; simpa using (Array.getElem?_eq_some_iff.1 ho).1
  have hg := List.getElem?_eq_getElem hj
  have e1 : (predsGo ops.size ops.toList 0 0).getD j 0 = (predsGo ops.size ops.toList 0 0)[j] := by rw [List.getD_eq_getElem?_getD, hg]; rfl
  have hlt : (predsGo ops.size ops.toList 0 0)[j] < 2 ^ j := by
    have := hb j _ (by rw [hP]; exact hg)
    rwa [Nat.zero_add] at this
  refine ⟨?_, by rw [e1]; exact hlt⟩
  rw [e1]
  have h3 := h2 j o _ (by simpa using ho) hg
  rw [h3] at hlt ⊢
  refine edgeMask_congr fun e he hbe => ?_
  have hbit := (edgeMask_bit (fun y => ((predsGo ops.size ops.toList 0 0).take j).getD y 0) o e.on).2 ⟨e, he, hbe, .inl rfl⟩
  have hon : e.on < j := by
    rcases Nat.lt_or_ge e.on j with h4 | h4
    · exact h4
    · rw [Nat.testBit_lt_two_pow (Nat.lt_of_lt_of_le hlt (Nat.pow_le_pow_right (by decide) h4))] at hbit
      cases hbit
  simp only [List.getD_eq_getElem?_getD, List.getElem?_take, hon, if_true]

theorem walkPi_ok {P : List Nat} {lm qm n : Nat} : ∀ (l : List Nat) (acc : Nat), walkPi P lm qm n l acc = true →
    (∀ q ∈ l, q < n ∧ acc.testBit q = false) ∧ l.Nodup ∧ (∀ i, i < n → acc.testBit i = true ∨ i ∈ l) ∧
    ∀ (p q : Nat), l[p]? = some q → (∀ i, (P.getD q 0).testBit i = true → acc.testBit i = true ∨ ∃ p', p' < p ∧ l[p']? = some i) ∧
      (qm.testBit q = true → ∀ j, lm.testBit j = true → (acc.testBit j = true ∨ ∃ p', p' < p ∧ l[p']? = some j) → (P.getD q 0).testBit j = true)
  | [], acc, h => by
    have he := Nat.eq_of_beq_eq_true h
    refine ⟨by simp, .nil, fun i hi => .inl ?_, fun p q hq => by simp at hq⟩
    rw [he, Nat.testBit_two_pow_sub_one]
    simpa using hi
  | q :: l, acc, h => by
    simp only [walkPi, natL_eq, Bool.and_eq_true] at h
    obtain ⟨⟨⟨⟨h1, h2⟩, h3⟩, h4⟩, h5⟩ := h
    obtain ⟨a1, a2, a3, a4⟩ := walkPi_ok l _ h5
    have hbit : ∀ i, (acc ||| 1 <<< q).testBit i = true ↔ acc.testBit i = true ∨ q = i := fun i => by
      rw [Nat.testBit_or, Nat.one_shiftLeft, Nat.testBit_two_pow]
      simp
    have hq2 : acc.testBit q = false := by simpa using h2
    have hm : ∀ i, (P.getD q 0).testBit i = true → acc.testBit i = true := fun i hi => by
      have e := Nat.eq_of_beq_eq_true h3
      rw [← e, Nat.testBit_and, Bool.and_eq_true] at hi
      exact hi.2
    refine ⟨?_, ?_, ?_, ?_⟩
    · intro x hx
      rcases List.mem_cons.1 hx with rfl | hx
      · exact ⟨by simpa [Nat.blt_eq] using h1, hq2⟩
      · obtain ⟨b1, b2⟩ := a1 x hx
        refine ⟨b1, ?_⟩
        cases e : acc.testBit x with
        | false => rfl
        | true => rw [(hbit x).2 (.inl e)] at b2; cases b2
    · refine List.nodup_cons.2 ⟨fun hx => ?_, a2⟩
      have := (a1 q hx).2
      rw [(hbit q).2 (.inr rfl)] at this
      cases this
    · intro i hi
      rcases a3 i hi with h6 | h6
      · rcases (hbit i).1 h6 with h7 | h7
        · exact .inl h7
        · exact .inr (by simp [h7])
      · exact .inr (by simp [h6])
    · intro p x hx
      cases p with
      | zero =>
        simp only [List.getElem?_cons_zero, Option.some.injEq] at hx
        subst hx
        refine ⟨fun i hi => .inl (hm i hi), fun hqm j hj hor => ?_⟩
        rcases hor with h6 | ⟨p', h6, _⟩
        · rw [hqm] at h4
          simp only [Bool.not_true, Bool.false_or] at h4
          have e := Nat.eq_of_beq_eq_true h4
          rw [← e, Nat.testBit_or, Nat.testBit_and, h6, hj]
          simp
        · omega
      | succ p =>
        obtain ⟨b1, b2⟩ := a4 p x (by simpa using hx)
        refine ⟨fun i hi => ?_, fun hqm j hj hor => b2 hqm j hj ?_⟩
        · rcases b1 i hi with h6 | ⟨p', h6, h7⟩
          · rcases (hbit i).1 h6 with h8 | h8
            · exact .inl h8
            · exact .inr ⟨0, by omega, by simp [h8]⟩
          · exact .inr ⟨p' + 1, by omega, by simpa using h7⟩
        · rcases hor with h6 | ⟨p', h6, h7⟩
          · exact .inl ((hbit j).2 (.inl h6))
          · cases p' with
            | zero =>
              simp only [List.getElem?_cons_zero, Option.some.injEq] at h7
              exact .inl ((hbit j).2 (.inr h7))
            | succ p' => exact .inr ⟨p', by omega, by simpa using h7⟩

theorem maskOf_bit (p : Oper → Bool) : ∀ (l : List Oper) (i k : Nat) o, l[k]? = some o → p o = true → (maskOf p l i).testBit (i + k) = true
  | [], _, _, _, h, _ => by simp at h
  | x :: l, i, k, o, h, hp => by
    simp only [maskOf, Nat.testBit_or, Bool.or_eq_true]
    cases k with
    | zero =>
      simp only [List.getElem?_cons_zero, Option.some.injEq] at h
      subst h
      left
      simp [hp, Nat.one_shiftLeft, Nat.testBit_two_pow]
    | succ k =>
      right
      have := maskOf_bit p l (i + 1) k o (by simpa using h) hp
      rwa [show i + (k + 1) = i + 1 + k by omega]

theorem dstsOk_ok : ∀ (l : List Oper) (m : Nat), dstsOk l m = true → (∀ (k : Nat) o x, l[k]? = some o → o.dst = some x → m.testBit x = false) ∧
    ∀ (i j : Nat) o o' x, l[i]? = some o → l[j]? = some o' → o.dst = some x → o'.dst = some x → i = j
  | [], m, _ => ⟨fun k o x h => by simp at h, fun i j o o' x h => by simp at h⟩
  | o :: l, m, h => by
    unfold dstsOk at h
    split at h
    · rename_i x hx
      simp only [natL_eq, Bool.and_eq_true] at h
      obtain ⟨a1, a2⟩ := dstsOk_ok l _ h.2
      have hbit : ∀ y, (m ||| 1 <<< x).testBit y = false → m.testBit y = false ∧ x ≠ y := fun y hy => by
        rw [Nat.testBit_or, Nat.one_shiftLeft, Nat.testBit_two_pow, Bool.or_eq_false_iff] at hy
        exact ⟨hy.1, by simpa using hy.2⟩
      refine ⟨fun k o' y ho hy => ?_, fun i j o1 o2 y h1 h2 hy1 hy2 => ?_⟩
      · cases k with
        | zero =>
          simp only [List.getElem?_cons_zero, Option.some.injEq] at ho
          subst ho
          rw [hx] at hy
          cases hy
          simpa using h.1
        | succ k => exact (hbit y (a1 k o' y (by simpa using ho) hy)).1
      · cases i with
        | zero =>
          cases j with
          | zero => rfl
          | succ j =>
            simp only [List.getElem?_cons_zero, Option.some.injEq] at h1
            subst h1
            rw [hx] at hy1
            cases hy1
            exact absurd rfl (hbit x (a1 j o2 x (by simpa using h2) hy2)).2
        | succ i =>
          cases j with
          | zero =>
            simp only [List.getElem?_cons_zero, Option.some.injEq] at h2
            subst h2
            rw [hx] at hy2
            cases hy2
            exact absurd rfl (hbit x (a1 i o1 x (by simpa using h1) hy1)).2
          | succ j => rw [a2 i j o1 o2 y (by simpa using h1) (by simpa using h2) hy1 hy2]
    · rename_i hx
      obtain ⟨a1, a2⟩ := dstsOk_ok l m h
      refine ⟨fun k o' y ho hy => ?_, fun i j o1 o2 y h1 h2 hy1 hy2 => ?_⟩
      · cases k with
        | zero =>
          simp only [List.getElem?_cons_zero, Option.some.injEq] at ho
          subst ho
          rw [hx] at hy
          cases hy
        | succ k => exact a1 k o' y (by simpa using ho) hy
      · cases i with
        | zero =>
          simp only [List.getElem?_cons_zero, Option.some.injEq] at h1
          subst h1
          rw [hx] at hy1
          cases hy1
        | succ i =>
          cases j with
          | zero =>
            simp only [List.getElem?_cons_zero, Option.some.injEq] at h2
            subst h2
            rw [hx] at hy2
            cases hy2
          | succ j => rw [a2 i j o1 o2 y (by simpa using h1) (by simpa using h2) hy1 hy2]

theorem defsOf_get : ∀ (l : List Oper) (i D : Nat) (f : Nat → Nat), (∀ y, pkAt 12 D y = f y) → (∀ (k : Nat) o x, l[k]? = some o → o.dst = some x → f x = 0) →
    (∀ (i j : Nat) o o' x, l[i]? = some o → l[j]? = some o' → o.dst = some x → o'.dst = some x → i = j) → i + l.length < 4095 →
    (∀ (k : Nat) o x, l[k]? = some o → o.dst = some x → pkAt 12 (defsOf l i D) x = i + k + 1) ∧ ∀ y, (∀ (k : Nat) o, l[k]? = some o → o.dst ≠ some y) → pkAt 12 (defsOf l i D) y = f y
  | [], i, D, f, h, _, _, _ => ⟨fun k o x h => by simp at h, fun y _ => h y⟩
  | o :: l, i, D, f, h, h0, hu, hn => by
    simp only [List.length_cons] at hn
    unfold defsOf
    split
    · rename_i x hx
      rw [natL_eq]
      have hins := pk_insert h (y0 := x) (v := i + 1) (h0 0 o x (by simp) hx) (by show i + 1 < 4096; omega)
      have hnx : ∀ (k : Nat) o', l[k]? = some o' → o'.dst ≠ some x := fun k o' ho' hd => by
        have := hu 0 (k + 1) o o' x (by simp) (by simpa using ho') hx hd
        omega
      obtain ⟨a1, a2⟩ := defsOf_get l (i + 1) _ (fun y => if y = x then i + 1 else f y) hins (fun k o' y ho' hy => by
        have hne : y ≠ x := fun e => hnx k o' ho' (e ▸ hy)
        simp only [hne, if_false]
        exact h0 (k + 1) o' y (by simpa using ho') hy) (fun a b o1 o2 y h1 h2 hy1 hy2 => by
        have := hu (a + 1) (b + 1) o1 o2 y (by simpa using h1) (by simpa using h2) hy1 hy2
        omega) (by omega)
      refine ⟨fun k o' y ho' hy => ?_, fun y hy => ?_⟩
      · cases k with
        | zero =>
          simp only [List.getElem?_cons_zero, Option.some.injEq] at ho'
          subst ho'
          rw [hx] at hy
          cases hy
          rw [a2 x hnx]
          simp
        | succ k =>
          rw [a1 k o' y (by simpa using ho') hy]
          omega
      · have hne : y ≠ x := fun e => hy 0 o (by simp) (e ▸ hx)
        rw [a2 y (fun k o' ho' => hy (k + 1) o' (by simpa using ho'))]
        simp [hne]
    · rename_i hx
      obtain ⟨a1, a2⟩ := defsOf_get l (i + 1) D f h (fun k o' y ho' hy => h0 (k + 1) o' y (by simpa using ho') hy) (fun a b o1 o2 y h1 h2 hy1 hy2 => by
        have := hu (a + 1) (b + 1) o1 o2 y (by simpa using h1) (by simpa using h2) hy1 hy2
        omega) (by omega)
      refine ⟨fun k o' y ho' hy => ?_, fun y hy => a2 y fun k o' ho' => hy (k + 1) o' (by simpa using ho')⟩
      cases k with
      | zero =>
        simp only [List.getElem?_cons_zero, Option.some.injEq] at ho'
        subst ho'
        rw [hx] at hy
        cases hy
      | succ k =>
        rw [a1 k o' y (by simpa using ho') hy]
        omega

theorem looksOk_get {P : List Nat} {ops : Array Oper} {D : Nat} : ∀ (l : List Oper) (ms : List Nat) (i : Nat), looksOk P ops D l ms i = true → ∀ (k : Nat) o, l[k]? = some o →
    ∀ y ∈ looksAt ops o, ∀ j, pkAt 12 D y = j + 1 → i + k = j ∨ (ms.getD k 0).testBit j = true ∨ before P (i + k) j = true
  | [], _, _, _, k, o, h => by simp at h
  | o :: l, [], _, h, _, _, _ => by simp [looksOk] at h
  | o :: l, m :: ms, i, h, k, o', ho => by
    simp only [looksOk, Bool.and_eq_true] at h
    cases k with
    | zero =>
      simp only [List.getElem?_cons_zero, Option.some.injEq] at ho
      subst ho
      intro y hy j hj
      have := List.all_eq_true.1 h.1 y hy
      simp only [hj] at this
      simp only [Bool.or_eq_true] at this
      rcases this with (h1 | h1) | h1
      · exact .inl (Nat.eq_of_beq_eq_true h1)
      · exact .inr (.inl (by simpa using h1))
      · exact .inr (.inr h1)
    | succ k =>
      intro y hy j hj
      have := looksOk_get l ms (i + 1) h.2 k o' (by simpa using ho) y hy j hj
      rw [show i + 1 + k = i + (k + 1) by omega] at this
      simpa using this

theorem loudsOf_mem : ∀ (l : List Oper) (i k : Nat) o, l[k]? = some o → isLoud o = true → i + k ∈ loudsOf l i
  | [], _, _, _, h, _ => by simp at h
  | x :: l, i, k, o, h, hl => by
    unfold loudsOf
    cases k with
    | zero =>
      simp only [List.getElem?_cons_zero, Option.some.injEq] at h
      subst h
      simp [hl]
    | succ k =>
      have := loudsOf_mem l (i + 1) k o (by simpa using h) hl
      rw [show i + 1 + k = i + (k + 1) by omega] at this
      cases isLoud x <;> simp [this]
theorem pairsOk_ok {P : List Nat} : ∀ {L : List Nat}, pairsOk P L = true → ∀ a ∈ L, ∀ b ∈ L, a ≠ b → before P a b = true ∨ before P b a = true
  | [], _, a, ha, _, _, _ => by simp at ha
  | x :: L, h, a, ha, b, hb, hne => by
    simp only [pairsOk, Bool.and_eq_true] at h
    have h1 := fun j hj => List.all_eq_true.1 h.1 j hj
    simp only [Bool.or_eq_true] at h1
    rcases List.mem_cons.1 ha with e1 | m1 <;> rcases List.mem_cons.1 hb with e2 | m2
    · exact absurd (e1.trans e2.symm) hne
    · rw [e1]; exact h1 b m2
    · rw [e2]; exact (h1 a m1).symm
    · exact pairsOk_ok h.2 a m1 b m2 hne
end
section
open Go Go.RowKit

/-- An operation that turns memory, or looks at it and makes some. -/
def Loud (o : Oper) : Prop := isLight o.op = false ∧ isQuiet o.op = false

structure OrdOk (ops : Array Oper) (π : List Nat) : Prop where
  len : π.length = ops.size
  mem : ∀ i, i < ops.size → i ∈ π
  inj : ∀ p, p < ops.size → π.idxOf (π.getD p 0) = p
  lt : ∀ p, p < ops.size → π.getD p 0 < ops.size
  dir : ∀ (j : Nat) o, ops[j]? = some o → ∀ e ∈ o.after, Region.binds .any e = true → before (predsOf ops.toList) e.on j = true
  step : ∀ j, j < ops.size → ∀ i, before (predsOf ops.toList) i j = true → ∃ o, ops[j]? = some o ∧ ∃ e ∈ o.after, Region.binds .any e = true ∧ (e.on = i ∨ before (predsOf ops.toList) i e.on = true)
  pos : ∀ j, j < ops.size → ∀ i, before (predsOf ops.toList) i j = true → i < ops.size ∧ π.idxOf i < π.idxOf j
  dst : ∀ (i j : Nat) o o' x, ops[i]? = some o → ops[j]? = some o' → o.dst = some x → o'.dst = some x → i = j
  look : ∀ (i j : Nat) o o' y, i ≠ j → ops[i]? = some o → ops[j]? = some o' → o'.dst = some y → y ∈ looksAt ops o → before (predsOf ops.toList) j i = true ∨ before (predsOf ops.toList) i j = true
  heavy : ∀ (i j : Nat) o o', i ≠ j → ops[i]? = some o → ops[j]? = some o' → Loud o → Loud o' → before (predsOf ops.toList) i j = true ∨ before (predsOf ops.toList) j i = true
  quiet : ∀ (i j : Nat) o o', ops[i]? = some o → ops[j]? = some o' → isQuiet o.op = true → Loud o' → π.idxOf j < π.idxOf i → before (predsOf ops.toList) j i = true

theorem getElem?_lt {ops : Array Oper} {i : Nat} {o : Oper} (h : ops[i]? = some o) : i < ops.size := (Array.getElem?_eq_some_iff.1 h).1

theorem orderOk_ok {ops : Array Oper} {π : List Nat} (h : orderOk ops π = true) : OrdOk ops π := by
  simp only [orderOk, orderOkP, natL_eq, Bool.and_eq_true] at h
  obtain ⟨⟨⟨⟨⟨⟨h1, h2⟩, h3⟩, h4⟩, h5⟩, h6⟩, h7⟩ := h
  have hlen : π.length = ops.size := Nat.eq_of_beq_eq_true h1
  have hsz : ops.size < 4095 := by simpa [Nat.blt_eq] using h2
  obtain ⟨hPl, hP⟩ := preds_get h3
  obtain ⟨w1, w2, w3, w4⟩ := walkPi_ok _ _ h4
  obtain ⟨_, hd⟩ := dstsOk_ok _ _ h5
  have hmem : ∀ i, i < ops.size → i ∈ π := fun i hi => by
    rcases w3 i hi with h | h
    · rw [Nat.zero_testBit] at h; cases h
    · exact h
  have hidx : ∀ (p q : Nat), π[p]? = some q → π.idxOf q = p := fun p q hq => by
    have hm := List.mem_of_getElem? hq
    have hlt := List.idxOf_lt_length_iff.2 hm
    exact nodup_inj w2 (by rw [List.getElem?_eq_getElem hlt, List.getElem_idxOf]) hq
  have hget : ∀ p, p < ops.size → π[p]? = some (π.getD p 0) := fun p hp => by
    rw [List.getD_eq_getElem?_getD, List.getElem?_eq_getElem (by rw [hlen]; exact hp)]
    rfl
  have hat : ∀ i, i < ops.size → π[π.idxOf i]? = some i := fun i hi => by
    have hlt := List.idxOf_lt_length_iff.2 (hmem i hi)
    rw [List.getElem?_eq_getElem hlt, List.getElem_idxOf]
  have hlist : ∀ (i : Nat) o, ops[i]? = some o → ops.toList[i]? = some o := fun i o h => by simpa using h
  have hbits : ∀ (j : Nat) o, ops[j]? = some o → ∀ i, before (predsOf ops.toList) i j = true ↔ ∃ e ∈ o.after, Region.binds .any e = true ∧ (e.on = i ∨ before (predsOf ops.toList) i e.on = true) := fun j o ho i => by
    unfold before
    rw [(hP j o ho).1, edgeMask_bit]
  have hdefs := defsOf_get ops.toList 0 0 (fun _ => 0) (fun y => by simp [pkAt]) (fun _ _ _ _ _ => rfl) hd (by simpa using hsz)
  refine ⟨hlen, hmem, fun p hp => hidx p _ (hget p hp), fun p hp => (w1 _ (List.mem_of_getElem? (hget p hp))).1, ?_, ?_, ?_, ?_, ?_, ?_, ?_⟩
  · intro j o hj e he hb
    exact (hbits j o hj e.on).2 ⟨e, he, hb, .inl rfl⟩
  · intro j hj i hi
    have ho := Array.getElem?_eq_getElem hj
    exact ⟨_, ho, (hbits j _ ho i).1 hi⟩
  · intro j hj i hi
    obtain ⟨h8, _⟩ := w4 (π.idxOf j) j (hat j hj)
    rcases h8 i hi with h9 | ⟨p', h9, h10⟩
    · rw [Nat.zero_testBit] at h9; cases h9
    · exact ⟨(w1 i (List.mem_of_getElem? h10)).1, by rw [hidx p' i h10]; exact h9⟩
  · intro i j o o' x hi hj hx hx'
    exact hd i j o o' x (hlist i o hi) (hlist j o' hj) hx hx'
  · intro i j o o' y hne hi hj hy hl
    have h8 := hdefs.1 j o' y (hlist j o' hj) hy
    rw [Nat.zero_add] at h8
    have h9 := looksOk_get _ _ _ h6 i o (hlist i o hi) y hl j h8
    rw [Nat.zero_add] at h9
    rcases h9 with h9 | h9 | h9
    · exact absurd h9 hne
    · exact .inl h9
    · exact .inr h9
  · intro i j o o' hne hi hj hl hl'
    have m1 := loudsOf_mem _ 0 i o (hlist i o hi) (by simp [isLoud, hl.1, hl.2])
    have m2 := loudsOf_mem _ 0 j o' (hlist j o' hj) (by simp [isLoud, hl'.1, hl'.2])
    rw [Nat.zero_add] at m1 m2
    exact pairsOk_ok h7 i m1 j m2 hne
  · intro i j o o' hi hj hq hl hlt
    have b1 := maskOf_bit (fun o => isQuiet o.op) _ 0 i o (hlist i o hi) hq
    have b2 := maskOf_bit isLoud _ 0 j o' (hlist j o' hj) (by simp [isLoud, hl.1, hl.2])
    rw [Nat.zero_add] at b1 b2
    exact (w4 (π.idxOf i) i (hat i (getElem?_lt hi))).2 b1 j b2 (.inr ⟨π.idxOf j, hlt, hat j (getElem?_lt hj)⟩)

/-- A guard says yes, says no. -/
def Yes (ops : Array Oper) (o : Oper) (S : St) : Prop := match o.guard with
  | none => True
  | some (g, want) => ∃ t, (ops[g]?).bind (·.dst) = some t ∧ S.sl.getD t (.c .any) = .c (.v (.bool want))
def No (ops : Array Oper) (o : Oper) (S : St) : Prop := match o.guard with
  | none => False
  | some (g, want) => ∃ t, (ops[g]?).bind (·.dst) = some t ∧ (S.sl.getD t (.c .any) = .c (.v (.bool !want)) ∨ ∃ vs, S.sl.getD t (.c .any) = .c (.v (.tuple vs)))

def Logged (i : Nat) (o : Oper) (S S' : St) (l : Log) : Prop := readsIn o S = true ∧ (isLight o.op = true → (i, hardOf o (evs S.sl), softOf o (evs S.sl)) ∈ l.lights) ∧ (isLight o.op = false → isQuiet o.op = true → (i, S.h.length) ∈ l.quiets) ∧
  (Loud o → ∃ t : Bool, (t = true → ∀ id ∈ writesOf o (evs S.sl) S.h, S'.h[id]? = S.h[id]?) ∧ (i, turnsOf t o S, breaksOf (turnsOf t o S) S.h S'.h, reachOf o (evs S.sl) S.h) ∈ l.louds)

def StepAt (G : Ctx2) (ops : Array Oper) (l : Log) (i : Nat) (S S' : St) : Prop :=
  ∃ o, ops[i]? = some o ∧ ((Yes ops o S ∧ (stepOp G o S).eval = some S' ∧ Logged i o S S' l) ∨ (No ops o S ∧ S' = skipOp o S))

def Trace (G : Ctx2) (ops : Array Oper) (l : Log) : List Nat → St → St → Prop
  | [], S, S' => S' = S
  | i :: rest, S, S' => ∃ S1, StepAt G ops l i S S1 ∧ Trace G ops l rest S1 S'

def LogLe (l l' : Log) : Prop := (∀ x ∈ l.lights, x ∈ l'.lights) ∧ (∀ x ∈ l.louds, x ∈ l'.louds) ∧ ∀ x ∈ l.quiets, x ∈ l'.quiets

theorem lit_same {S : St} {t : Nat} {b : Bool} (h : S.sl.getD t (.c .any) = .c (.v (.bool b))) : litB S t b = S := by
  obtain ⟨sl, hp⟩ := S
  simp only [litB]
  congr 1
  simp only at h
  rw [List.getD_eq_getElem?_getD] at h
  apply List.ext_getElem?
  intro i
  by_cases e : i = t
  · subst e
    rcases Nat.lt_or_ge i sl.length with hl | hl
    · rw [List.getElem?_set_self hl, List.getElem?_eq_getElem hl]
      rw [List.getElem?_eq_getElem hl] at h
      simp only [Option.getD_some] at h
      rw [h]
    · rw [List.getElem?_eq_none (by simpa using hl), List.getElem?_eq_none hl]
  · rw [List.getElem?_set_ne (fun e' => e e'.symm)]

theorem stepLog_some {G : Ctx2} {i : Nat} {o : Oper} {S S1 : St} {l l1 : Log} (h : (stepLog G i o S l).eval = some (S1, l1)) : readsIn o S = true ∧ (stepOp G o S).eval = some S1 ∧ ∃ t : Bool, (t = true → ∀ id ∈ writesOf o (evs S.sl) S.h, S1.h[id]? = S.h[id]?) ∧ l1 = logOf t i o S S1 l := by
  unfold stepLog at h
  split at h
  · rename_i hr
    rw [Tr.eval_bind] at h
    cases h1 : (stepOp G o S).eval with
    | none => simp [h1] at h
    | some S' =>
      rw [h1] at h
      simp only [Option.bind_some] at h
      split at h
      · obtain ⟨h2, h⟩ := Tr.eval_need.1 h
        simp only [yes, decide_eq_true_eq] at h2
        simp only [Tr.eval, Option.some.injEq, Prod.mk.injEq] at h
        obtain ⟨rfl, rfl⟩ := h
        exact ⟨hr, rfl, true, fun _ => List.map_inj_left.1 h2, rfl⟩
      · simp only [Tr.eval, Option.some.injEq, Prod.mk.injEq] at h
        obtain ⟨rfl, rfl⟩ := h
        exact ⟨hr, rfl, false, fun e => (by cases e), rfl⟩
  · cases h

theorem logOf_le (t : Bool) (i : Nat) (o : Oper) (S S' : St) (l : Log) : LogLe l (logOf t i o S S' l) := by
  unfold logOf
  split
  · exact ⟨fun x hx => by simp [hx], fun x hx => hx, fun x hx => hx⟩
  · split
    · exact ⟨fun x hx => hx, fun x hx => hx, fun x hx => by simp [hx]⟩
    · exact ⟨fun x hx => hx, fun x hx => by simp [hx], fun x hx => hx⟩
theorem LogLe.trans {a b c : Log} (h : LogLe a b) (k : LogLe b c) : LogLe a c := ⟨fun x hx => k.1 x (h.1 x hx), fun x hx => k.2.1 x (h.2.1 x hx), fun x hx => k.2.2 x (h.2.2 x hx)⟩
theorem logged_of {t : Bool} {i : Nat} {o : Oper} {S S' : St} {l l' : Log} (ht : t = true → ∀ id ∈ writesOf o (evs S.sl) S.h, S'.h[id]? = S.h[id]?) (hr : readsIn o S = true) (h : LogLe (logOf t i o S S' l) l') : Logged i o S S' l' := by
  unfold logOf at h
  refine ⟨hr, fun hl => ?_, fun hl hq => ?_, fun hl => ⟨t, ht, ?_⟩⟩
  · rw [if_pos hl] at h
    exact h.1 _ (by simp)
  · rw [if_neg (by rw [hl]; simp), if_pos hq] at h
    exact h.2.2 _ (by simp)
  · rw [if_neg (by rw [hl.1]; simp), if_neg (by rw [hl.2]; simp)] at h
    exact h.2.1 _ (by simp)

theorem regRun_ok {G : Ctx2} {ops : Array Oper} : ∀ (π : List Nat) (S : St) (l : Log) (S' : St) (l' : Log), (regRun G ops π S l).eval = some (S', l') → LogLe l l' ∧ Trace G ops l' π S S'
  | [], S, l, S', l', h => by
    simp only [regRun, Tr.eval, Option.some.injEq, Prod.mk.injEq] at h
    obtain ⟨rfl, rfl⟩ := h
    exact ⟨⟨fun _ h => h, fun _ h => h, fun _ h => h⟩, rfl⟩
  | i :: rest, S, l, S', l', h => by
    simp only [regRun] at h
    split at h
    · cases h
    · rename_i o ho
      have run : ∀ S0, S0 = S → Yes ops o S → ((stepLog G i o S0 l).bind fun r => regRun G ops rest r.1 r.2).eval = some (S', l') → LogLe l l' ∧ Trace G ops l' (i :: rest) S S' := by
        intro S0 hS hy hh
        subst hS
        rw [Tr.eval_bind] at hh
        cases h1 : (stepLog G i o S0 l).eval with
        | none => simp [h1] at hh
        | some r =>
          obtain ⟨S1, l1⟩ := r
          rw [h1] at hh
          simp only [Option.bind_some] at hh
          obtain ⟨hr, hst, t, hte, rfl⟩ := stepLog_some h1
          obtain ⟨hle, htr⟩ := regRun_ok rest S1 _ S' l' hh
          exact ⟨(logOf_le t i o S0 S1 l).trans hle, S1, ⟨o, ho, .inl ⟨hy, hst, logged_of hte hr hle⟩⟩, htr⟩
      have skip : ∀ S0, S0 = S → No ops o S → (regRun G ops rest (skipOp o S0) l).eval = some (S', l') → LogLe l l' ∧ Trace G ops l' (i :: rest) S S' := by
        intro S0 hS hn hh
        subst hS
        obtain ⟨hle, htr⟩ := regRun_ok rest _ l S' l' hh
        exact ⟨hle, _, ⟨o, ho, .inr ⟨hn, rfl⟩⟩, htr⟩
      split at h
      · rename_i hg
        exact run S rfl (by simp [Yes, hg]) h
      · rename_i g want hg
        split at h
        · rename_i t ht
          split at h
          · rename_i b hb
            rw [Tr.eval_ite] at h
            cases b with
            | true =>
              rw [if_pos rfl] at h
              cases want with
              | true =>
                simp only [if_true] at h
                exact run _ (lit_same hb) (by simp only [Yes, hg]; exact ⟨t, ht, hb⟩) h
              | false =>
                simp only [Bool.false_eq_true, if_false] at h
                exact skip _ (lit_same hb) (by simp only [No, hg]; exact ⟨t, ht, .inl hb⟩) h
            | false =>
              rw [if_neg (by simp)] at h
              cases want with
              | true =>
                simp only [if_true] at h
                exact skip _ (lit_same hb) (by simp only [No, hg]; exact ⟨t, ht, .inl hb⟩) h
              | false =>
                simp only [Bool.false_eq_true, if_false] at h
                exact run _ (lit_same hb) (by simp only [Yes, hg]; exact ⟨t, ht, hb⟩) h
          · rename_i vs hb
            exact skip S rfl (by simp only [No, hg]; exact ⟨t, ht, .inr ⟨vs, hb⟩⟩) h
          · cases h
        · cases h

/-- The states, one behind the other. -/
theorem Trace.states {G : Ctx2} {ops : Array Oper} {l : Log} : ∀ {π : List Nat} {S S' : St}, Trace G ops l π S S' → ∃ st : Nat → St, st 0 = S ∧ st π.length = S' ∧ ∀ (p i : Nat), π[p]? = some i → StepAt G ops l i (st p) (st (p + 1))
  | [], S, S', h => ⟨fun _ => S, rfl, h.symm, fun p i hi => by simp at hi⟩
  | i :: rest, S, S', h => by
    obtain ⟨S1, h1, h2⟩ := h
    obtain ⟨st, e0, en, hst⟩ := Trace.states h2
    refine ⟨fun p => match p with | 0 => S | p + 1 => st p, rfl, en, fun p j hj => ?_⟩
    cases p with
    | zero =>
      simp only [List.getElem?_cons_zero, Option.some.injEq] at hj
      subst hj
      show StepAt G ops l i S (st 0)
      rw [e0]
      exact h1
    | succ p => exact hst p j (by simpa using hj)
end
section
open Go Go.RowKit

structure RunOk (G : Ctx2) (ops : Array Oper) (π : List Nat) (l : Log) (st : Nat → St) : Prop where
  ord : OrdOk ops π
  stp : ∀ (p i : Nat), π[p]? = some i → StepAt G ops l i (st p) (st (p + 1))
  log : logOk ops l = true

section
variable {G : Ctx2} {ops : Array Oper} {π : List Nat} {l : Log} {st : Nat → St} {m m0 : List Pl} {h0 : AHeap} {w w0 : World} {B : Nat} {a : Act}

theorem OrdOk.at_ (h : OrdOk ops π) {i : Nat} (hi : i < ops.size) : π.idxOf i < ops.size ∧ π[π.idxOf i]? = some i := by
  have hlt := List.idxOf_lt_length_iff.2 (h.mem i hi)
  exact ⟨by rw [← h.len]; exact hlt, by rw [List.getElem?_eq_getElem hlt, List.getElem_idxOf]⟩
theorem OrdOk.of_pos (h : OrdOk ops π) {p : Nat} (hp : p < ops.size) : ∃ i, i < ops.size ∧ π[p]? = some i ∧ π.idxOf i = p := by
  refine ⟨π.getD p 0, h.lt p hp, ?_, h.inj p hp⟩
  rw [List.getD_eq_getElem?_getD, List.getElem?_eq_getElem (by rw [h.len]; exact hp)]
  rfl

/-- One step's slots and heap. -/
theorem StepAt.put {i : Nat} {S S' : St} (h : StepAt G ops l i S S') : ∃ o v, ops[i]? = some o ∧ S'.sl = putA S.sl o.dst v := by
  obtain ⟨o, ho, h | h⟩ := h
  · obtain ⟨_, he, _⟩ := h
    rw [stepOp_def] at he
    split at he
    · rw [Tr.eval_bind] at he
      cases h1 : (alight G.toCtx o (evs S.sl) S.h).eval with
      | none => simp [h1] at he
      | some v =>
        rw [h1] at he
        simp only [Option.bind_some, Tr.eval, Option.some.injEq] at he
        exact ⟨o, v, ho, by rw [← he]⟩
    · rw [Tr.eval_bind] at he
      cases h1 : (aheavy G o (evs S.sl) S.h).eval with
      | none => simp [h1] at he
      | some v =>
        rw [h1] at he
        simp only [Option.bind_some, Tr.eval, Option.some.injEq] at he
        exact ⟨o, v.1, ho, by rw [← he]⟩
  · exact ⟨o, _, ho, by rw [h.2]; rfl⟩

theorem shEq_trans {x y z : Option ABlk} (h : shEq x y = true) (h' : shEq y z = true) : shEq x z = true := by
  rcases shEq_cases h with ⟨rfl, rfl⟩ | ⟨b, b', rfl, rfl, h1, h2⟩
  · exact h'
  · rcases shEq_cases h' with ⟨h3, _⟩ | ⟨c, c', h3, rfl, h4, h5⟩
    · cases h3
    · cases h3
      simp only [shEq, Bool.and_eq_true, h1, h2, h4, h5]
      exact ⟨Nat.beq_refl _, Nat.beq_refl _⟩
theorem shEq_symm {x y : Option ABlk} (h : shEq x y = true) : shEq y x = true := by
  rcases shEq_cases h with ⟨rfl, rfl⟩ | ⟨b, b', rfl, rfl, h1, h2⟩
  · rfl
  · simp only [shEq, Bool.and_eq_true, h1, h2]
    exact ⟨Nat.beq_refl _, Nat.beq_refl _⟩
theorem refAVs_map {ρ : Operand → AV} {s : Operand} {l : List Operand} (h : s ∈ l) : ∀ id ∈ refAV (ρ s), id ∈ refAVs (l.map ρ) := refAVs_mem (List.mem_map.2 ⟨s, h, rfl⟩)
theorem writes_reach {o : Oper} {ρ : Operand → AV} {h : AHeap} : ∀ id ∈ writesOf o ρ h, id ∈ reachOf o ρ h := by
  intro id hid
  unfold writesOf at hid
  unfold reachOf
  split at hid
  · exact hid
  · split at hid
    · rename_i s r ha
      exact refAVs_map (by rw [ha]; simp) id hid
    · cases hid
  · exact hid
  · cases hid

theorem StepAt.heap {i : Nat} {S S' : St} (h : StepAt G ops l i S S') : ∃ o, ops[i]? = some o ∧ (isLight o.op = true → S'.h = S.h) ∧ S.h.length ≤ S'.h.length ∧
    (isLight o.op = false → isQuiet o.op = true → S'.h = S.h ∨ ((i, S.h.length) ∈ l.quiets ∧ ∃ b, S'.h = S.h ++ [some b])) ∧
    (∀ id, id < S.h.length → (Loud o → ∀ ws bs rc, (i, ws, bs, rc) ∈ l.louds → id ∉ ws) → S'.h[id]? = S.h[id]?) ∧
    (∀ id, id < S.h.length → (Loud o → ∀ ws bs rc, (i, ws, bs, rc) ∈ l.louds → id ∉ bs) → shEq (S.h.at id) (S'.h.at id) = true) := by
  obtain ⟨o, ho, h | h⟩ := h
  · obtain ⟨_, he, hl⟩ := h
    rw [stepOp_def] at he
    split at he
    · rename_i hlt
      rw [Tr.eval_bind] at he
      cases h1 : (alight G.toCtx o (evs S.sl) S.h).eval with
      | none => simp [h1] at he
      | some v =>
        rw [h1] at he
        simp only [Option.bind_some, Tr.eval, Option.some.injEq] at he
        subst he
        exact ⟨o, ho, fun _ => rfl, Nat.le_refl _, fun _ _ => .inl rfl, fun _ _ _ => rfl, fun _ _ _ => shEq_refl _⟩
    · rename_i hlt
      rw [Tr.eval_bind] at he
      cases h1 : (aheavy G o (evs S.sl) S.h).eval with
      | none => simp [h1] at he
      | some v =>
        obtain ⟨v, h'⟩ := v
        rw [h1] at he
        simp only [Option.bind_some, Tr.eval, Option.some.injEq] at he
        subst he
        have hlt' : isLight o.op = false := by simpa using hlt
        obtain ⟨hle, hk⟩ := aheavy_keeps h1
        cases hq : isQuiet o.op with
        | true =>
          obtain ⟨b, mk, rfl, _, _, _⟩ := quiet_form hq h1
          refine ⟨o, ho, fun h => absurd h hlt, by simp, fun _ _ => .inr ⟨hl.2.2.1 hlt' hq, b, rfl⟩, fun id hid _ => List.getElem?_append_left hid, fun id hid _ => ?_⟩
          unfold AHeap.at
          simp only
          rw [List.getElem?_append_left hid]
          exact shEq_refl _
        | false =>
          obtain ⟨t, hte, hlog⟩ := hl.2.2.2 ⟨hlt', hq⟩
          cases t with
          | true =>
            have hsame : ∀ id, id < S.h.length → h'[id]? = S.h[id]? := fun id hid => by
              by_cases hw : id ∈ writesOf o (evs S.sl) S.h
              · exact hte rfl id hw
              · exact hk id hid hw
            refine ⟨o, ho, fun h => absurd h hlt, hle, fun _ h => absurd h (by rw [hq]; simp), fun id hid _ => hsame id hid, fun id hid _ => ?_⟩
            have := hsame id hid
            unfold AHeap.at
            simp only
            rw [this]
            exact shEq_refl _
          | false =>
          have hlog : (i, writesOf o (evs S.sl) S.h, breaksOf (writesOf o (evs S.sl) S.h) S.h _, reachOf o (evs S.sl) S.h) ∈ l.louds := hlog
          refine ⟨o, ho, fun h => absurd h hlt, hle, fun _ h => absurd h (by rw [hq]; simp), fun id hid hn => hk id hid (hn ⟨hlt', hq⟩ _ _ _ hlog), fun id hid hn => ?_⟩
          have hnb := hn ⟨hlt', hq⟩ _ _ _ hlog
          by_cases hw : id ∈ writesOf o (evs S.sl) S.h
          · cases hs : shEq (S.h.at id) (AHeap.at h' id) with
            | true => rfl
            | false => exact absurd (List.mem_filter.2 ⟨hw, by simp only; rw [hs]; rfl⟩) hnb
          · have := hk id hid hw
            unfold AHeap.at
            simp only
            rw [this]
            exact shEq_refl _
  · exact ⟨o, ho, fun _ => by rw [h.2]; rfl, by rw [h.2]; exact Nat.le_refl _, fun _ _ => .inl (by rw [h.2]; rfl), fun _ _ _ => by rw [h.2]; rfl, fun _ _ _ => by rw [h.2]; exact shEq_refl _⟩

def SlotIs (ops : Array Oper) (π : List Nat) (st : Nat → St) (D : Nat → Prop) (t : Nat) (v : AV) : Prop :=
  (∃ (j : Nat) (o : Oper), D j ∧ ops[j]? = some o ∧ o.dst = some t ∧ v = (st (π.idxOf j + 1)).sl.getD t (.c .any)) ∨ ((∀ (j : Nat) o, D j → ops[j]? = some o → o.dst ≠ some t) ∧ v = (st 0).sl.getD t (.c .any))

theorem SlotIs.agree (h : OrdOk ops π) {D D' : Nat → Prop} {t : Nat} {v v' : AV} (hd : ∀ (j : Nat) o, ops[j]? = some o → o.dst = some t → (D j ↔ D' j)) (h1 : SlotIs ops π st D t v) (h2 : SlotIs ops π st D' t v') : v = v' := by
  rcases h1 with ⟨j, o, hj, ho, hdst, rfl⟩ | ⟨hn, rfl⟩ <;> rcases h2 with ⟨j', o', hj', ho', hdst', rfl⟩ | ⟨hn', rfl⟩
  · have := h.dst j j' o o' t ho ho' hdst hdst'
    subst this
    rfl
  · exact absurd hdst (hn' j o ((hd j o ho hdst).1 hj) ho)
  · exact absurd hdst' (hn j' o' ((hd j' o' ho' hdst').2 hj') ho')
  · rfl
theorem SlotIs.has (D : Nat → Prop) (t : Nat) : ∃ v, SlotIs ops π st D t v := by
  by_cases hx : ∃ (j : Nat) (o : Oper), D j ∧ ops[j]? = some o ∧ o.dst = some t
  · obtain ⟨j, o, h1, h2, h3⟩ := hx
    exact ⟨_, .inl ⟨j, o, h1, h2, h3, rfl⟩⟩
  · exact ⟨_, .inr ⟨fun j o h1 h2 h3 => hx ⟨j, o, h1, h2, h3⟩, rfl⟩⟩

theorem putA_getD {sl : List AV} {d : Option Tmp} {v : AV} {t : Nat} (h : d ≠ some t) : (putA sl d v).getD t (.c .any) = sl.getD t (.c .any) := by
  cases d with
  | none => rfl
  | some d =>
    have hne : d ≠ t := fun e => h (by rw [e])
    simp only [putA, List.getD_eq_getElem?_getD]
    rw [List.getElem?_set_ne hne]
theorem putA_len {sl : List AV} {d : Option Tmp} {v : AV} : (putA sl d v).length = sl.length := by
  cases d <;> simp [putA]

theorem RunOk.len (R : RunOk G ops π l st) : ∀ p, p ≤ ops.size → (st p).sl.length = (st 0).sl.length
  | 0, _ => rfl
  | p + 1, hp => by
    obtain ⟨i, hi, hpi, _⟩ := R.ord.of_pos (p := p) (by omega)
    obtain ⟨o, v, ho, hs⟩ := (R.stp p i hpi).put
    rw [hs, putA_len]
    exact R.len p (by omega)

theorem RunOk.slot (R : RunOk G ops π l st) : ∀ p, p ≤ ops.size → ∀ t, SlotIs ops π st (fun j => π.idxOf j < p) t ((st p).sl.getD t (.c .any))
  | 0, _, t => .inr ⟨fun j o hj => by omega, rfl⟩
  | p + 1, hp, t => by
    obtain ⟨i, hi, hpi, hpos⟩ := R.ord.of_pos (p := p) (by omega)
    obtain ⟨o, v, ho, hs⟩ := (R.stp p i hpi).put
    by_cases hd : o.dst = some t
    · exact .inl ⟨i, o, by omega, ho, hd, by rw [hpos]⟩
    · rw [hs, putA_getD hd]
      rcases R.slot p (by omega) t with ⟨j, o', hj, ho', hdst, hv⟩ | ⟨hn, hv⟩
      · exact .inl ⟨j, o', by omega, ho', hdst, hv⟩
      · refine .inr ⟨fun j o' hj ho' => ?_, hv⟩
        rcases Nat.lt_or_ge (π.idxOf j) p with hlt | hge
        · exact hn j o' hlt ho'
        · have hje : j = i := by
            have h1 := (R.ord.at_ (getElem?_lt ho')).2
            rw [show π.idxOf j = p by omega, hpi] at h1
            cases h1
            rfl
          subst hje
          rw [ho] at ho'
          cases ho'
          exact hd

theorem RunOk.mono (R : RunOk G ops π l st) (p1 : Nat) : ∀ k, p1 + k ≤ ops.size → (st p1).h.length ≤ (st (p1 + k)).h.length
  | 0, _ => Nat.le_refl _
  | k + 1, hk => by
    obtain ⟨i, hi, hpi, hpos⟩ := R.ord.of_pos (p := p1 + k) (by omega)
    obtain ⟨o, ho, _, hle, _⟩ := (R.stp (p1 + k) i hpi).heap
    exact Nat.le_trans (R.mono p1 k (by omega)) hle
theorem RunOk.keep (R : RunOk G ops π l st) (p1 id : Nat) (hid : id < (st p1).h.length) : ∀ k, p1 + k ≤ ops.size → (∀ q, p1 ≤ q → q < p1 + k → ∀ (i : Nat) o, π[q]? = some i → ops[i]? = some o → Loud o → ∀ ws bs rc, (i, ws, bs, rc) ∈ l.louds → id ∉ ws) →
    (st (p1 + k)).h[id]? = (st p1).h[id]?
  | 0, _, _ => rfl
  | k + 1, hk, hw => by
    obtain ⟨i, hi, hpi, hpos⟩ := R.ord.of_pos (p := p1 + k) (by omega)
    obtain ⟨o, ho, _, _, _, hkp, _⟩ := (R.stp (p1 + k) i hpi).heap
    have ih := R.keep p1 id hid k (by omega) fun q h2 h3 => hw q h2 (by omega)
    have hm := R.mono p1 k (by omega)
    have : (st (p1 + k + 1)).h[id]? = (st (p1 + k)).h[id]? := hkp id (by omega) (hw (p1 + k) (by omega) (by omega) i o hpi ho)
    rw [show p1 + (k + 1) = p1 + k + 1 by omega, this, ih]
theorem RunOk.soft (R : RunOk G ops π l st) (p1 id : Nat) (hid : id < (st p1).h.length) : ∀ k, p1 + k ≤ ops.size → (∀ q, p1 ≤ q → q < p1 + k → ∀ (i : Nat) o, π[q]? = some i → ops[i]? = some o → Loud o → ∀ ws bs rc, (i, ws, bs, rc) ∈ l.louds → id ∉ bs) →
    shEq ((st p1).h.at id) ((st (p1 + k)).h.at id) = true
  | 0, _, _ => shEq_refl _
  | k + 1, hk, hw => by
    obtain ⟨i, hi, hpi, hpos⟩ := R.ord.of_pos (p := p1 + k) (by omega)
    obtain ⟨o, ho, _, _, _, _, hkp⟩ := (R.stp (p1 + k) i hpi).heap
    have ih := R.soft p1 id hid k (by omega) fun q h2 h3 => hw q h2 (by omega)
    have hm := R.mono p1 k (by omega)
    exact shEq_trans ih (hkp id (by omega) (hw (p1 + k) (by omega) (by omega) i o hpi ho))

def Dn (ops : Array Oper) (listed : Array Bool) (j : Nat) : Prop := j < ops.size ∧ listed.getD j false = true

/-- The blocks of the order's first hp operations that are not there yet: those that are made, and look at nothing, and are still to come. -/
def Nt (ops : Array Oper) (π : List Nat) (st : Nat → St) (listed : Array Bool) (hp id : Nat) : Prop :=
  ∃ (i : Nat) (o : Oper), ops[i]? = some o ∧ isLight o.op = false ∧ isQuiet o.op = true ∧ π.idxOf i < hp ∧ ¬ Dn ops listed i ∧ id = (st (π.idxOf i)).h.length ∧ (st (π.idxOf i + 1)).h.length = id + 1

structure RIX (B : Nat) (m0 : List Pl) (h0 : AHeap) (w0 : World) (ops : Array Oper) (π : List Nat) (st : Nat → St) (listed : Array Bool) (a : Act) (w : World) (m : List Pl) (hp : Nat) (k : AHeap) : Prop where
  le : hp ≤ ops.size
  loud : ∀ (j : Nat) o, ops[j]? = some o → Loud o → (Dn ops listed j ↔ π.idxOf j < hp)
  quiet : ∀ (j : Nat) o, ops[j]? = some o → isLight o.op = false → isQuiet o.op = true → Dn ops listed j → π.idxOf j < hp
  nul : Nul (Nt ops π st listed hp) (st hp).h k
  marks : ∀ id, Nt ops π st listed hp id → m[id]? = some mark
  step : Step B m0 h0 w0 m k w
  slots : ∀ t v, SlotIs ops π st (Dn ops listed) t v → t < (st 0).sl.length → ∃ x, a.tmps[t]? = some x ∧ VR m v x

structure RID (B : Nat) (m0 : List Pl) (h0 : AHeap) (w0 : World) (ops : Array Oper) (π : List Nat) (st : Nat → St) (listed : Array Bool) (a : Act) (w : World) : Prop where
  hB : B ≤ w0.heap.size
  def_ : a.defers = []
  size : listed.size = ops.size
  closed : ∀ (j : Nat) o, ops[j]? = some o → Dn ops listed j → ∀ e ∈ o.after, Region.binds .any e = true → Dn ops listed e.on
  len : (st 0).sl.length = a.tmps.size
  low : m0.length ≤ (st 0).h.length
  ex : ∃ m hp k, RIX B m0 h0 w0 ops π st listed a w m hp k

theorem before_dn (h : OrdOk ops π) {listed : Array Bool} (hc : ∀ (j : Nat) o, ops[j]? = some o → Dn ops listed j → ∀ e ∈ o.after, Region.binds .any e = true → Dn ops listed e.on) :
    ∀ (k : Nat) (j i : Nat), π.idxOf j < k → Dn ops listed j → before (predsOf ops.toList) i j = true → Dn ops listed i
  | 0, j, i, hk, _, _ => by omega
  | k + 1, j, i, hk, hj, hb => by
    obtain ⟨o, ho, e, he, hbe, hor⟩ := h.step j hj.1 i hb
    have hd := hc j o ho hj e he hbe
    rcases hor with rfl | hb'
    · exact hd
    · have hpos := (h.pos j hj.1 e.on (h.dir j o ho e he hbe)).2
      exact before_dn h hc k e.on i (by omega) hd hb'

theorem OrdOk.at_pos (h : OrdOk ops π) {p i : Nat} (hp : p < ops.size) (hi : π[p]? = some i) : π.idxOf i = p := by
  obtain ⟨j, _, hj, hpos⟩ := h.of_pos hp
  rw [hi] at hj
  cases hj
  exact hpos

/-- One step further in the order, if it is none that is loud. -/
theorem RIX.bump1 (R : RunOk G ops π l st) {listed : Array Bool} {hp : Nat} {k : AHeap} (I : RIX B m0 h0 w0 ops π st listed a w m hp k) {i : Nat} {o : Oper} (hlt : hp < ops.size) (hi : π[hp]? = some i) (ho : ops[i]? = some o) (hn : ¬ Loud o) :
    ∃ m' k', RIX B m0 h0 w0 ops π st listed a w m' (hp + 1) k' := by
  have hpos := R.ord.at_pos hlt hi
  have hloud : ∀ (j : Nat) o', ops[j]? = some o' → Loud o' → (Dn ops listed j ↔ π.idxOf j < hp + 1) := by
    intro j o' ho' hl
    rw [I.loud j o' ho' hl]
    constructor
    · intro h; omega
    · intro h
      rcases Nat.lt_or_ge (π.idxOf j) hp with h1 | h1
      · exact h1
      · have hj := (R.ord.at_ (getElem?_lt ho')).2
        rw [show π.idxOf j = hp by omega, hi] at hj
        cases hj
        rw [ho] at ho'
        cases ho'
        exact absurd hl hn
  have hquiet : ∀ (j : Nat) o', ops[j]? = some o' → isLight o'.op = false → isQuiet o'.op = true → Dn ops listed j → π.idxOf j < hp + 1 := fun j o' h1 h2 h3 h4 => by
    have := I.quiet j o' h1 h2 h3 h4
    omega
  obtain ⟨o', ho', hlight, _, hq, _⟩ := (R.stp hp i hi).heap
  rw [ho] at ho'
  cases ho'
  have old : ∀ id, Nt ops π st listed hp id → Nt ops π st listed (hp + 1) id := fun id ⟨j, oj, h1, h2, h3, h4, h5⟩ => ⟨j, oj, h1, h2, h3, by omega, h5⟩
  have new : ∀ id, Nt ops π st listed (hp + 1) id → Nt ops π st listed hp id ∨ (id = (st hp).h.length ∧ (st (hp + 1)).h.length = id + 1) := by
    rintro id ⟨j, oj, h1, h2, h3, h4, h5, h6, h7⟩
    rcases Nat.lt_or_ge (π.idxOf j) hp with hj | hj
    · exact .inl ⟨j, oj, h1, h2, h3, hj, h5, h6, h7⟩
    · have : π.idxOf j = hp := by omega
      rw [this] at h6 h7
      exact .inr ⟨h6, h7⟩
  have hcase : (st (hp + 1)).h = (st hp).h ∨ (isLight o.op = false ∧ isQuiet o.op = true ∧ ∃ b, (st (hp + 1)).h = (st hp).h ++ [some b]) := by
    cases hl : isLight o.op with
    | true => exact .inl (hlight hl)
    | false =>
      have hqt : isQuiet o.op = true := by
        cases hq' : isQuiet o.op with
        | true => rfl
        | false => exact absurd ⟨hl, hq'⟩ hn
      rcases hq hl hqt with h | ⟨_, b, h⟩
      · exact .inl h
      · exact .inr ⟨rfl, hqt, b, h⟩
  rcases hcase with hh | ⟨hl, hqt, b, hh⟩
  · have same : ∀ id, Nt ops π st listed (hp + 1) id ↔ Nt ops π st listed hp id := fun id => ⟨fun h => (new id h).elim (fun x => x) fun h' => absurd h'.2 (by rw [hh]; omega), old id⟩
    refine ⟨m, k, ⟨hlt, hloud, hquiet, ⟨by rw [hh]; exact I.nul.len, fun id h => I.nul.off id ((same id).1 h), fun id h => by rw [hh]; exact I.nul.on id fun h' => h ((same id).2 h')⟩, fun id h => I.marks id ((same id).1 h), I.step, I.slots⟩⟩
  · have hnd : ¬ Dn ops listed i := fun hd => by
      have := I.quiet i o ho hl hqt hd
      omega
    have hnew : Nt ops π st listed (hp + 1) (st hp).h.length := ⟨i, o, ho, hl, hqt, by omega, hnd, by rw [hpos], by rw [hpos, hh]; simp⟩
    have hkl := I.nul.len
    have hml := I.step.hr.len
    have hlt1 : ∀ id, Nt ops π st listed hp id → id < k.length := fun id h => (List.getElem?_eq_some_iff.1 (I.nul.off id h)).1
    refine ⟨m ++ [mark], k ++ [none], ⟨hlt, hloud, hquiet, ⟨by rw [hh]; simp [hkl], fun id h => ?_, fun id h => ?_⟩, fun id h => ?_, ⟨I.step.ext.trans (Ext.app _ _), { len := by simp [hml], blk := ?_, apart := ?_ }, I.step.fr, ?_⟩, fun t v hv hlt => ?_⟩⟩
    · rcases new id h with h' | ⟨rfl, _⟩
      · rw [List.getElem?_append_left (hlt1 id h')]
        exact I.nul.off id h'
      · rw [← hkl]
        simp
    · have hne : id ≠ (st hp).h.length := fun e => h (e ▸ hnew)
      rw [hh]
      rcases Nat.lt_or_ge id k.length with h1 | h1
      · rw [List.getElem?_append_left h1, List.getElem?_append_left (by rw [← hkl]; exact h1)]
        exact I.nul.on id fun h' => h (old id h')
      · rw [List.getElem?_eq_none (by simp; omega), List.getElem?_eq_none (by simp; omega)]
    · rcases new id h with h' | ⟨rfl, _⟩
      · rw [List.getElem?_append_left (by rw [hml]; exact hlt1 id h')]
        exact I.marks id h'
      · rw [← hkl, ← hml]
        simp
    · intro id b' p hb hp'
      rcases getElem?_snoc hb with hb | ⟨_, hbe⟩
      · rw [List.getElem?_append_left (by rw [hml]; exact (List.getElem?_eq_some_iff.1 hb).1)] at hp'
        exact (I.step.hr.blk id b' p hb hp').ext (Ext.app _ _)
      · cases hbe
    · intro id id' b1 b2 p1 p2 A1 A2 hne hb1 hb2 ho1 ho2 hp1 hp2 hA1 hA2
      rcases getElem?_snoc hb1 with hb1 | ⟨_, hbe⟩
      · rcases getElem?_snoc hb2 with hb2 | ⟨_, hbe⟩
        · rw [List.getElem?_append_left (by rw [hml]; exact (List.getElem?_eq_some_iff.1 hb1).1)] at hp1
          rw [List.getElem?_append_left (by rw [hml]; exact (List.getElem?_eq_some_iff.1 hb2).1)] at hp2
          exact I.step.hr.apart id id' b1 b2 p1 p2 A1 A2 hne hb1 hb2 ho1 ho2 hp1 hp2 hA1 hA2
        · cases hbe
      · cases hbe
    · intro q hq
      obtain ⟨id, b1, p1, A, hb1, ho1, hp1, hA, rfl⟩ := hq
      rcases getElem?_snoc hb1 with hb1 | ⟨_, hbe⟩
      · rw [List.getElem?_append_left (by rw [hml]; exact (List.getElem?_eq_some_iff.1 hb1).1)] at hp1
        exact I.step.own _ ⟨id, b1, p1, A, hb1, ho1, hp1, hA, rfl⟩
      · cases hbe
    · obtain ⟨x, hx, hr⟩ := I.slots t v hv hlt
      exact ⟨x, hx, VR.ext (Ext.app _ _) hr⟩

theorem RIX.bump (R : RunOk G ops π l st) {listed : Array Bool} : ∀ (n hp : Nat) (m : List Pl) (k : AHeap), ops.size - hp ≤ n → RIX B m0 h0 w0 ops π st listed a w m hp k →
    ∃ m' hp' k', RIX B m0 h0 w0 ops π st listed a w m' hp' k' ∧ ∀ (i : Nat) o, π[hp']? = some i → ops[i]? = some o → Loud o
  | 0, hp, m, k, hn, I => by
    refine ⟨m, hp, k, I, fun i o hi ho => ?_⟩
    have := (List.getElem?_eq_some_iff.1 hi).1
    rw [R.ord.len] at this
    omega
  | n + 1, hp, m, k, hn, I => by
    rcases Nat.lt_or_ge hp ops.size with hlt | hge
    · obtain ⟨i, hil, hi, _⟩ := R.ord.of_pos hlt
      have ho := Array.getElem?_eq_getElem hil
      by_cases hl : Loud ops[i]
      · refine ⟨m, hp, k, I, fun i' o hi' ho' => ?_⟩
        rw [hi] at hi'
        cases hi'
        rw [ho] at ho'
        cases ho'
        exact hl
      · obtain ⟨m', k', I'⟩ := I.bump1 R hlt hi ho hl
        exact RIX.bump R n (hp + 1) m' k' (by omega) I'
    · refine ⟨m, hp, k, I, fun i o hi ho => ?_⟩
      have := (List.getElem?_eq_some_iff.1 hi).1
      rw [R.ord.len] at this
      omega
end
end
section
open Go Go.RowKit

section
variable {G : Ctx2} {ops : Array Oper} {π : List Nat} {l : Log} {st : Nat → St} {m m0 : List Pl} {h0 : AHeap} {w w0 : World} {B : Nat} {a : Act} {listed : Array Bool}

theorem getD_set {i j : Nat} (hs : i < listed.size) : (listed.setIfInBounds i true).getD j false = true ↔ j = i ∨ listed.getD j false = true := by
  by_cases e : j = i
  · subst e
    simp [Array.getD_eq_getD_getElem?, hs]
  · simp [Array.getD_eq_getD_getElem?, Array.getElem?_setIfInBounds_ne (fun e' => e e'.symm), e]

theorem Dn.set {i j : Nat} (hsz : listed.size = ops.size) (hi : i < ops.size) : Dn ops (listed.setIfInBounds i true) j ↔ j = i ∨ Dn ops listed j := by
  unfold Dn
  rw [getD_set (by omega)]
  constructor
  · rintro ⟨h1, h2 | h2⟩
    · exact .inl h2
    · exact .inr ⟨h1, h2⟩
  · rintro (rfl | ⟨h1, h2⟩)
    · exact ⟨hi, .inl rfl⟩
    · exact ⟨h1, .inr h2⟩

/-- One more operation. -/
theorem RIX.next (R : RunOk G ops π l st) (I : RID B m0 h0 w0 ops π st listed a w) {i : Nat} {o : Oper} (ho : ops[i]? = some o) (hni : ¬ Dn ops listed i) (hpre : ∀ e ∈ o.after, Region.binds .any e = true → Dn ops listed e.on)
    {m m' : List Pl} {hp' : Nat} {k' : AHeap} {x : Value} {w' : World} (hle : hp' ≤ ops.size) (hloud : ∀ (j : Nat) o', ops[j]? = some o' → Loud o' → (Dn ops (listed.setIfInBounds i true) j ↔ π.idxOf j < hp'))
    (hquiet : ∀ (j : Nat) o', ops[j]? = some o' → isLight o'.op = false → isQuiet o'.op = true → Dn ops (listed.setIfInBounds i true) j → π.idxOf j < hp')
    (hnul : Nul (Nt ops π st (listed.setIfInBounds i true) hp') (st hp').h k') (hmark : ∀ id, Nt ops π st (listed.setIfInBounds i true) hp' id → m'[id]? = some mark)
    (hslots : ∀ t v, SlotIs ops π st (Dn ops listed) t v → t < (st 0).sl.length → ∃ x, a.tmps[t]? = some x ∧ VR m v x) (he : ∀ v y, VR m v y → VR m' v y) (hst : Step B m0 h0 w0 m' k' w')
    (hx : ∀ t, o.dst = some t → t < (st 0).sl.length → VR m' ((st (π.idxOf i + 1)).sl.getD t (.c .any)) x) : RID B m0 h0 w0 ops π st (listed.setIfInBounds i true) (a.put o.dst x) w' := by
  have hi : i < ops.size := getElem?_lt ho
  have hset : ∀ j, Dn ops (listed.setIfInBounds i true) j ↔ j = i ∨ Dn ops listed j := fun j => Dn.set I.size hi
  refine { hB := I.hB, def_ := by rw [put_defers]; exact I.def_, size := by simp [I.size], closed := ?_, len := ?_, low := I.low, ex := ⟨m', hp', k', ⟨hle, hloud, hquiet, hnul, hmark, hst, ?_⟩⟩ }
  · intro j o' ho' hj e he hb
    rw [hset] at hj
    rw [hset]
    rcases hj with rfl | hj
    · rw [ho] at ho'
      cases ho'
      exact .inr (hpre e he hb)
    · exact .inr (I.closed j o' ho' hj e he hb)
  · rw [I.len]
    cases o.dst <;> simp [Act.put]
  · intro t v hv hlt
    by_cases hd : o.dst = some t
    · refine ⟨x, ?_, ?_⟩
      · rw [hd]
        simp only [Act.put]
        rw [Array.getElem?_setIfInBounds]
        simp [← I.len, hlt]
      · have : v = (st (π.idxOf i + 1)).sl.getD t (.c .any) := by
          rcases hv with ⟨j, o', hj, ho', hdst, rfl⟩ | ⟨hn, _⟩
          · have := R.ord.dst j i o' o t ho' ho hdst hd
            subst this
            rfl
          · exact absurd hd (hn i o ((hset i).2 (.inl rfl)) ho)
        rw [this]
        exact hx t hd hlt
    · obtain ⟨v', hv'⟩ := SlotIs.has (ops := ops) (π := π) (st := st) (Dn ops listed) t
      have hvv : v = v' := SlotIs.agree R.ord (fun j o' ho' hdst => by
        rw [hset]
        constructor
        · rintro (rfl | h)
          · rw [ho] at ho'
            cases ho'
            exact absurd hdst hd
          · exact h
        · exact .inr) hv hv'
      subst hvv
      obtain ⟨y, hy, hr⟩ := hslots t v hv' hlt
      refine ⟨y, ?_, he _ _ hr⟩
      cases hdd : o.dst with
      | none => exact hy
      | some d =>
        have hne : d ≠ t := fun e => hd (by rw [hdd, e])
        simp only [Act.put]
        rw [Array.getElem?_setIfInBounds_ne hne]
        exact hy

open Classical in
theorem RID.exec (hG : XOk G) (R : RunOk G ops π l st) (I : RID B m0 h0 w0 ops π st listed a w) {i : Nat} (hi : i ∈ Region.ready .any ops listed) (K : Act → World → Prop) (Q : Exit → Act → World → Prop)
    (hK : ∀ a' w', RID B m0 h0 w0 ops π st (listed.setIfInBounds i true) a' w' → K a' w') : wpOp G.P ops Q i K a w := by
  obtain ⟨hun, o, ho, hall⟩ := mem_ready.1 hi
  have hilt : i < ops.size := getElem?_lt ho
  have hni : ¬ Dn ops listed i := by
    rintro ⟨_, hd⟩
    rw [Array.getD_eq_getD_getElem?] at hun hd
    cases hq : listed[i]? with
    | none => rw [hq] at hd; cases hd
    | some b => rw [hq] at hun hd; simp at hun hd; rw [hun] at hd; cases hd
  have hpre : ∀ e ∈ o.after, Region.binds .any e = true → Dn ops listed e.on := fun e he hb => by
    have h1 := hall e he hb
    refine ⟨?_, h1⟩
    have hb' := R.ord.dir i o ho e he hb
    exact (R.ord.pos i hilt e.on hb').1
  have hbef : ∀ j, before (predsOf ops.toList) j i = true → Dn ops listed j := fun j hb => by
    obtain ⟨o', ho', e, he, hbe, hor⟩ := R.ord.step i hilt j hb
    rw [ho] at ho'
    cases ho'
    rcases hor with rfl | hb'
    · exact hpre e he hbe
    · exact before_dn R.ord I.closed _ e.on j (Nat.lt_succ_self _) (hpre e he hbe) hb'
  have haft : ∀ j, before (predsOf ops.toList) i j = true → ¬ Dn ops listed j := fun j hb hd => hni (before_dn R.ord I.closed _ j i (Nat.lt_succ_self _) hd hb)
  obtain ⟨hplt, hpi⟩ := R.ord.at_ hilt
  have hposl : ∀ j, before (predsOf ops.toList) j i = true → π.idxOf j < π.idxOf i := fun j hb => (R.ord.pos i hilt j hb).2
  have hposg : ∀ j, j < ops.size → before (predsOf ops.toList) i j = true → π.idxOf i < π.idxOf j := fun j hj hb => (R.ord.pos j hj i hb).2
  obtain ⟨m_, hp_, k_, I0⟩ := I.ex
  obtain ⟨m, hp, k, IX, hmax⟩ := RIX.bump R (ops.size - hp_) hp_ m_ k_ (Nat.le_refl _) I0
  have hslots := IX.slots
  have hst := IX.step
  have hhp := IX.le
  have hkl := IX.nul.len
  -- what is looked at
  have hlook : ∀ t, t ∈ looksAt ops o → VR m ((st (π.idxOf i)).sl.getD t (.c .any)) (a.tmps.getD t undef) ∧ (t < a.tmps.size ∨ (st (π.idxOf i)).sl.getD t (.c .any) = .c .any) := by
    intro t ht
    rcases Nat.lt_or_ge t (st 0).sl.length with hlt | hge
    · obtain ⟨v', hv'⟩ := SlotIs.has (ops := ops) (π := π) (st := st) (Dn ops listed) t
      have hv := R.slot (π.idxOf i) (Nat.le_of_lt hplt) t
      have hvv := SlotIs.agree R.ord (fun j o' ho' hdst => by
        by_cases hji : j = i
        · subst hji
          constructor
          · intro h; omega
          · intro h; exact absurd h hni
        · rcases R.ord.look i j o o' t (fun e => hji e.symm) ho ho' hdst ht with hb | hb
          · exact ⟨fun _ => hbef j hb, fun _ => hposl j hb⟩
          · have := hposg j (getElem?_lt ho') hb
            exact ⟨fun h => by omega, fun h => absurd h (haft j hb)⟩) hv hv'
      rw [hvv]
      obtain ⟨y, hy, hr⟩ := hslots t v' hv' hlt
      have hsz : t < a.tmps.size := by rw [← I.len]; exact hlt
      refine ⟨?_, .inl hsz⟩
      rw [Array.getD_eq_getD_getElem?, hy]
      exact hr
    · have : (st (π.idxOf i)).sl.getD t (.c .any) = .c .any := by
        rw [List.getD_eq_getElem?_getD, List.getElem?_eq_none (by rw [R.len _ (Nat.le_of_lt hplt)]; exact hge)]
        rfl
      rw [this]
      exact ⟨by simp [VR, CR], .inr rfl⟩
  have hops : OpsOk m (fun x => if x ∈ o.op.operands then evs (st (π.idxOf i)).sl x else .c .any) a.eval := by
    intro x
    show VR m (if x ∈ o.op.operands then evs (st (π.idxOf i)).sl x else .c .any) (a.eval x)
    by_cases hx : x ∈ o.op.operands
    · rw [if_pos hx]
      cases x with
      | tmp t =>
        refine (hlook t ?_).1
        unfold looksAt
        refine List.mem_append.2 (.inl (List.mem_filterMap.2 ⟨.tmp t, Array.mem_toList_iff.2 hx, rfl⟩))
      | const v => exact VR_ofConst m v
      | global g => exact rfl
      | func f => exact rfl
    · rw [if_neg hx]
      simp [VR, CR]
  have hguard : ∀ (g : Nat) (want : Bool) (t : Nat), o.guard = some (g, want) → (ops[g]?).bind (·.dst) = some t → t ∈ looksAt ops o := by
    intro g want t hg ht
    unfold looksAt
    rw [hg]
    refine List.mem_append.2 (.inr ?_)
    simp [ht]
  have hset : ∀ j, Dn ops (listed.setIfInBounds i true) j ↔ j = i ∨ Dn ops listed j := fun j => Dn.set I.size hilt
  -- whatever is quiet and is made in the order's first hp operations has told its block
  have hqlog : ∀ (q : Nat) oq, ops[q]? = some oq → isLight oq.op = false → isQuiet oq.op = true → ∀ id, id = (st (π.idxOf q)).h.length → (st (π.idxOf q + 1)).h.length = id + 1 → (q, id) ∈ l.quiets := by
    intro q oq hoq hl hq id hid hlen
    obtain ⟨oq', hoq', _, _, h3, _⟩ := (R.stp _ q (R.ord.at_ (getElem?_lt hoq)).2).heap
    rw [hoq] at hoq'
    cases hoq'
    rcases h3 hl hq with h4 | ⟨h4, _⟩
    · rw [h4] at hlen
      omega
    · rw [hid]
      exact h4
  have hlogok := R.log
  simp only [logOk, logOkP, Bool.and_eq_true] at hlogok
  obtain ⟨⟨hlog1, hlog2⟩, hlog3⟩ := hlogok
  -- a loud or quiet operation stands where it is awaited
  have hfirst : ∀ (j : Nat) oj, ops[j]? = some oj → Loud oj → π.idxOf j = hp → j ≠ i → before (predsOf ops.toList) j i = true → False := by
    intro j oj hoj hl hj hji hb
    have := (IX.loud j oj hoj hl).1 (hbef j hb)
    omega
  have hwhereQ : isLight o.op = false → isQuiet o.op = true → π.idxOf i < hp := by
    intro hl hq
    rcases Nat.lt_or_ge (π.idxOf i) hp with h1 | h1
    · exact h1
    · exfalso
      have hlt : hp < ops.size := by omega
      obtain ⟨j, hjl, hj, hjp⟩ := R.ord.of_pos hlt
      have hoj := Array.getElem?_eq_getElem hjl
      have hlj := hmax j _ hj hoj
      have hji : j ≠ i := by
        intro e
        subst e
        rw [ho] at hoj
        cases hoj
        rw [hlj.2] at hq
        cases hq
      have hne : π.idxOf j ≠ π.idxOf i := by
        intro e
        have h2 := (R.ord.at_ hjl).2
        rw [e, hpi] at h2
        cases h2
        exact hji rfl
      exact hfirst j _ hoj hlj hjp hji (R.ord.quiet i j o _ ho hoj hq hlj (by omega))
  have hwhereL : Loud o → π.idxOf i = hp := by
    intro hl
    have hge : hp ≤ π.idxOf i := by
      rcases Nat.lt_or_ge (π.idxOf i) hp with h1 | h1
      · exact absurd ((IX.loud i o ho hl).2 h1) hni
      · exact h1
    rcases Nat.lt_or_ge hp (π.idxOf i) with h1 | h1
    · exfalso
      have hlt : hp < ops.size := by omega
      obtain ⟨j, hjl, hj, hjp⟩ := R.ord.of_pos hlt
      have hoj := Array.getElem?_eq_getElem hjl
      have hlj := hmax j _ hj hoj
      have hji : j ≠ i := fun e => by subst e; omega
      rcases R.ord.heavy i j o _ (fun e => hji e.symm) ho hoj hl hlj with hb | hb
      · have := hposg j hjl hb
        omega
      · exact hfirst j _ hoj hlj hjp hji hb
    · omega
  -- what is not there yet, when no quiet one has been done
  have ntEq : (isLight o.op = true ∨ isQuiet o.op = false ∨ (st (π.idxOf i + 1)).h = (st (π.idxOf i)).h) → ∀ id, Nt ops π st (listed.setIfInBounds i true) hp id ↔ Nt ops π st listed hp id := by
    intro hor id
    constructor
    · rintro ⟨q, oq, h1, h2, h3, h4, h5, h6⟩
      exact ⟨q, oq, h1, h2, h3, h4, fun h => h5 ((hset q).2 (.inr h)), h6⟩
    · rintro ⟨q, oq, h1, h2, h3, h4, h5, h6, h7⟩
      refine ⟨q, oq, h1, h2, h3, h4, fun h => ?_, h6, h7⟩
      rcases (hset q).1 h with rfl | h
      · rw [ho] at h1
        cases h1
        rcases hor with e | e | e
        · rw [e] at h2; cases h2
        · rw [e] at h3; cases h3
        · rw [e] at h7; omega
      · exact h5 h
  have ntUp : Loud o → ∀ id, Nt ops π st (listed.setIfInBounds i true) (hp + 1) id ↔ Nt ops π st listed hp id := by
    intro hl id
    rw [← ntEq (.inr (.inl hl.2)) id]
    constructor
    · rintro ⟨q, oq, h1, h2, h3, h4, h5⟩
      refine ⟨q, oq, h1, h2, h3, ?_, h5⟩
      rcases Nat.lt_or_ge (π.idxOf q) hp with h6 | h6
      · exact h6
      · have h7 := (R.ord.at_ (getElem?_lt h1)).2
        rw [show π.idxOf q = π.idxOf i by rw [hwhereL hl]; omega, hpi] at h7
        cases h7
        rw [ho] at h1
        cases h1
        rw [hl.2] at h3
        cases h3
    · rintro ⟨q, oq, h1, h2, h3, h4, h5⟩
      exact ⟨q, oq, h1, h2, h3, by omega, h5⟩
  have loudSame : ¬ Loud o → ∀ (j : Nat) o', ops[j]? = some o' → Loud o' → (Dn ops (listed.setIfInBounds i true) j ↔ π.idxOf j < hp) := by
    intro hnl j o' ho' hl
    rw [hset, ← IX.loud j o' ho' hl]
    constructor
    · rintro (rfl | h)
      · rw [ho] at ho'; cases ho'; exact absurd hl hnl
      · exact h
    · exact .inr
  have loudUp : Loud o → ∀ (j : Nat) o', ops[j]? = some o' → Loud o' → (Dn ops (listed.setIfInBounds i true) j ↔ π.idxOf j < hp + 1) := by
    intro hlo j o' ho' hl
    rw [hset, IX.loud j o' ho' hl]
    constructor
    · rintro (rfl | h)
      · rw [hwhereL hlo]; omega
      · omega
    · intro h
      rcases Nat.lt_or_ge (π.idxOf j) hp with h6 | h6
      · exact .inr h6
      · left
        have h7 := (R.ord.at_ (getElem?_lt ho')).2
        rw [show π.idxOf j = π.idxOf i by rw [hwhereL hlo]; omega, hpi] at h7
        cases h7
        rfl
  have quietUp : ∀ hp', hp ≤ hp' → ∀ (j : Nat) o', ops[j]? = some o' → isLight o'.op = false → isQuiet o'.op = true → Dn ops (listed.setIfInBounds i true) j → π.idxOf j < hp' := by
    intro hp' hle j o' ho' hl hq hd
    rcases (hset j).1 hd with rfl | h
    · rw [ho] at ho'
      cases ho'
      have := hwhereQ hl hq
      omega
    · have := IX.quiet j o' ho' hl hq h
      omega
  obtain ⟨o', ho', hstep⟩ := R.stp _ i hpi
  rw [ho] at ho'
  cases ho'
  unfold wpOp
  simp only [ho]
  have hlen1 : (st (π.idxOf i)).sl.length = (st 0).sl.length := R.len _ (Nat.le_of_lt hplt)
  rcases hstep with ⟨hyes, he, hlog⟩ | ⟨hno, hsk⟩
  · -- it is carried out
    have hw : Region.wanted o (yielded ops a.tmps) = true := by
      unfold Yes at hyes
      cases hg : o.guard with
      | none => simp [Region.wanted, hg]
      | some gw =>
        obtain ⟨g, want⟩ := gw
        rw [hg] at hyes
        obtain ⟨t, ht, hv⟩ := hyes
        obtain ⟨hr, hor⟩ := hlook t (hguard g want t hg ht)
        rw [hv] at hr hor
        have hlt : t < a.tmps.size := by
          rcases hor with h | h
          · exact h
          · cases h
        have hr' : a.tmps.getD t undef = .bool want := hr
        have htm : a.tmps[t]? = some (.bool want) := by
          rw [Array.getD_eq_getD_getElem?, Array.getElem?_eq_getElem hlt] at hr'
          rw [Array.getElem?_eq_getElem hlt, ← hr']
          rfl
        simp [Region.wanted, hg, yielded, ht, htm]
    rw [if_pos hw]
    left
    rw [stepOp_def] at he
    split at he
    · -- it turns nothing
      rename_i hlo
      have hnl : ¬ Loud o := fun h => by rw [h.1] at hlo; cases hlo
      rw [Tr.eval_bind] at he
      cases h1 : (alight G.toCtx o (evs (st (π.idxOf i)).sl) (st (π.idxOf i)).h).eval with
      | none => simp [h1] at he
      | some v =>
        rw [h1] at he
        simp only [Option.bind_some, Tr.eval, Option.some.injEq] at he
        have hrl := hlog.2.1 hlo
        have hin : ∀ id, (id ∈ hardOf o (evs (st (π.idxOf i)).sl) ∨ id ∈ softOf o (evs (st (π.idxOf i)).sl)) → id < (st (π.idxOf i)).h.length := by
          intro id hid
          have := hlog.1
          unfold readsIn at this
          have := List.all_eq_true.1 this id (List.mem_append.2 hid)
          simpa using this
        have hnt : ∀ id, (id ∈ hardOf o (evs (st (π.idxOf i)).sl) ∨ id ∈ softOf o (evs (st (π.idxOf i)).sl)) → ¬ Nt ops π st listed hp id := by
          rintro id hid ⟨q, oq, q1, q2, q3, q4, q5, q6, q7⟩
          have hql := hqlog q oq q1 q2 q3 id q6 q7
          have h2 := List.all_eq_true.1 (List.all_eq_true.1 hlog2 _ hrl) _ hql
          simp only [Bool.or_eq_true, Bool.and_eq_true, Bool.not_eq_true'] at h2
          rcases h2 with h2 | ⟨h2, h3⟩
          · exact q5 (hbef q h2)
          · rcases hid with hid | hid
            · rw [show (hardOf o (evs (st (π.idxOf i)).sl)).contains id = true by simpa using hid] at h2
              cases h2
            · rw [show (softOf o (evs (st (π.idxOf i)).sl)).contains id = true by simpa using hid] at h3
              cases h3
        have hdis : ∀ (j : Nat) ws bs rc, (j, ws, bs, rc) ∈ l.louds → before (predsOf ops.toList) i j = false → before (predsOf ops.toList) j i = false →
            (∀ id ∈ hardOf o (evs (st (π.idxOf i)).sl), id ∉ ws) ∧ ∀ id ∈ softOf o (evs (st (π.idxOf i)).sl), id ∉ bs := by
          intro j ws bs rc hjw hb1 hb2
          have h3 := List.all_eq_true.1 (List.all_eq_true.1 hlog1 _ hrl) _ hjw
          simp only [hb1, hb2, Bool.false_or, Bool.and_eq_true] at h3
          refine ⟨fun id hid hmem => ?_, fun id hid hmem => ?_⟩
          · have h4 := List.all_eq_true.1 h3.1 id hid
            rw [show ws.contains id = true by simpa using hmem] at h4
            cases h4
          · have h4 := List.all_eq_true.1 h3.2 id hid
            rw [show bs.contains id = true by simpa using hmem] at h4
            cases h4
        have hunord : ∀ (q j : Nat) oj, π[q]? = some j → q < ops.size → ops[j]? = some oj → Loud oj → (π.idxOf i ≤ q ∧ q < hp ∨ hp ≤ q ∧ q < π.idxOf i) → before (predsOf ops.toList) i j = false ∧ before (predsOf ops.toList) j i = false := by
          intro q j oj hj hq hoj hlf hor
          have hqj : π.idxOf j = q := R.ord.at_pos hq hj
          have hjn : j < ops.size := getElem?_lt hoj
          constructor
          · cases hb : before (predsOf ops.toList) i j with
            | false => rfl
            | true =>
              have h5 := hposg j hjn hb
              rcases hor with ⟨h6, h7⟩ | ⟨h6, h7⟩
              · exact absurd ((IX.loud j oj hoj hlf).2 (by omega)) (haft j hb)
              · omega
          · cases hb : before (predsOf ops.toList) j i with
            | false => rfl
            | true =>
              have h5 := hposl j hb
              rcases hor with ⟨h6, h7⟩ | ⟨h6, h7⟩
              · omega
              · have := (IX.loud j oj hoj hlf).1 (hbef j hb)
                omega
        have hidk : ∀ id, (id ∈ hardOf o (evs (st (π.idxOf i)).sl) ∨ id ∈ softOf o (evs (st (π.idxOf i)).sl)) → id < (st hp).h.length := by
          intro id hid
          rw [← hkl, ← hst.hr.len]
          have : ∃ x ∈ o.op.operands, id ∈ refAV (evs (st (π.idxOf i)).sl x) := by
            rcases hid with hid | hid
            · unfold hardOf at hid
              split at hid
              · rename_i t x hop; exact ⟨x, by rw [hop]; simp [Op.operands], hid⟩
              · rename_i s d x hop; exact ⟨x, by rw [hop]; simp [Op.operands], hid⟩
              · cases hid
            · unfold softOf at hid
              split at hid
              · rename_i t x ix hop; exact ⟨x, by rw [hop]; simp [Op.operands], hid⟩
              · rename_i t x lo hi mx hop; exact ⟨x, by rw [hop]; simp [Op.operands], hid⟩
              · cases hid
          obtain ⟨x, hx, hidx⟩ := this
          have := hops x
          simp only [if_pos hx] at this
          exact VR.refs this id hidx
        have hhard : ∀ id ∈ hardOf o (evs (st (π.idxOf i)).sl), (st (π.idxOf i)).h.at id = k.at id := by
          intro id hid
          rw [IX.nul.at_ (hnt id (.inl hid))]
          unfold AHeap.at
          congr 1
          rcases Nat.le_total (π.idxOf i) hp with hle | hle
          · obtain ⟨d, hd⟩ := Nat.le.dest hle
            have := R.keep (π.idxOf i) id (hin id (.inl hid)) d (by omega) fun q h1 h2 j oj hj hoj hl ws bs rc hjw => by
              obtain ⟨b1, b2⟩ := hunord q j oj hj (by omega) hoj hl (.inl ⟨h1, by omega⟩)
              exact (hdis j ws bs rc hjw b1 b2).1 id hid
            rw [hd] at this
            exact this.symm
          · obtain ⟨d, hd⟩ := Nat.le.dest hle
            have := R.keep hp id (hidk id (.inl hid)) d (by omega) fun q h1 h2 j oj hj hoj hl ws bs rc hjw => by
              obtain ⟨b1, b2⟩ := hunord q j oj hj (by omega) hoj hl (.inr ⟨h1, by omega⟩)
              exact (hdis j ws bs rc hjw b1 b2).1 id hid
            rw [hd] at this
            exact this
        have hsoft : ∀ id ∈ softOf o (evs (st (π.idxOf i)).sl), shEq ((st (π.idxOf i)).h.at id) (k.at id) = true := by
          intro id hid
          rw [IX.nul.at_ (hnt id (.inr hid))]
          rcases Nat.le_total (π.idxOf i) hp with hle | hle
          · obtain ⟨d, hd⟩ := Nat.le.dest hle
            have := R.soft (π.idxOf i) id (hin id (.inr hid)) d (by omega) fun q h1 h2 j oj hj hoj hl ws bs rc hjw => by
              obtain ⟨b1, b2⟩ := hunord q j oj hj (by omega) hoj hl (.inl ⟨h1, by omega⟩)
              exact (hdis j ws bs rc hjw b1 b2).2 id hid
            rw [hd] at this
            exact this
          · obtain ⟨d, hd⟩ := Nat.le.dest hle
            have := R.soft hp id (hidk id (.inr hid)) d (by omega) fun q h1 h2 j oj hj hoj hl ws bs rc hjw => by
              obtain ⟨b1, b2⟩ := hunord q j oj hj (by omega) hoj hl (.inr ⟨h1, by omega⟩)
              exact (hdis j ws bs rc hjw b1 b2).2 id hid
            rw [hd] at this
            exact shEq_symm this
        have hcong := alight_congr (G := G.toCtx) (o := o) (ρ := evs (st (π.idxOf i)).sl) (ρ2 := fun x => if x ∈ o.op.operands then evs (st (π.idxOf i)).sl x else .c .any) (h := (st (π.idxOf i)).h) (h' := k) (fun x hx => by simp only [if_pos hx]) hhard hsoft
        rw [hcong] at h1
        obtain ⟨x, hr, hv⟩ := light_ok hG.g hG.f hops hst.hr h1
        unfold Oper.wp
        rw [hr]
        have hnt2 := ntEq (.inl hlo)
        refine hK _ _ (RIX.next R I ho hni hpre hhp (loudSame hnl) (quietUp hp (Nat.le_refl _)) ⟨IX.nul.len, fun id h => IX.nul.off id ((hnt2 id).1 h), fun id h => IX.nul.on id fun h' => h ((hnt2 id).2 h')⟩ (fun id h => IX.marks id ((hnt2 id).1 h)) hslots (fun _ _ h => h) hst fun t ht hlt => ?_)
        rw [← he, ht]
        simp only [putA, List.getD_eq_getElem?_getD]
        rw [List.getElem?_set_self (by rw [hlen1]; exact hlt)]
        exact hv
    · -- it makes or writes memory
      rename_i hlo
      have hlo' : isLight o.op = false := by simpa using hlo
      rw [Tr.eval_bind] at he
      cases h1 : (aheavy G o (evs (st (π.idxOf i)).sl) (st (π.idxOf i)).h).eval with
      | none => simp [h1] at he
      | some vh =>
        obtain ⟨v, h'⟩ := vh
        rw [h1] at he
        simp only [Option.bind_some, Tr.eval, Option.some.injEq] at he
        cases hq : isQuiet o.op with
        | true =>
          -- it makes a block, and looks at none
          have hnl : ¬ Loud o := fun h => by rw [h.2] at hq; cases hq
          have hpos := hwhereQ hlo' hq
          rw [aheavy_congr (ρ2 := fun x => if x ∈ o.op.operands then evs (st (π.idxOf i)).sl x else .c .any) (fun x hx => by simp only [if_pos hx])] at h1
          obtain ⟨b, mk, hh', hvmk, hform, hrefs⟩ := quiet_form hq h1
          generalize hid : (st (π.idxOf i)).h.length = id at hvmk
          have hup : (st (π.idxOf i + 1)).h = (st (π.idxOf i)).h ++ [some b] := by rw [← he, ← hh']
          have hupl : (st (π.idxOf i + 1)).h.length = id + 1 := by rw [hup]; simp [hid]
          have hNt : Nt ops π st listed hp id := ⟨i, o, ho, hlo', hq, hpos, hni, hid.symm, hupl⟩
          have hNt' : ∀ id', Nt ops π st (listed.setIfInBounds i true) hp id' ↔ Nt ops π st listed hp id' ∧ id' ≠ id := by
            intro id'
            constructor
            · rintro ⟨q, oq, q1, q2, q3, q4, q5, q6, q7⟩
              have hqi : q ≠ i := fun e => q5 ((hset q).2 (.inl e))
              refine ⟨⟨q, oq, q1, q2, q3, q4, fun h => q5 ((hset q).2 (.inr h)), q6, q7⟩, ?_⟩
              have hne : π.idxOf q ≠ π.idxOf i := by
                intro e
                have h2 := (R.ord.at_ (getElem?_lt q1)).2
                rw [e, hpi] at h2
                cases h2
                exact hqi rfl
              rcases Nat.lt_or_ge (π.idxOf q) (π.idxOf i) with h3 | h3
              · obtain ⟨d, hd⟩ := Nat.le.dest (show π.idxOf q + 1 ≤ π.idxOf i by omega)
                have := R.mono (π.idxOf q + 1) d (by omega)
                rw [hd] at this
                omega
              · obtain ⟨d, hd⟩ := Nat.le.dest (show π.idxOf i + 1 ≤ π.idxOf q by omega)
                have := R.mono (π.idxOf i + 1) d (by omega)
                rw [hd] at this
                omega
            · rintro ⟨⟨q, oq, q1, q2, q3, q4, q5, q6, q7⟩, hne⟩
              refine ⟨q, oq, q1, q2, q3, q4, fun h => ?_, q6, q7⟩
              rcases (hset q).1 h with rfl | h
              · exact hne (by rw [q6, hid])
              · exact q5 h
          have hlast : (st hp).h[id]? = some (some b) := by
            obtain ⟨d, hd⟩ := Nat.le.dest (show π.idxOf i + 1 ≤ hp by omega)
            have := R.keep (π.idxOf i + 1) id (by omega) d (by omega) fun q h1 h2 j oj hj hoj hl ws bs rc hjw => by
              have hqj : π.idxOf j = q := R.ord.at_pos (by omega) hj
              have h3 := List.all_eq_true.1 (List.all_eq_true.1 hlog3 _ hjw) _ (hqlog i o ho hlo' hq id hid.symm hupl)
              simp only [Bool.or_eq_true, Bool.and_eq_true, Bool.not_eq_true'] at h3
              intro hmem
              rcases h3 with h3 | h3
              · exact haft j h3 ((IX.loud j oj hoj hl).2 (by omega))
              · rw [show ws.contains id = true by simpa using hmem] at h3
                cases h3.1
            rw [hd] at this
            rw [this, hup, ← hid]
            simp
          refine quiet_put hG hops hst.hr (Nat.le_trans I.hB hst.fr.size) (hform k) hrefs (IX.nul.off id hNt) (IX.marks id hNt) K Q fun p x w' hHR hExt hFr hOwn hv => ?_
          refine hK _ _ (RIX.next R I ho hni hpre hhp (loudSame hnl) (quietUp hp (Nat.le_refl _)) ⟨by simp [hkl], fun id' h => ?_, fun id' h => ?_⟩ (fun id' h => ?_) hslots (fun v y hvy => VR.imp (fun c y h => CR.extM hExt h) hvy) ⟨?_, hHR, hst.fr.trans hFr fun q hq => hst.own q hq, fun q hq => ?_⟩ fun t ht hlt => ?_)
          · obtain ⟨h2, h3⟩ := (hNt' id').1 h
            rw [List.getElem?_set_ne (fun e => h3 e.symm)]
            exact IX.nul.off id' h2
          · by_cases e : id' = id
            · subst e
              rw [hlast, List.getElem?_set_self (by rw [hkl]; exact (List.getElem?_eq_some_iff.1 hlast).1)]
            · rw [List.getElem?_set_ne (fun e' => e e'.symm)]
              exact IX.nul.on id' fun h' => h ((hNt' id').2 ⟨h', e⟩)
          · obtain ⟨h2, h3⟩ := (hNt' id').1 h
            rw [List.getElem?_set_ne (fun e => h3 e.symm)]
            exact IX.marks id' h2
          · intro q p' hp'
            have hlt : q < m0.length := (List.getElem?_eq_some_iff.1 hp').1
            have hlow := I.low
            have h0 := R.mono 0 (π.idxOf i) (by omega)
            rw [Nat.zero_add] at h0
            rw [List.getElem?_set_ne (by omega)]
            exact hst.ext q p' hp'
          · rcases hOwn q hq with h2 | h2
            · exact hst.own q h2
            · exact .inr (Nat.le_trans hst.fr.size h2)
          · rw [← he, ht]
            simp only [putA, List.getD_eq_getElem?_getD]
            rw [List.getElem?_set_self (by rw [hlen1]; exact hlt), hvmk]
            exact hv
        | false =>
          have hl : Loud o := ⟨hlo', hq⟩
          have hpe := hwhereL hl
          have hnt : ∀ id ∈ reachOf o (evs (st (π.idxOf i)).sl) (st (π.idxOf i)).h, ¬ Nt ops π st listed hp id := by
            rintro id hid ⟨q, oq, q1, q2, q3, q4, q5, q6, q7⟩
            have hql := hqlog q oq q1 q2 q3 id q6 q7
            obtain ⟨_, _, hlg⟩ := hlog.2.2.2 hl
            have h2 := List.all_eq_true.1 (List.all_eq_true.1 hlog3 _ hlg) _ hql
            simp only [Bool.or_eq_true, Bool.and_eq_true, Bool.not_eq_true'] at h2
            rcases h2 with h2 | ⟨_, h2⟩
            · exact q5 (hbef q h2)
            · rw [show (reachOf o (evs (st (π.idxOf i)).sl) (st (π.idxOf i)).h).contains id = true by simpa using hid] at h2
              cases h2
          have hN : Nul (Nt ops π st listed hp) (st (π.idxOf i)).h k := by rw [hpe]; exact IX.nul
          obtain ⟨k', h2, hN'⟩ := aheavy_nul hN hq hnt h1
          rw [aheavy_congr (ρ2 := fun x => if x ∈ o.op.operands then evs (st (π.idxOf i)).sl x else .c .any) (fun x hx => by simp only [if_pos hx])] at h2
          have hh' : (st (hp + 1)).h = h' := by rw [← hpe, ← he]
          have hnu := ntUp hl
          refine heavy_ok hG hops hst.hr (Nat.le_trans I.hB hst.fr.size) h2 K Q fun m' x w' hst' hv => ?_
          refine hK _ _ (RIX.next R I ho hni hpre (hp' := hp + 1) (by omega) (loudUp hl) (quietUp (hp + 1) (Nat.le_succ _)) ⟨by rw [hh']; exact hN'.len, fun id h => hN'.off id ((hnu id).1 h), fun id h => by rw [hh']; exact hN'.on id fun h' => h ((hnu id).2 h')⟩
            (fun id h => hst'.ext _ _ (IX.marks id ((hnu id).1 h))) hslots (fun _ _ h => VR.ext hst'.ext h) (hst.trans hst') fun t ht hlt => ?_)
          rw [← he, ht]
          simp only [putA, List.getD_eq_getElem?_getD]
          rw [List.getElem?_set_self (by rw [hlen1]; exact hlt)]
          exact hv
  · -- it is not
    have hw : Region.wanted o (yielded ops a.tmps) = false := by
      unfold No at hno
      cases hg : o.guard with
      | none => rw [hg] at hno; cases hno
      | some gw =>
        obtain ⟨g, want⟩ := gw
        rw [hg] at hno
        obtain ⟨t, ht, hv⟩ := hno
        obtain ⟨hr, hor⟩ := hlook t (hguard g want t hg ht)
        have hlt : t < a.tmps.size := by
          rcases hor with h | h
          · exact h
          · rcases hv with hv | ⟨vs, hv⟩ <;> rw [hv] at h <;> cases h
        have hex : ∀ y, a.tmps.getD t undef = y → a.tmps[t]? = some y := fun y hy => by
          rw [Array.getD_eq_getD_getElem?, Array.getElem?_eq_getElem hlt] at hy
          rw [Array.getElem?_eq_getElem hlt, ← hy]
          rfl
        rcases hv with hv | ⟨vs, hv⟩
        · rw [hv] at hr
          have htm := hex _ (show a.tmps.getD t undef = .bool (!want) from hr)
          simp only [Region.wanted, hg, yielded, ht, htm, Option.bind_some]
          cases want <;> rfl
        · rw [hv] at hr
          have htm := hex _ (show a.tmps.getD t undef = .tuple vs from hr)
          simp only [Region.wanted, hg, yielded, ht, htm, Option.bind_some]
          rfl
    rw [if_neg (by rw [hw]; simp)]
    have hsame : (st (π.idxOf i + 1)).h = (st (π.idxOf i)).h := by rw [hsk]; rfl
    have hres : ∀ t, o.dst = some t → t < (st 0).sl.length → VR m ((st (π.idxOf i + 1)).sl.getD t (.c .any)) undef := by
      intro t ht hlt
      rw [hsk]
      simp only [skipOp, ht, putA, List.getD_eq_getElem?_getD]
      rw [List.getElem?_set_self (by rw [hlen1]; exact hlt)]
      exact (rfl : CR m (.v undef) undef)
    by_cases hl : Loud o
    · have hpe := hwhereL hl
      have hnu := ntUp hl
      have hh' : (st (hp + 1)).h = (st hp).h := by rw [← hpe]; exact hsame
      exact hK _ _ (RIX.next R I ho hni hpre (hp' := hp + 1) (by omega) (loudUp hl) (quietUp (hp + 1) (Nat.le_succ _)) ⟨by rw [hh']; exact IX.nul.len, fun id h => IX.nul.off id ((hnu id).1 h), fun id h => by rw [hh']; exact IX.nul.on id fun h' => h ((hnu id).2 h')⟩
        (fun id h => IX.marks id ((hnu id).1 h)) hslots (fun _ _ h => h) hst hres)
    · have hnt2 := ntEq (.inr (.inr hsame))
      exact hK _ _ (RIX.next R I ho hni hpre hhp (loudSame hl) (quietUp hp (Nat.le_refl _)) ⟨IX.nul.len, fun id h => IX.nul.off id ((hnt2 id).1 h), fun id h => IX.nul.on id fun h' => h ((hnt2 id).2 h')⟩ (fun id h => IX.marks id ((hnt2 id).1 h)) hslots (fun _ _ h => h) hst hres)
end
end
section
open Go Go.RowKit

section
variable {G : Ctx2} {ops : Array Oper} {π : List Nat} {l : Log} {st : Nat → St} {m m0 : List Pl} {h0 : AHeap} {w w0 : World} {B : Nat} {a : Act} {listed : Array Bool}

theorem all_dn (R : RunOk G ops π l st) (hsz : listed.size = ops.size) (hr : Region.ready .any ops listed = []) : ∀ (k i : Nat), π.idxOf i < k → i < ops.size → Dn ops listed i
  | 0, i, hk, _ => by omega
  | k + 1, i, hk, hi => by
    by_cases hd : Dn ops listed i
    · exact hd
    · exfalso
      have ho := Array.getElem?_eq_getElem hi
      have hm : i ∈ Region.ready .any ops listed := by
        refine mem_ready.2 ⟨?_, _, ho, fun e he hb => ?_⟩
        · have hl : i < listed.size := by omega
          have hn : ¬ listed.getD i false = true := fun e => hd ⟨hi, e⟩
          rw [Array.getD_eq_getD_getElem?, Array.getElem?_eq_getElem hl] at hn ⊢
          simpa using hn
        · have hb' := R.ord.dir i _ ho e he hb
          obtain ⟨h1, h2⟩ := R.ord.pos i hi e.on hb'
          exact (all_dn R hsz hr k e.on (by omega) h1).2
      rw [hr] at hm
      cases hm

theorem RID.done (R : RunOk G ops π l st) (I : RID B m0 h0 w0 ops π st listed a w) (hr : Region.ready .any ops listed = []) : RI B m0 h0 w0 (st ops.size) a w := by
  have hall : ∀ i, i < ops.size → Dn ops listed i := fun i hi => all_dn R I.size hr _ i (Nat.lt_succ_self _) hi
  obtain ⟨m_, hp_, k_, I0⟩ := I.ex
  obtain ⟨m, hp, k, IX, hmax⟩ := RIX.bump R (ops.size - hp_) hp_ m_ k_ (Nat.le_refl _) I0
  have hend : hp = ops.size := by
    rcases Nat.lt_or_ge hp ops.size with hlt | hge
    · exfalso
      obtain ⟨j, hjl, hj, hjp⟩ := R.ord.of_pos hlt
      have hoj := Array.getElem?_eq_getElem hjl
      have := (IX.loud j _ hoj (hmax j _ hj hoj)).1 (hall j hjl)
      omega
    · exact Nat.le_antisymm IX.le hge
  have hh : (st ops.size).h = k := by
    apply List.ext_getElem?
    intro id
    rw [← hend]
    refine (IX.nul.on id ?_).symm
    rintro ⟨q, oq, q1, _, _, _, q5, _⟩
    exact q5 (hall q (getElem?_lt q1))
  refine ⟨I.hB, ⟨m, by rw [hh]; exact IX.step, ?_, ?_⟩, I.def_⟩
  · rw [R.len _ (Nat.le_refl _), I.len]
  · intro t v hv
    have hlt : t < (st 0).sl.length := by
      rw [← R.len _ (Nat.le_refl _)]
      exact (List.getElem?_eq_some_iff.1 hv).1
    refine IX.slots t v ?_ hlt
    have h1 := R.slot ops.size (Nat.le_refl _) t
    rw [List.getD_eq_getElem?_getD, hv] at h1
    simp only [Option.getD_some] at h1
    rcases h1 with ⟨j, o, _, ho, hd, e⟩ | ⟨hn, e⟩
    · exact .inl ⟨j, o, hall j (getElem?_lt ho), ho, hd, e⟩
    · exact .inr ⟨fun j o _ ho => hn j o (R.ord.at_ (getElem?_lt ho)).1 ho, e⟩

def openL (n : Nat) (listed : Array Bool) : List Nat := (List.range n).filter fun i => !listed.getD i false

theorem openL_set {n i : Nat} (hs : listed.size = n) (hi : i < n) (hu : listed.getD i false = false) : (openL n (listed.setIfInBounds i true)).length < (openL n listed).length := by
  have e : openL n (listed.setIfInBounds i true) = (openL n listed).filter fun j => j != i := by
    unfold openL
    rw [List.filter_filter]
    apply List.filter_congr
    intro j hj
    have hil : i < listed.size := by omega
    have := getD_set (listed := listed) (i := i) (j := j) hil
    by_cases hji : j = i
    · subst hji
      simp [this, hil]
    cases h1 : (listed.setIfInBounds i true).getD j false <;> cases h2 : listed.getD j false <;> simp [h1, h2, hji] at this ⊢
  rw [e]
  refine List.length_filter_lt_length_iff_exists.2 ⟨i, List.mem_filter.2 ⟨List.mem_range.2 hi, by rw [hu]; rfl⟩, by simp⟩

theorem any_ok (hG : XOk G) (R : RunOk G ops π l st) (Q : Exit → Act → World → Prop) (hQ : ∀ a' w', RI B m0 h0 w0 (st ops.size) a' w' → Q .normal a' w') :
    ∀ (fuel : Nat) (listed : Array Bool) (a : Act) (w : World), RID B m0 h0 w0 ops π st listed a w → (openL ops.size listed).length ≤ fuel → wpAny G.P .any ops Q fuel listed a w
  | 0, listed, a, w, I, hf => by
    have hr : Region.ready .any ops listed = [] := by
      apply List.eq_nil_iff_forall_not_mem.2
      intro i hi
      obtain ⟨hun, o, ho, _⟩ := mem_ready.1 hi
      have hilt : i < ops.size := getElem?_lt ho
      have : i ∈ openL ops.size listed := List.mem_filter.2 ⟨List.mem_range.2 hilt, by
        have hl : i < listed.size := by rw [I.size]; exact hilt
        rw [Array.getD_eq_getD_getElem?, Array.getElem?_eq_getElem hl] at hun ⊢
        simpa using hun⟩
      rw [List.eq_nil_of_length_eq_zero (Nat.le_zero.1 hf)] at this
      cases this
    exact ⟨hr, hQ _ _ (I.done R hr)⟩
  | fuel + 1, listed, a, w, I, hf => by
    refine ⟨fun hr => hQ _ _ (I.done R hr), fun i hi => ?_⟩
    refine RID.exec hG R I hi _ Q fun a' w' I' => any_ok hG R Q hQ fuel _ a' w' I' ?_
    obtain ⟨hun, o, ho, _⟩ := mem_ready.1 hi
    have hilt : i < ops.size := getElem?_lt ho
    have hl : i < listed.size := by rw [I.size]; exact hilt
    have hu : listed.getD i false = false := by
      rw [Array.getD_eq_getD_getElem?, Array.getElem?_eq_getElem hl] at hun ⊢
      simpa using hun
    have := openL_set I.size hilt hu
    omega

theorem regDraw_ok {S S' : St} {id : Nat} (hG : XOk G) (hI : RI B m0 h0 w0 S a w) (he : (regDraw G ops S).eval = some S') (Q : Exit → Act → World → Prop) (hQ : ∀ a' w', RI B m0 h0 w0 S' a' w' → Q .normal a' w') : (Code.region id ops true).wp G.P Q a w := by
  rw [regDraw_def] at he
  split at he
  · rename_i hord
    rw [Tr.eval_bind] at he
    cases h1 : (regRun G ops (eager ops) S ⟨[], [], []⟩).eval with
    | none => simp [h1] at he
    | some r =>
      obtain ⟨S1, l⟩ := r
      rw [h1] at he
      simp only [Option.bind_some] at he
      split at he
      · rename_i hlog
        simp only [Tr.eval, Option.some.injEq] at he
        subst he
        have ho := orderOk_ok hord
        obtain ⟨st, e0, en, hst⟩ := (regRun_ok _ _ _ _ _ h1).2.states
        rw [ho.len] at en
        have R : RunOk G ops (eager ops) l st := ⟨ho, hst, hlog⟩
        refine wp_region_any hG.mixed ?_
        obtain ⟨m, hst0, hsl⟩ := hI.ex
        have hnone : ∀ j, ¬ Dn ops (Array.replicate ops.size false) j := by
          rintro j ⟨hj, hd⟩
          rw [Array.getD_eq_getD_getElem?, Array.getElem?_replicate] at hd
          simp [hj] at hd
        have hst1 : Step B m h0 w0 m h0 w0 → True := fun _ => trivial
        refine any_ok hG R Q (fun a' w' h => hQ a' w' (by rw [← en]; exact h)) ops.size _ _ _ (?_ : RID B m0 h0 w0 ops (eager ops) st _ a { w with drawn := w.drawn + 1 }) ?_
        · have hnt : ∀ id, ¬ Nt ops (eager ops) st (Array.replicate ops.size false) 0 id := fun id ⟨q, _, _, _, _, h, _⟩ => absurd h (Nat.not_lt_zero _)
          refine { hB := hI.hB, def_ := hI.def_, size := by simp, closed := fun j o _ hd => absurd hd (hnone j), len := by rw [e0]; exact hsl.1, low := ?_, ex := ⟨m, 0, S.h, ⟨Nat.zero_le _, fun j o _ _ => ⟨fun h => absurd h (hnone j), fun h => by omega⟩, fun j o _ _ _ h => absurd h (hnone j), ⟨by rw [e0], fun id h => absurd h (hnt id), fun id _ => by rw [e0]⟩, fun id h => absurd h (hnt id), ?_, ?_⟩⟩ }
          · rw [e0, ← hst0.hr.len]
            rcases Nat.eq_zero_or_pos m0.length with hz | hz
            · omega
            · have hlt : m0.length - 1 < m0.length := by omega
              have := (List.getElem?_eq_some_iff.1 (hst0.ext _ _ (List.getElem?_eq_getElem hlt))).1
              omega
          · exact ⟨hst0.ext, hst0.hr.keep fun k _ => rfl, hst0.fr.trans (Fr.drew _ w) fun i hi => .inl hi, fun k hk => hst0.own k hk⟩
          · intro t v hv hlt
            rcases hv with ⟨j, o, hj, _⟩ | ⟨_, rfl⟩
            · exact absurd hj (hnone j)
            · rw [e0] at hlt ⊢
              rw [List.getD_eq_getElem?_getD, List.getElem?_eq_getElem hlt]
              exact hsl.2 t _ (List.getElem?_eq_getElem hlt)
        · unfold openL
          refine Nat.le_trans (List.length_filter_le _ _) ?_
          simp
      · cases he
  · cases he
end
end
end Go.Proofs.Ytcpahifgdppkbaa.QAI
