/- What the tests of a region's order say. -/
import Derived.Test.YtcpahifgdppkbaaAO
set_option linter.unusedVariables false
set_option linter.unusedSimpArgs false
namespace Go.Proofs.Ytcpahifgdppkbaa.QAI
open Go Go.RowKit

theorem pkAt_bit (w D y b : Nat) : (pkAt w D y).testBit b = (decide (b < w) && D.testBit (w * y + b)) := by
  simp [pkAt, Nat.testBit_mod_two_pow, Nat.testBit_shiftRight]
theorem pk_insert {w D y0 v : Nat} {f : Nat → Nat} (h : ∀ y, pkAt w D y = f y) (h0 : f y0 = 0) (hv : v < 2 ^ w) : ∀ y, pkAt w (D ||| (v <<< (w * y0))) y = if y = y0 then v else f y := by
  intro y
  apply Nat.eq_of_testBit_eq
  intro b
  rw [pkAt_bit, Nat.testBit_or, Nat.testBit_shiftLeft]
  have hy : (decide (b < w) && D.testBit (w * y + b)) = (f y).testBit b := by rw [← pkAt_bit, h]
  by_cases hb : b < w
  · by_cases e : y = y0
    · subst e
      rw [h0, Nat.zero_testBit] at hy
      simp only [hb, decide_true, Bool.true_and] at hy
      simp [hb, hy]
    · simp only [e, if_false, ← hy, hb, decide_true, Bool.true_and]
      have : (decide (w * y0 ≤ w * y + b) && v.testBit (w * y + b - w * y0)) = false := by
        rcases Nat.lt_or_gt_of_ne e with h1 | h1
        · have h2 : w * (y + 1) ≤ w * y0 := Nat.mul_le_mul_left _ h1
          rw [Nat.mul_add, Nat.mul_one] at h2
          have : ¬ w * y0 ≤ w * y + b := by omega
          simp [this]
        · have h2 : w * (y0 + 1) ≤ w * y := Nat.mul_le_mul_left _ h1
          rw [Nat.mul_add, Nat.mul_one] at h2
          have h3 : v < 2 ^ (w * y + b - w * y0) := Nat.lt_of_lt_of_le hv (Nat.pow_le_pow_right (by decide) (by omega))
          rw [Nat.testBit_lt_two_pow h3]
          simp
      rw [this, Bool.or_false]
  · simp only [hb, decide_false, Bool.false_and] at hy ⊢
    by_cases e : y = y0
    · simp only [e, if_true]
      exact (Nat.testBit_lt_two_pow (Nat.lt_of_lt_of_le hv (Nat.pow_le_pow_right (by decide) (by omega)))).symm
    · simp only [e, if_false]
      exact hy

theorem edgeFold_bit (f : Nat → Nat) (i : Nat) : ∀ (l : List Edge) (s : Nat), (l.foldl (fun s e => if Region.binds .any e then s ||| (1 <<< e.on) ||| f e.on else s) s).testBit i = true ↔
    s.testBit i = true ∨ ∃ e ∈ l, Region.binds .any e = true ∧ (e.on = i ∨ (f e.on).testBit i = true)
  | [], s => by simp
  | e :: l, s => by
    rw [List.foldl_cons, edgeFold_bit f i l]
    by_cases hb : Region.binds .any e = true
    · simp only [hb, if_true, Nat.testBit_or, Bool.or_eq_true, Nat.one_shiftLeft, Nat.testBit_two_pow, decide_eq_true_eq]
      constructor
      · rintro (((h | h) | h) | ⟨e', h1, h2⟩)
        · exact .inl h
        · exact .inr ⟨e, by simp, hb, .inl h⟩
        · exact .inr ⟨e, by simp, hb, .inr h⟩
        · exact .inr ⟨e', by simp [h1], h2⟩
      · rintro (h | ⟨e', h1, h2, h3⟩)
        · exact .inl (.inl (.inl h))
        · rcases List.mem_cons.1 h1 with rfl | h1
          · rcases h3 with h3 | h3
            · exact .inl (.inl (.inr h3))
            · exact .inl (.inr h3)
          · exact .inr ⟨e', h1, h2, h3⟩
    · simp only [hb, Bool.false_eq_true, if_false]
      constructor
      · rintro (h | ⟨e', h1, h2⟩)
        · exact .inl h
        · exact .inr ⟨e', by simp [h1], h2⟩
      · rintro (h | ⟨e', h1, h2, h3⟩)
        · exact .inl h
        · rcases List.mem_cons.1 h1 with rfl | h1
          · exact absurd h2 hb
          · exact .inr ⟨e', h1, h2, h3⟩
theorem edgeMask_bit (f : Nat → Nat) (o : Oper) (i : Nat) : (edgeMask f o).testBit i = true ↔ ∃ e ∈ o.after, Region.binds .any e = true ∧ (e.on = i ∨ (f e.on).testBit i = true) := by
  unfold edgeMask
  rw [edgeFold_bit]
  simp
theorem edgeMask_congr {f g : Nat → Nat} {o : Oper} (h : ∀ e ∈ o.after, Region.binds .any e = true → f e.on = g e.on) : edgeMask f o = edgeMask g o := by
  apply Nat.eq_of_testBit_eq
  intro i
  rw [Bool.eq_iff_iff, edgeMask_bit, edgeMask_bit]
  constructor
  · rintro ⟨e, h1, h2, h3⟩; exact ⟨e, h1, h2, by rwa [← h e h1 h2]⟩
  · rintro ⟨e, h1, h2, h3⟩; exact ⟨e, h1, h2, by rwa [h e h1 h2]⟩

theorem predsGo_get {n : Nat} : ∀ (l : List Oper) (Q : List Nat) (acc : Nat), (∀ y, pkAt n acc y = Q.getD y 0) → (∀ m ∈ predsGo n l Q.length acc, m < 2 ^ n) →
    (predsGo n l Q.length acc).length = l.length ∧ ∀ (k : Nat) o m, l[k]? = some o → (predsGo n l Q.length acc)[k]? = some m → m = edgeMask (fun y => (Q ++ (predsGo n l Q.length acc).take k).getD y 0) o
  | [], Q, acc, _, _ => ⟨rfl, fun k o m h => by simp at h⟩
  | o :: l, Q, acc, h, hb => by
    simp only [predsGo, natL_eq] at hb ⊢
    generalize hm : edgeMask (pkAt n acc) o = m at hb ⊢
    have hmb : m < 2 ^ n := hb m (by simp)
    have hQ : (Q ++ [m]).length = Q.length + 1 := by simp
    have hins := pk_insert h (y0 := Q.length) (v := m) (by simp) hmb
    have hg : ∀ y, pkAt n (acc ||| m <<< (n * Q.length)) y = (Q ++ [m]).getD y 0 := by
      intro y
      rw [hins y]
      by_cases e : y = Q.length
      · subst e; simp
      · simp only [e, if_false, List.getD_eq_getElem?_getD]
        rcases Nat.lt_or_ge y Q.length with h1 | h1
        · rw [List.getElem?_append_left h1]
        · rw [List.getElem?_eq_none h1, List.getElem?_eq_none (by simp; omega)]
    have ih := predsGo_get l (Q ++ [m]) _ hg (by rw [hQ]; exact fun x hx => hb x (by simp [hx]))
    rw [hQ] at ih
    obtain ⟨ih1, ih2⟩ := ih
    refine ⟨by simp [ih1], fun k o' m' ho' hm' => ?_⟩
    cases k with
    | zero =>
      simp only [List.getElem?_cons_zero, Option.some.injEq] at ho' hm'
      subst ho'
      subst hm'
      rw [← hm]
      exact edgeMask_congr fun e _ _ => by rw [h]; simp
    | succ k =>
      have := ih2 k o' m' (by simpa using ho') (by simpa using hm')
      rw [this]
      exact edgeMask_congr fun e _ _ => by simp

theorem backOk_get : ∀ (P : List Nat) (k : Nat), backOk P k = true → ∀ (j m : Nat), P[j]? = some m → m < 2 ^ (k + j)
  | [], _, _, j, m, h => by simp at h
  | x :: P, k, h, j, m, hj => by
    simp only [backOk, Bool.and_eq_true] at h
    cases j with
    | zero =>
      simp only [List.getElem?_cons_zero, Option.some.injEq] at hj
      subst hj
      simpa [Nat.blt_eq] using h.1
    | succ j =>
      have := backOk_get P (k + 1) h.2 j m (by simpa using hj)
      rwa [show k + (j + 1) = k + 1 + j by omega]

theorem preds_get {ops : Array Oper} (h : backOk (predsOf ops.toList) 0 = true) : (predsOf ops.toList).length = ops.size ∧ ∀ (j : Nat) o, ops[j]? = some o →
    (predsOf ops.toList).getD j 0 = edgeMask (fun y => (predsOf ops.toList).getD y 0) o ∧ (predsOf ops.toList).getD j 0 < 2 ^ j := by
  have hP : predsOf ops.toList = predsGo ops.size ops.toList 0 0 := by unfold predsOf; rw [natL_eq]; simp
  have hlen0 : (predsGo ops.size ops.toList 0 0).length ≤ ops.size := by
    have : ∀ (l : List Oper) (j acc : Nat), (predsGo ops.size l j acc).length = l.length := by
      intro l
      induction l with
      | nil => intro j acc; rfl
      | cons o l ih => intro j acc; simp only [predsGo, natL_eq, List.length_cons, ih]
    rw [this]
    simp
  have hb := backOk_get _ _ h
  have hall : ∀ m ∈ predsGo ops.size ops.toList 0 0, m < 2 ^ ops.size := by
    intro m hm
    obtain ⟨j, hj⟩ := List.getElem?_of_mem hm
    have h1 := hb j m (by rw [hP]; exact hj)
    have h2 := (List.getElem?_eq_some_iff.1 hj).1
    exact Nat.lt_of_lt_of_le h1 (Nat.pow_le_pow_right (by decide) (by omega))
  obtain ⟨h1, h2⟩ := predsGo_get (n := ops.size) ops.toList [] 0 (fun y => by simp [pkAt]) hall
  simp only [List.length_nil, List.nil_append] at h1 h2
  rw [hP]
  refine ⟨by rw [h1]; simp, fun j o ho => ?_⟩
  have hj : j < (predsGo ops.size ops.toList 0 0).length := by rw [h1]; simpa using (Array.getElem?_eq_some_iff.1 ho).1
  have hg := List.getElem?_eq_getElem hj
  have e1 : (predsGo ops.size ops.toList 0 0).getD j 0 = (predsGo ops.size ops.toList 0 0)[j] := by rw [List.getD_eq_getElem?_getD, hg]; rfl
  have hlt : (predsGo ops.size ops.toList 0 0)[j] < 2 ^ j := by
    have := hb j _ (by rw [hP]; exact hg)
    rwa [Nat.zero_add] at this
  refine ⟨?_, by rw [e1]; exact hlt⟩
  rw [e1]
  have h3 := h2 j o _ (by simpa using ho) hg
  rw [h3] at hlt ⊢
  refine edgeMask_congr fun e he hbe => ?_
  have hbit := (edgeMask_bit (fun y => ((predsGo ops.size ops.toList 0 0).take j).getD y 0) o e.on).2 ⟨e, he, hbe, .inl rfl⟩
  have hon : e.on < j := by
    rcases Nat.lt_or_ge e.on j with h4 | h4
    · exact h4
    · rw [Nat.testBit_lt_two_pow (Nat.lt_of_lt_of_le hlt (Nat.pow_le_pow_right (by decide) h4))] at hbit
      cases hbit
  simp only [List.getD_eq_getElem?_getD, List.getElem?_take, hon, if_true]

theorem walkPi_ok {P : List Nat} {lm qm n : Nat} : ∀ (l : List Nat) (acc : Nat), walkPi P lm qm n l acc = true →
    (∀ q ∈ l, q < n ∧ acc.testBit q = false) ∧ l.Nodup ∧ (∀ i, i < n → acc.testBit i = true ∨ i ∈ l) ∧
    ∀ (p q : Nat), l[p]? = some q → (∀ i, (P.getD q 0).testBit i = true → acc.testBit i = true ∨ ∃ p', p' < p ∧ l[p']? = some i) ∧
      (qm.testBit q = true → ∀ j, lm.testBit j = true → (acc.testBit j = true ∨ ∃ p', p' < p ∧ l[p']? = some j) → (P.getD q 0).testBit j = true)
  | [], acc, h => by
    have he := Nat.eq_of_beq_eq_true h
    refine ⟨by simp, .nil, fun i hi => .inl ?_, fun p q hq => by simp at hq⟩
    rw [he, Nat.testBit_two_pow_sub_one]
    simpa using hi
  | q :: l, acc, h => by
    simp only [walkPi, natL_eq, Bool.and_eq_true] at h
    obtain ⟨⟨⟨⟨h1, h2⟩, h3⟩, h4⟩, h5⟩ := h
    obtain ⟨a1, a2, a3, a4⟩ := walkPi_ok l _ h5
    have hbit : ∀ i, (acc ||| 1 <<< q).testBit i = true ↔ acc.testBit i = true ∨ q = i := fun i => by
      rw [Nat.testBit_or, Nat.one_shiftLeft, Nat.testBit_two_pow]
      simp
    have hq2 : acc.testBit q = false := by simpa using h2
    have hm : ∀ i, (P.getD q 0).testBit i = true → acc.testBit i = true := fun i hi => by
      have e := Nat.eq_of_beq_eq_true h3
      rw [← e, Nat.testBit_and, Bool.and_eq_true] at hi
      exact hi.2
    refine ⟨?_, ?_, ?_, ?_⟩
    · intro x hx
      rcases List.mem_cons.1 hx with rfl | hx
      · exact ⟨by simpa [Nat.blt_eq] using h1, hq2⟩
      · obtain ⟨b1, b2⟩ := a1 x hx
        refine ⟨b1, ?_⟩
        cases e : acc.testBit x with
        | false => rfl
        | true => rw [(hbit x).2 (.inl e)] at b2; cases b2
    · refine List.nodup_cons.2 ⟨fun hx => ?_, a2⟩
      have := (a1 q hx).2
      rw [(hbit q).2 (.inr rfl)] at this
      cases this
    · intro i hi
      rcases a3 i hi with h6 | h6
      · rcases (hbit i).1 h6 with h7 | h7
        · exact .inl h7
        · exact .inr (by simp [h7])
      · exact .inr (by simp [h6])
    · intro p x hx
      cases p with
      | zero =>
        simp only [List.getElem?_cons_zero, Option.some.injEq] at hx
        subst hx
        refine ⟨fun i hi => .inl (hm i hi), fun hqm j hj hor => ?_⟩
        rcases hor with h6 | ⟨p', h6, _⟩
        · rw [hqm] at h4
          simp only [Bool.not_true, Bool.false_or] at h4
          have e := Nat.eq_of_beq_eq_true h4
          rw [← e, Nat.testBit_or, Nat.testBit_and, h6, hj]
          simp
        · omega
      | succ p =>
        obtain ⟨b1, b2⟩ := a4 p x (by simpa using hx)
        refine ⟨fun i hi => ?_, fun hqm j hj hor => b2 hqm j hj ?_⟩
        · rcases b1 i hi with h6 | ⟨p', h6, h7⟩
          · rcases (hbit i).1 h6 with h8 | h8
            · exact .inl h8
            · exact .inr ⟨0, by omega, by simp [h8]⟩
          · exact .inr ⟨p' + 1, by omega, by simpa using h7⟩
        · rcases hor with h6 | ⟨p', h6, h7⟩
          · exact .inl ((hbit j).2 (.inl h6))
          · cases p' with
            | zero =>
              simp only [List.getElem?_cons_zero, Option.some.injEq] at h7
              exact .inl ((hbit j).2 (.inr h7))
            | succ p' => exact .inr ⟨p', by omega, by simpa using h7⟩

theorem maskOf_bit (p : Oper → Bool) : ∀ (l : List Oper) (i k : Nat) o, l[k]? = some o → p o = true → (maskOf p l i).testBit (i + k) = true
  | [], _, _, _, h, _ => by simp at h
  | x :: l, i, k, o, h, hp => by
    simp only [maskOf, Nat.testBit_or, Bool.or_eq_true]
    cases k with
    | zero =>
      simp only [List.getElem?_cons_zero, Option.some.injEq] at h
      subst h
      left
      simp [hp, Nat.one_shiftLeft, Nat.testBit_two_pow]
    | succ k =>
      right
      have := maskOf_bit p l (i + 1) k o (by simpa using h) hp
      rwa [show i + (k + 1) = i + 1 + k by omega]

theorem dstsOk_ok : ∀ (l : List Oper) (m : Nat), dstsOk l m = true → (∀ (k : Nat) o x, l[k]? = some o → o.dst = some x → m.testBit x = false) ∧
    ∀ (i j : Nat) o o' x, l[i]? = some o → l[j]? = some o' → o.dst = some x → o'.dst = some x → i = j
  | [], m, _ => ⟨fun k o x h => by simp at h, fun i j o o' x h => by simp at h⟩
  | o :: l, m, h => by
    unfold dstsOk at h
    split at h
    · rename_i x hx
      simp only [natL_eq, Bool.and_eq_true] at h
      obtain ⟨a1, a2⟩ := dstsOk_ok l _ h.2
      have hbit : ∀ y, (m ||| 1 <<< x).testBit y = false → m.testBit y = false ∧ x ≠ y := fun y hy => by
        rw [Nat.testBit_or, Nat.one_shiftLeft, Nat.testBit_two_pow, Bool.or_eq_false_iff] at hy
        exact ⟨hy.1, by simpa using hy.2⟩
      refine ⟨fun k o' y ho hy => ?_, fun i j o1 o2 y h1 h2 hy1 hy2 => ?_⟩
      · cases k with
        | zero =>
          simp only [List.getElem?_cons_zero, Option.some.injEq] at ho
          subst ho
          rw [hx] at hy
          cases hy
          simpa using h.1
        | succ k => exact (hbit y (a1 k o' y (by simpa using ho) hy)).1
      · cases i with
        | zero =>
          cases j with
          | zero => rfl
          | succ j =>
            simp only [List.getElem?_cons_zero, Option.some.injEq] at h1
            subst h1
            rw [hx] at hy1
            cases hy1
            exact absurd rfl (hbit x (a1 j o2 x (by simpa using h2) hy2)).2
        | succ i =>
          cases j with
          | zero =>
            simp only [List.getElem?_cons_zero, Option.some.injEq] at h2
            subst h2
            rw [hx] at hy2
            cases hy2
            exact absurd rfl (hbit x (a1 i o1 x (by simpa using h1) hy1)).2
          | succ j => rw [a2 i j o1 o2 y (by simpa using h1) (by simpa using h2) hy1 hy2]
    · rename_i hx
      obtain ⟨a1, a2⟩ := dstsOk_ok l m h
      refine ⟨fun k o' y ho hy => ?_, fun i j o1 o2 y h1 h2 hy1 hy2 => ?_⟩
      · cases k with
        | zero =>
          simp only [List.getElem?_cons_zero, Option.some.injEq] at ho
          subst ho
          rw [hx] at hy
          cases hy
        | succ k => exact a1 k o' y (by simpa using ho) hy
      · cases i with
        | zero =>
          simp only [List.getElem?_cons_zero, Option.some.injEq] at h1
          subst h1
          rw [hx] at hy1
          cases hy1
        | succ i =>
          cases j with
          | zero =>
            simp only [List.getElem?_cons_zero, Option.some.injEq] at h2
            subst h2
            rw [hx] at hy2
            cases hy2
          | succ j => rw [a2 i j o1 o2 y (by simpa using h1) (by simpa using h2) hy1 hy2]

theorem defsOf_get : ∀ (l : List Oper) (i D : Nat) (f : Nat → Nat), (∀ y, pkAt 12 D y = f y) → (∀ (k : Nat) o x, l[k]? = some o → o.dst = some x → f x = 0) →
    (∀ (i j : Nat) o o' x, l[i]? = some o → l[j]? = some o' → o.dst = some x → o'.dst = some x → i = j) → i + l.length < 4095 →
    (∀ (k : Nat) o x, l[k]? = some o → o.dst = some x → pkAt 12 (defsOf l i D) x = i + k + 1) ∧ ∀ y, (∀ (k : Nat) o, l[k]? = some o → o.dst ≠ some y) → pkAt 12 (defsOf l i D) y = f y
  | [], i, D, f, h, _, _, _ => ⟨fun k o x h => by simp at h, fun y _ => h y⟩
  | o :: l, i, D, f, h, h0, hu, hn => by
    simp only [List.length_cons] at hn
    unfold defsOf
    split
    · rename_i x hx
      rw [natL_eq]
      have hins := pk_insert h (y0 := x) (v := i + 1) (h0 0 o x (by simp) hx) (by show i + 1 < 4096; omega)
      have hnx : ∀ (k : Nat) o', l[k]? = some o' → o'.dst ≠ some x := fun k o' ho' hd => by
        have := hu 0 (k + 1) o o' x (by simp) (by simpa using ho') hx hd
        omega
      obtain ⟨a1, a2⟩ := defsOf_get l (i + 1) _ (fun y => if y = x then i + 1 else f y) hins (fun k o' y ho' hy => by
        have hne : y ≠ x := fun e => hnx k o' ho' (e ▸ hy)
        simp only [hne, if_false]
        exact h0 (k + 1) o' y (by simpa using ho') hy) (fun a b o1 o2 y h1 h2 hy1 hy2 => by
        have := hu (a + 1) (b + 1) o1 o2 y (by simpa using h1) (by simpa using h2) hy1 hy2
        omega) (by omega)
      refine ⟨fun k o' y ho' hy => ?_, fun y hy => ?_⟩
      · cases k with
        | zero =>
          simp only [List.getElem?_cons_zero, Option.some.injEq] at ho'
          subst ho'
          rw [hx] at hy
          cases hy
          rw [a2 x hnx]
          simp
        | succ k =>
          rw [a1 k o' y (by simpa using ho') hy]
          omega
      · have hne : y ≠ x := fun e => hy 0 o (by simp) (e ▸ hx)
        rw [a2 y (fun k o' ho' => hy (k + 1) o' (by simpa using ho'))]
        simp [hne]
    · rename_i hx
      obtain ⟨a1, a2⟩ := defsOf_get l (i + 1) D f h (fun k o' y ho' hy => h0 (k + 1) o' y (by simpa using ho') hy) (fun a b o1 o2 y h1 h2 hy1 hy2 => by
        have := hu (a + 1) (b + 1) o1 o2 y (by simpa using h1) (by simpa using h2) hy1 hy2
        omega) (by omega)
      refine ⟨fun k o' y ho' hy => ?_, fun y hy => a2 y fun k o' ho' => hy (k + 1) o' (by simpa using ho')⟩
      cases k with
      | zero =>
        simp only [List.getElem?_cons_zero, Option.some.injEq] at ho'
        subst ho'
        rw [hx] at hy
        cases hy
      | succ k =>
        rw [a1 k o' y (by simpa using ho') hy]
        omega

theorem looksOk_get {P : List Nat} {ops : Array Oper} {D : Nat} : ∀ (l : List Oper) (ms : List Nat) (i : Nat), looksOk P ops D l ms i = true → ∀ (k : Nat) o, l[k]? = some o →
    ∀ y ∈ looksAt ops o, ∀ j, pkAt 12 D y = j + 1 → i + k = j ∨ (ms.getD k 0).testBit j = true ∨ before P (i + k) j = true
  | [], _, _, _, k, o, h => by simp at h
  | o :: l, [], _, h, _, _, _ => by simp [looksOk] at h
  | o :: l, m :: ms, i, h, k, o', ho => by
    simp only [looksOk, Bool.and_eq_true] at h
    cases k with
    | zero =>
      simp only [List.getElem?_cons_zero, Option.some.injEq] at ho
      subst ho
      intro y hy j hj
      have := List.all_eq_true.1 h.1 y hy
      simp only [hj] at this
      simp only [Bool.or_eq_true] at this
      rcases this with (h1 | h1) | h1
      · exact .inl (Nat.eq_of_beq_eq_true h1)
      · exact .inr (.inl (by simpa using h1))
      · exact .inr (.inr h1)
    | succ k =>
      intro y hy j hj
      have := looksOk_get l ms (i + 1) h.2 k o' (by simpa using ho) y hy j hj
      rw [show i + 1 + k = i + (k + 1) by omega] at this
      simpa using this

theorem loudsOf_mem : ∀ (l : List Oper) (i k : Nat) o, l[k]? = some o → isLoud o = true → i + k ∈ loudsOf l i
  | [], _, _, _, h, _ => by simp at h
  | x :: l, i, k, o, h, hl => by
    unfold loudsOf
    cases k with
    | zero =>
      simp only [List.getElem?_cons_zero, Option.some.injEq] at h
      subst h
      simp [hl]
    | succ k =>
      have := loudsOf_mem l (i + 1) k o (by simpa using h) hl
      rw [show i + 1 + k = i + (k + 1) by omega] at this
      cases isLoud x <;> simp [this]
theorem pairsOk_ok {P : List Nat} : ∀ {L : List Nat}, pairsOk P L = true → ∀ a ∈ L, ∀ b ∈ L, a ≠ b → before P a b = true ∨ before P b a = true
  | [], _, a, ha, _, _, _ => by simp at ha
  | x :: L, h, a, ha, b, hb, hne => by
    simp only [pairsOk, Bool.and_eq_true] at h
    have h1 := fun j hj => List.all_eq_true.1 h.1 j hj
    simp only [Bool.or_eq_true] at h1
    rcases List.mem_cons.1 ha with e1 | m1 <;> rcases List.mem_cons.1 hb with e2 | m2
    · exact absurd (e1.trans e2.symm) hne
    · rw [e1]; exact h1 b m2
    · rw [e2]; exact (h1 a m1).symm
    · exact pairsOk_ok h.2 a m1 b m2 hne
end Go.Proofs.Ytcpahifgdppkbaa.QAI
