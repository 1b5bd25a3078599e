/- Requests as bytes: plain: a query read as it was written. -/
import Derived.Test.YtcpahifgdppkbaaQWireLong9
set_option linter.unusedVariables false
set_option linter.unusedSimpArgs false
set_option maxRecDepth 100000
namespace Go.Proofs.Ytcpahifgdppkbaa.QAI
section
open Go Go.RowKit
structure Qd where
  k : Int
  n : Int
  p : Int
  t : Int
  x : Int
  y : Int
  o : List Opp
def rQuery (s : List Int × Bool) : Qd × (List Int × Bool) :=
  bif (rByte s).1 == 1 then
    (⟨1, 0, 0, 0, 0, 0, (rOps (rByte (rByte s).2).1.toNat ((rByte (rByte s).2).2.1, (rByte (rByte s).2).2.2 || decide ((rByte (rByte s).2).1 > 100))).1⟩, (rOps (rByte (rByte s).2).1.toNat ((rByte (rByte s).2).2.1, (rByte (rByte s).2).2.2 || decide ((rByte (rByte s).2).1 > 100))).2)
  else bif (rByte s).1 == 2 || (rByte s).1 == 6 then (⟨(rByte s).1, 0, 0, 0, 0, 0, []⟩, (rByte s).2)
  else bif (rByte s).1 == 3 then (⟨3, 0, (rNum (rByte s).2).1, (rNum (rNum (rByte s).2).2).1, 0, 0, []⟩, (rNum (rNum (rByte s).2).2).2)
  else bif (rByte s).1 == 4 then (⟨4, (rNum (rNum (rNum (rByte s).2).2).2).1, (rNum (rByte s).2).1, (rNum (rNum (rByte s).2).2).1, 0, 0, []⟩, (rNum (rNum (rNum (rByte s).2).2).2).2)
  else bif (rByte s).1 == 5 then (⟨5, 0, (rNum (rByte s).2).1, (rNum (rNum (rByte s).2).2).1, (rNum (rNum (rNum (rByte s).2).2).2).1, (rNum (rNum (rNum (rNum (rByte s).2).2).2).2).1, []⟩, (rNum (rNum (rNum (rNum (rByte s).2).2).2).2).2)
  else (⟨(rByte s).1, 0, 0, 0, 0, 0, []⟩, (rByte s).2.1, true)
def reqB (q : Qd) : List Int := by8 q.k :: (bif q.k == 1 then by8 (q.o.length : Nat) :: q.o.flatMap opB
  else bif q.k == 2 || q.k == 6 then []
  else bif q.k == 3 then four q.p ++ four q.t
  else bif q.k == 4 then four q.p ++ four q.t ++ four q.n
  else four q.p ++ four q.t ++ four q.x ++ four q.y)
/-- What the writer takes; what else must be 0; whether a query can be told. -/
def wrOk (q : Qd) : Bool := bif q.k == 1 then decide (q.o.length ≤ 100) && q.o.all opOk
  else bif q.k == 2 || q.k == 6 then true
  else bif q.k == 3 then fits q.p && fits q.t
  else bif q.k == 4 then fits q.p && fits q.t && fits q.n
  else bif q.k == 5 then fits q.p && fits q.t && fits q.x && fits q.y else false
def bareQ (q : Qd) : Qd := bif q.k == 1 then ⟨1, 0, 0, 0, 0, 0, q.o⟩
  else bif q.k == 2 || q.k == 6 then ⟨q.k, 0, 0, 0, 0, 0, []⟩
  else bif q.k == 3 then ⟨3, 0, q.p, q.t, 0, 0, []⟩
  else bif q.k == 4 then ⟨4, q.n, q.p, q.t, 0, 0, []⟩
  else bif q.k == 5 then ⟨5, 0, q.p, q.t, q.x, q.y, []⟩ else ⟨q.k, 0, 0, 0, 0, 0, []⟩
theorem rQuery_reqB' {q : Qd} (h : wrOk q = true) (l : List Int) : rQuery (reqB q ++ l, false) = (bareQ q, l, false) := by
  obtain ⟨k, n, p, t, x, y, o⟩ := q
  unfold wrOk at h
  simp only at h
  by_cases h1 : k = 1
  · subst h1
    have h' : (decide (o.length ≤ 100) && o.all opOk) = true := h
    rw [Bool.and_eq_true, decide_eq_true_eq, List.all_eq_true] at h'
    have hb : by8 (o.length : Nat) = (o.length : Int) := by unfold by8; omega
    show rQuery (1 :: by8 (o.length : Nat) :: (o.flatMap opB ++ l), false) = _
    have hr := rOps_opB o l h'.2
    have e : rQuery (1 :: by8 (o.length : Nat) :: (o.flatMap opB ++ l), false) = (⟨1, 0, 0, 0, 0, 0, (rOps (by8 (o.length : Nat)).toNat (o.flatMap opB ++ l, false || decide (by8 (o.length : Nat) > 100))).1⟩, (rOps (by8 (o.length : Nat)).toNat (o.flatMap opB ++ l, false || decide (by8 (o.length : Nat) > 100))).2) := rfl
    rw [e, hb, Int.toNat_natCast, decide_eq_false (by omega), Bool.or_false, hr]
    rfl
  by_cases h2 : k = 2
  · subst h2; rfl
  by_cases h6 : k = 6
  · subst h6; rfl
  by_cases h3 : k = 3
  · subst h3
    have h' : (fits p && fits t) = true := h
    rw [Bool.and_eq_true] at h'
    show rQuery (3 :: (four p ++ four t ++ l), false) = _
    rw [List.append_assoc]
    have e : ∀ L, rQuery (3 :: L, false) = (⟨3, 0, (rNum (L, false)).1, (rNum (rNum (L, false)).2).1, 0, 0, []⟩, (rNum (rNum (L, false)).2).2) := fun L => rfl
    rw [e]
    simp only [rNum_four h'.1, rNum_four h'.2]
    rfl
  by_cases h4 : k = 4
  · subst h4
    have h' : (fits p && fits t && fits n) = true := h
    rw [Bool.and_eq_true, Bool.and_eq_true] at h'
    show rQuery (4 :: (four p ++ four t ++ four n ++ l), false) = _
    rw [List.append_assoc, List.append_assoc]
    have e : ∀ L, rQuery (4 :: L, false) = (⟨4, (rNum (rNum (rNum (L, false)).2).2).1, (rNum (L, false)).1, (rNum (rNum (L, false)).2).1, 0, 0, []⟩, (rNum (rNum (rNum (L, false)).2).2).2) := fun L => rfl
    rw [e]
    simp only [rNum_four h'.1.1, rNum_four h'.1.2, rNum_four h'.2]
    rfl
  by_cases h5 : k = 5
  · subst h5
    have h' : (fits p && fits t && fits x && fits y) = true := h
    rw [Bool.and_eq_true, Bool.and_eq_true, Bool.and_eq_true] at h'
    show rQuery (5 :: (four p ++ four t ++ four x ++ four y ++ l), false) = _
    rw [List.append_assoc, List.append_assoc, List.append_assoc]
    have e : ∀ L, rQuery (5 :: L, false) = (⟨5, 0, (rNum (L, false)).1, (rNum (rNum (L, false)).2).1, (rNum (rNum (rNum (L, false)).2).2).1, (rNum (rNum (rNum (rNum (L, false)).2).2).2).1, []⟩, (rNum (rNum (rNum (rNum (L, false)).2).2).2).2) := fun L => rfl
    rw [e]
    simp only [rNum_four h'.1.1.1, rNum_four h'.1.1.2, rNum_four h'.1.2, rNum_four h'.2]
    rfl
  · have b : ∀ c : Int, k ≠ c → (k == c) = false := fun c hc => by rw [beq_eq_false_iff_ne]; exact hc
    simp [b 1 h1, b 2 h2, b 6 h6, b 3 h3, b 4 h4, b 5 h5] at h
theorem rQuery_reqB {q : Qd} (h : wrOk q = true) : rQuery (reqB q, false) = (bareQ q, [], false) := by
  have := rQuery_reqB' h []
  rwa [List.append_nil] at this
/- More bytes behind what was read turn nothing. -/
abbrev Rdr (α : Type) := List Int × Bool → α × (List Int × Bool)
def Extn {α : Type} (f : Rdr α) : Prop := ∀ s M, (f s).2.2 = false → s.2 = false ∧ f (s.1 ++ M, s.2) = ((f s).1, (f s).2.1 ++ M, false)
def bndR {α β : Type} (f : Rdr α) (g : α → Rdr β) : Rdr β := fun s => g (f s).1 (f s).2
theorem Extn.bndR {α β : Type} {f : Rdr α} {g : α → Rdr β} (hf : Extn f) (hg : ∀ a, Extn (g a)) : Extn (bndR f g) := by
  intro s M h
  unfold QAI.bndR at h ⊢
  obtain ⟨h1, h2⟩ := hg _ _ M h
  obtain ⟨h3, h4⟩ := hf s M h1
  refine ⟨h3, ?_⟩
  rw [h4]
  rw [h1] at h2
  exact h2
theorem Extn.pure {α : Type} (a : α) : Extn (fun s => (a, s)) := by
  intro s M h
  have h' : s.2 = false := h
  exact ⟨h', by rw [h']⟩
theorem Extn.ite {α : Type} {c : Bool} {f g : Rdr α} (hf : Extn f) (hg : Extn g) : Extn (fun s => bif c then f s else g s) := by
  cases c
  · exact hg
  · exact hf
theorem ext_byte : Extn rByte := by
  intro s M h
  obtain ⟨L, b⟩ := s
  cases L with
  | nil => cases h
  | cons x l =>
    have h' : b = false := h
    subst h'
    exact ⟨rfl, rfl⟩
theorem ext_num : Extn rNum :=
  ext_byte.bndR fun a => ext_byte.bndR fun b => ext_byte.bndR fun c => ext_byte.bndR fun d => Extn.pure (num4 a b c d)
theorem ext_text : Extn rText := by
  refine ext_byte.bndR (g := fun a => bndR rByte fun b s => bif s.2 || decide (a * 256 + b > (s.1.length : Int)) then (⟨#[]⟩, s.1, true) else (toB (s.1.take (a * 256 + b).toNat), s.1.drop (a * 256 + b).toNat, s.2)) fun a => ext_byte.bndR fun b => ?_
  intro s M h
  obtain ⟨L, bad⟩ := s
  simp only at h ⊢
  by_cases hc : (bad || decide (a * 256 + b > (L.length : Int))) = true
  · rw [hc] at h; cases h
  · rw [Bool.not_eq_true] at hc
    rw [hc] at h ⊢
    rw [Bool.or_eq_false_iff, decide_eq_false_iff_not] at hc
    obtain ⟨rfl, hc⟩ := hc
    refine ⟨rfl, ?_⟩
    have hc2 : ¬ (a * 256 + b > ((L ++ M).length : Int)) := by rw [List.length_append]; omega
    rw [decide_eq_false hc2]
    simp only [Bool.false_or, cond_false]
    rw [List.take_append_of_le_length (by omega), List.drop_append_of_le_length (by omega)]
def rOp' : Rdr Opp := bndR rByte fun k => bndR rNum fun i => bndR rNum fun a => bndR rNum fun b => bndR rText fun t s => (⟨k, i, a, b, t⟩, s.1, s.2 || decide (t.size > 2000))
theorem rOp_eq : rOp = rOp' := by funext s; simp only [rOp, rOp', bndR]
theorem ext_op' : Extn rOp' :=
  ext_byte.bndR fun k => ext_num.bndR fun i => ext_num.bndR fun a => ext_num.bndR fun b => ext_text.bndR (g := fun t s => ((⟨k, i, a, b, t⟩ : Opp), s.1, s.2 || decide (t.size > 2000))) fun t => by
    intro s M h
    obtain ⟨L, bad⟩ := s
    have h' : (bad || decide (t.size > 2000)) = false := h
    rw [Bool.or_eq_false_iff] at h'
    obtain ⟨rfl, h2⟩ := h'
    refine ⟨rfl, ?_⟩
    simp only [h2, Bool.or_false]
theorem ext_op : Extn rOp := by rw [rOp_eq]; exact ext_op'
theorem ext_ops : ∀ n, Extn (rOps n)
  | 0 => Extn.pure []
  | n + 1 => by
    have ih := ext_ops n
    have hb : Extn (bndR rOp fun o => bndR (rOps n) fun r s => (o :: r, s)) := ext_op.bndR fun o => ih.bndR fun r => Extn.pure (o :: r)
    intro s M h
    obtain ⟨L, bad⟩ := s
    cases bad with
    | true => cases h
    | false => exact hb (L, false) M h
theorem ext_query : Extn rQuery := by
  refine ext_byte.bndR (g := fun k s => bif k == 1 then bndR rByte (fun c s => ((⟨1, 0, 0, 0, 0, 0, (rOps c.toNat (s.1, s.2 || decide (c > 100))).1⟩ : Qd), (rOps c.toNat (s.1, s.2 || decide (c > 100))).2)) s
    else bif k == 2 || k == 6 then (⟨k, 0, 0, 0, 0, 0, []⟩, s)
    else bif k == 3 then bndR rNum (fun p => bndR rNum fun t s => ((⟨3, 0, p, t, 0, 0, []⟩ : Qd), s)) s
    else bif k == 4 then bndR rNum (fun p => bndR rNum fun t => bndR rNum fun n s => ((⟨4, n, p, t, 0, 0, []⟩ : Qd), s)) s
    else bif k == 5 then bndR rNum (fun p => bndR rNum fun t => bndR rNum fun x => bndR rNum fun y s => ((⟨5, 0, p, t, x, y, []⟩ : Qd), s)) s
    else (⟨k, 0, 0, 0, 0, 0, []⟩, s.1, true)) fun k => ?_
  refine Extn.ite ?_ (Extn.ite (Extn.pure _) (Extn.ite ?_ (Extn.ite ?_ (Extn.ite ?_ ?_))))
  · refine ext_byte.bndR fun c => ?_
    intro s M h
    obtain ⟨L, bad⟩ := s
    obtain ⟨h1, h2⟩ := ext_ops c.toNat (L, bad || decide (c > 100)) M h
    have h1' : (bad || decide (c > 100)) = false := h1
    have h3 := Bool.or_eq_false_iff.1 h1'
    refine ⟨h3.1, ?_⟩
    simp only at h2 ⊢
    rw [h2]
  · exact ext_num.bndR fun p => ext_num.bndR fun t => Extn.pure _
  · exact ext_num.bndR fun p => ext_num.bndR fun t => ext_num.bndR fun n => Extn.pure _
  · exact ext_num.bndR fun p => ext_num.bndR fun t => ext_num.bndR fun x => ext_num.bndR fun y => Extn.pure _
  · intro s M h; cases h
/-- A byte less than a query, a byte more: none. -/
theorem rQuery_less {q : Qd} (h : wrOk q = true) {L : List Int} {x : Int} (e : L ++ [x] = reqB q) : (rQuery (L, false)).2.2 = true := by
  cases hb : (rQuery (L, false)).2.2 with
  | true => rfl
  | false =>
    obtain ⟨_, h2⟩ := ext_query (L, false) [x] hb
    simp only at h2
    rw [e, rQuery_reqB h] at h2
    have h3 := congrArg (fun z => z.2.1.length) h2
    simp at h3
end
section
open Go Go.RowKit
structure Rd where
  k : Int
  e : Int
  a : Int
  n : Int
  p : Int
  t : Int
  x : Int
  y : Int
  w : Int
  h : Int
def held4 (n : Int) : Int := min (max n (-2147483648)) 2147483647
theorem fits_held (n : Int) : fits (held4 n) = true := by
  unfold fits held4
  rw [Bool.and_eq_true, decide_eq_true_eq, decide_eq_true_eq]; omega
def rReply (s : List Int × Bool) : Rd × (List Int × Bool) :=
  bif (rByte s).1 == 1 then (⟨1, 0, 0, 0, 0, 0, 0, 0, 0, 0⟩, (rByte s).2)
  else bif (rByte s).1 == 2 then (⟨2, (rByte (rByte s).2).1, (rNum (rByte (rByte s).2).2).1, 0, 0, 0, 0, 0, 0, 0⟩, (rNum (rByte (rByte s).2).2).2)
  else bif (rByte s).1 == 3 then (⟨3, 0, 0, 0, (rNum (rByte s).2).1, (rNum (rNum (rByte s).2).2).1, 0, 0, 0, 0⟩, (rNum (rNum (rByte s).2).2).2)
  else bif (rByte s).1 == 4 then (⟨4, 0, 0, 0, 0, 0, (rNum (rByte s).2).1, (rNum (rNum (rByte s).2).2).1, (rNum (rNum (rNum (rByte s).2).2).2).1, (rNum (rNum (rNum (rNum (rByte s).2).2).2).2).1⟩, (rNum (rNum (rNum (rNum (rByte s).2).2).2).2).2)
  else bif (rByte s).1 == 5 || (rByte s).1 == 6 then (⟨(rByte s).1, 0, 0, (rNum (rByte s).2).1, 0, 0, 0, 0, 0, 0⟩, (rNum (rByte s).2).2)
  else (⟨(rByte s).1, 0, 0, 0, 0, 0, 0, 0, 0, 0⟩, (rByte s).2.1, true)
def ansB (a : Rd) : List Int := by8 a.k :: (bif a.k == 1 then []
  else bif a.k == 2 then by8 a.e :: four a.a
  else bif a.k == 3 then four a.p ++ four a.t
  else bif a.k == 4 then four (held4 a.x) ++ four (held4 a.y) ++ four (held4 a.w) ++ four (held4 a.h)
  else four a.n)
def anW (a : Rd) : Bool := bif a.k == 1 then true
  else bif a.k == 2 then byOk a.e && fits a.a
  else bif a.k == 3 then fits a.p && fits a.t
  else bif a.k == 4 then true
  else bif a.k == 5 || a.k == 6 then fits a.n else false
def bareR (a : Rd) : Rd := bif a.k == 1 then ⟨1, 0, 0, 0, 0, 0, 0, 0, 0, 0⟩
  else bif a.k == 2 then ⟨2, a.e, a.a, 0, 0, 0, 0, 0, 0, 0⟩
  else bif a.k == 3 then ⟨3, 0, 0, 0, a.p, a.t, 0, 0, 0, 0⟩
  else bif a.k == 4 then ⟨4, 0, 0, 0, 0, 0, held4 a.x, held4 a.y, held4 a.w, held4 a.h⟩
  else bif a.k == 5 || a.k == 6 then ⟨a.k, 0, 0, a.n, 0, 0, 0, 0, 0, 0⟩ else ⟨a.k, 0, 0, 0, 0, 0, 0, 0, 0, 0⟩
/-- What an answer is that can be told. -/
def tellR (a : Rd) : Rd := bif a.k == 4 then ⟨4, 0, 0, 0, 0, 0, a.x, a.y, a.w, a.h⟩ else bareR a
theorem rReply_ansB {a : Rd} (h : anW a = true) (l : List Int) : rReply (ansB a ++ l, false) = (bareR a, l, false) := by
  obtain ⟨k, e, a, n, p, t, x, y, w, hh⟩ := a
  unfold anW at h
  simp only at h
  by_cases h1 : k = 1
  · subst h1; rfl
  by_cases h2 : k = 2
  · subst h2
    have h' : (byOk e && fits a) = true := h
    rw [Bool.and_eq_true] at h'
    have hb : by8 e = e := by
      have := h'.1
      unfold byOk at this
      rw [Bool.and_eq_true, decide_eq_true_eq, decide_eq_true_eq] at this
      unfold by8; omega
    show rReply (2 :: by8 e :: (four a ++ l), false) = _
    have e2 : ∀ c L, rReply (2 :: c :: L, false) = (⟨2, c, (rNum (L, false)).1, 0, 0, 0, 0, 0, 0, 0⟩, (rNum (L, false)).2) := fun c L => rfl
    rw [e2, rNum_four h'.2, hb]
    rfl
  by_cases h3 : k = 3
  · subst h3
    have h' : (fits p && fits t) = true := h
    rw [Bool.and_eq_true] at h'
    show rReply (3 :: (four p ++ four t ++ l), false) = _
    rw [List.append_assoc]
    have e : ∀ L, rReply (3 :: L, false) = (⟨3, 0, 0, 0, (rNum (L, false)).1, (rNum (rNum (L, false)).2).1, 0, 0, 0, 0⟩, (rNum (rNum (L, false)).2).2) := fun L => rfl
    rw [e]
    simp only [rNum_four h'.1, rNum_four h'.2]
    rfl
  by_cases h4 : k = 4
  · subst h4
    show rReply (4 :: (four (held4 x) ++ four (held4 y) ++ four (held4 w) ++ four (held4 hh) ++ l), false) = _
    rw [List.append_assoc, List.append_assoc, List.append_assoc]
    have e : ∀ L, rReply (4 :: L, false) = (⟨4, 0, 0, 0, 0, 0, (rNum (L, false)).1, (rNum (rNum (L, false)).2).1, (rNum (rNum (rNum (L, false)).2).2).1, (rNum (rNum (rNum (rNum (L, false)).2).2).2).1⟩, (rNum (rNum (rNum (rNum (L, false)).2).2).2).2) := fun L => rfl
    rw [e]
    simp only [rNum_four (fits_held _)]
    rfl
  by_cases h5 : k = 5
  · subst h5
    have h' : fits n = true := h
    show rReply (5 :: (four n ++ l), false) = _
    have e : ∀ L, rReply (5 :: L, false) = (⟨5, 0, 0, (rNum (L, false)).1, 0, 0, 0, 0, 0, 0⟩, (rNum (L, false)).2) := fun L => rfl
    rw [e]
    simp only [rNum_four h']
    rfl
  by_cases h6 : k = 6
  · subst h6
    have h' : fits n = true := h
    show rReply (6 :: (four n ++ l), false) = _
    have e : ∀ L, rReply (6 :: L, false) = (⟨6, 0, 0, (rNum (L, false)).1, 0, 0, 0, 0, 0, 0⟩, (rNum (L, false)).2) := fun L => rfl
    rw [e]
    simp only [rNum_four h']
    rfl
  · have b : ∀ c : Int, k ≠ c → (k == c) = false := fun c hc => by rw [beq_eq_false_iff_ne]; exact hc
    simp [b 1 h1, b 2 h2, b 6 h6, b 3 h3, b 4 h4, b 5 h5] at h
end
section
open Go Go.RowKit
theorem wh_w {bad : Bool} {k : Nat} {B : Nat → Int} {n : Int} : (lfun haG nol 60 Try.f148 [.c (.ptr 0 0 0), I64 n] [wrB bad k, rowU true k B]).go [] =
  some
    ([yes (k + 4 ≤ maxCells ∧ k = k ∧ (fun j => ub (B j)) = fun j => ub (ud (ub (B j))))], AV.tup [],
      [some
          { t := 168, own := true,
            c :=
              Cont.one
                [AC.sl 2 0 (k + 1 + 1 + 1 + 1),
                  AC.v (Value.bool (bad || !fits (mnI (2147483647 : Int) (mxI (-2147483648 : Int) n))))] },
        none,
        some
          { t := 5, own := true,
            c :=
              Cont.row 1 (k + 1 + 1 + 1 + 1) fun j =>
                [Value.int IntKind.u8
                    (fourB (fun j => ud (ub (B j))) k (mnI (2147483647 : Int) (mxI (-2147483648 : Int) n)) j)] }]) := by kernel_rfl
end
section
open Go Go.RowKit
theorem held_eq (n : Int) : mnI 2147483647 (mxI (-2147483648) n) = held4 n := by
  rw [mxI_eq, mnI_eq]; unfold held4; omega
noncomputable def wheF : Spec := fun args h => match args, h with
  | [.c (.ptr 0 0 0), .c (.v (.int .i64 n))], [some ⟨168, true, .one [.sl 1 0 k, .v (.bool bad)]⟩, some ⟨5, true, .row 1 k' f⟩] =>
    .need (yes (k + 4 ≤ maxCells ∧ k' = k ∧ f = fun j => ub (ud (f j)))) (.ret (.tup [], [some ⟨168, true, .one [.sl 2 0 (k + 1 + 1 + 1 + 1), .v (.bool bad)]⟩, none, rowU true (k + 1 + 1 + 1 + 1) (fourB (fun j => ud (f j)) k (held4 n))]))
  | _, _ => .fail
theorem wheF_ok : SpecOk Try.prog 148 wheF := by
  refine knownS KWO_ok Try.func148 fun args h r he => ?_
  unfold wheF at he
  split at he
  · rename_i n k bad k' f
    obtain ⟨⟨h1, h2, h3⟩, he'⟩ := Tr.eval_ask.1 he
    subst h2
    cases he'
    have e1 : some ⟨5, true, .row 1 k' f⟩ = rowU true k' fun j => ud (f j) := by rw [rowU, ← h3]
    rw [e1]
    refine ⟨(fun _ => []), [], 60, nol, noLoopsS, (Tr.go_eval (wh_w (bad := bad) (k := k') (B := fun j => ud (f j)) (n := n)) ⟨yes_of ⟨h1, rfl, rfl⟩, trivial⟩).trans ?_⟩
    rw [held_eq, fits_held]
    cases bad <;> rfl
  · cases he
end
section
open Go Go.RowKit
theorem bif_yes {p : Prop} {α : Type} {a b : α} (h : p) : (bif yes p then a else b) = a := by rw [yes_of h]; rfl
theorem rdI_le {i n m : Nat} (h : i + n ≤ m) : rdI i n + (n - 1) ≤ m := by
  unfold rdI
  by_cases h0 : n = 0
  · subst h0
    simpa using h
  · have e1 : (((n : Nat) : Int) == (0 : Int)) = false := by simp only [beq_eq_false_iff_ne]; omega
    rw [e1, cond_false]; omega
def nbS (a x : Int) : Int := (((BitVec.ofInt IntKind.u32.bits (IntKind.u32.wrap (a * (2 : Int) ^ min 8 IntKind.u32.bits)) ||| BitVec.ofInt IntKind.u32.bits (IntKind.u32.wrap x)).toNat : Nat) : Int)
def nbX (x0 x1 x2 x3 : Int) : Int := w64 (IntKind.i32.wrap (IntKind.u32.wrap (nbS (IntKind.u32.wrap (nbS (IntKind.u32.wrap (nbS (IntKind.u32.wrap (nbS 0 x0)) x1)) x2)) x3)))
def rnV4 (B : Nat → Int) (i n : Nat) : Int := nbX (rdX B i n) (rdX B (rdI i n) (n - 1)) (rdX B (rdI (rdI i n) (n - 1)) (n - 1 - 1)) (rdX B (rdI (rdI (rdI i n) (n - 1)) (n - 1 - 1)) (n - 1 - 1 - 1))
def rdI4 (i n : Nat) : Nat := rdI (rdI (rdI (rdI i n) (n - 1)) (n - 1 - 1)) (n - 1 - 1 - 1)
def rdB4 (bad : Bool) (n : Nat) : Bool := (((bad || ((n : Nat) : Int) == (0 : Int)) || ((n - 1 : Nat) : Int) == (0 : Int)) || ((n - 1 - 1 : Nat) : Int) == (0 : Int)) || ((n - 1 - 1 - 1 : Nat) : Int) == (0 : Int)
theorem rnm_eval {bad own : Bool} {i n m : Nat} {B : Nat → Int} (h : i + n ≤ m) : (afun rnmG 60 Try.f163 [.c (.ptr 0 0 0)] [rdB bad i n, rowU own m B]).eval =
    some (I64 (rnV4 B i n), [some ⟨175, true, .one [.sl 1 (rdI4 i n) (n - 1 - 1 - 1 - 1), .v (.bool (rdB4 bad n))]⟩, rowU own m B]) := by
  rw [rnm_nf]
  have h2 := rdI_le h
  have h3 := rdI_le h2
  have h4 := rdI_le h3
  refine Eq.trans (bif_yes ?_) ?_
  · exact ⟨h, rfl⟩
  refine Eq.trans (bif_yes ?_) ?_
  · exact ⟨h2, rfl⟩
  refine Eq.trans (bif_yes ?_) ?_
  · exact ⟨h3, rfl⟩
  refine Eq.trans (bif_yes ?_) ?_
  · exact ⟨h4, rfl⟩
  rfl
noncomputable def rnmF : Spec := fun args h => match args, h with
  | [.c (.ptr 0 0 0)], [some ⟨175, true, .one [.sl 1 i n, .v (.bool bad)]⟩, some ⟨5, own, .row 1 m f⟩] =>
    .need (yes (i + n ≤ m ∧ f = fun j => ub (ud (f j)))) (.ret (I64 (rnV4 (fun j => ud (f j)) i n), [some ⟨175, true, .one [.sl 1 (rdI4 i n) (n - 1 - 1 - 1 - 1), .v (.bool (rdB4 bad n))]⟩, rowU own m (fun j => ud (f j))]))
  | _, _ => .fail
theorem rnmF_ok : SpecOk Try.prog 163 rnmF := by
  refine known' KRD_ok Try.func163 fun args h r he => ?_
  unfold rnmF at he
  split at he
  · rename_i i n bad own m f
    obtain ⟨⟨h1, h2⟩, he'⟩ := Tr.eval_ask.1 he
    cases he'
    have e1 : some ⟨5, own, .row 1 m f⟩ = rowU own m fun j => ud (f j) := by rw [rowU, ← h2]
    exact ⟨_, _, _, by rw [e1]; exact rnm_eval h1⟩
  · cases he
end
section
open Go Go.RowKit
noncomputable def KRN : Known := [(162, rbF), (163, rnmF)]
theorem KRN_ok : KnownOk KRN := consK rbF_ok (by kernel_rfl) (consK rnmF_ok (by kernel_rfl) nilK)
noncomputable def rhG : Ctx2 := GT KRN (fun _ => []) 0 []
theorem rhG_ok : XOk rhG := GT_ok KRN_ok _ _ _
theorem rh_nf {bad own : Bool} {i n m : Nat} {B : Nat → Int} : (lfun rhG nol 60 Try.f165 [.c (.ptr 0 0 0)] [rdB bad i n, rowU own m B]).eval = bif yes (i + n ≤ m ∧ (fun j => ub (B j)) = fun j => ub (ud (ub (B j)))) then bif yes (rdI4 i n + (n - 1 - 1 - 1 - 1) ≤ m ∧ (fun j => ub (ud (ub (B j)))) = fun j => ub (ud (ub (ud (ub (B j)))))) then some (.agg [i64 (rnV4 (fun j => ud (ub (B j))) i n), i64 (rnV4 (fun j => ud (ub (ud (ub (B j))))) (rdI4 i n) (n - 1 - 1 - 1 - 1))], [some ⟨175, true, .one [.sl 1 (rdI4 (rdI4 i n) (n - 1 - 1 - 1 - 1)) (n - 1 - 1 - 1 - 1 - 1 - 1 - 1 - 1), .v (.bool (rdB4 (rdB4 bad n) (n - 1 - 1 - 1 - 1)))]⟩, some ⟨5, own, .row 1 m fun j => [.int .u8 (ud (ub (ud (ub (B j)))))]⟩]) else none else none := by kernel_rfl
theorem rt_nf {bad own : Bool} {i n m : Nat} {B : Nat → Int} : (lfun rhG nol 60 Try.f164 [.c (.ptr 0 0 0)] [rdB bad i n, rowU own m B]).eval = bif yes (i + n ≤ m ∧ (fun j => ub (B j)) = fun j => ub (ud (ub (B j)))) then bif yes (rdI i n + (n - 1) ≤ m ∧ (fun j => ub (ud (ub (B j)))) = fun j => ub (ud (ub (ud (ub (B j)))))) then bif bad || ((n : Nat) : Int) == (0 : Int) || ((n - 1 : Nat) : Int) == (0 : Int) then some (.c (.v (.string (⟨#[]⟩ : ByteArray))), [some ⟨175, true, .one [.sl 1 (rdI (rdI i n) (n - 1)) (n - 1 - 1), .v (.bool true)]⟩, some ⟨5, own, .row 1 m fun j => [.int .u8 (ud (ub (ud (ub (B j)))))]⟩]) else bif decide (w64 (((BitVec.ofInt IntKind.i64.bits (w64 (rdX (fun j => ud (ub (B j))) i n * (2 : Int) ^ min 8 IntKind.i64.bits)) ||| BitVec.ofInt IntKind.i64.bits (rdX (fun j => ud (ub (ud (ub (B j))))) (rdI i n) (n - 1))).toNat : Nat) : Int) > ((n - 1 - 1 : Nat) : Int)) then some (.c (.v (.string (⟨#[]⟩ : ByteArray))), [some ⟨175, true, .one [.sl 1 (rdI (rdI i n) (n - 1)) (n - 1 - 1), .v (.bool true)]⟩, some ⟨5, own, .row 1 m fun j => [.int .u8 (ud (ub (ud (ub (B j)))))]⟩]) else bif decInt (0 : Int) (w64 (((BitVec.ofInt IntKind.i64.bits (w64 (rdX (fun j => ud (ub (B j))) i n * (2 : Int) ^ min 8 IntKind.i64.bits)) ||| BitVec.ofInt IntKind.i64.bits (rdX (fun j => ud (ub (ud (ub (B j))))) (rdI i n) (n - 1))).toNat : Nat) : Int)) (n - 1 - 1) then bif decide (rdI (rdI i n) (n - 1) + (w64 (((BitVec.ofInt IntKind.i64.bits (w64 (rdX (fun j => ud (ub (B j))) i n * (2 : Int) ^ min 8 IntKind.i64.bits)) ||| BitVec.ofInt IntKind.i64.bits (rdX (fun j => ud (ub (ud (ub (B j))))) (rdI i n) (n - 1))).toNat : Nat) : Int)).toNat ≤ m) then bif allB (w64 (((BitVec.ofInt IntKind.i64.bits (w64 (rdX (fun j => ud (ub (B j))) i n * (2 : Int) ^ min 8 IntKind.i64.bits)) ||| BitVec.ofInt IntKind.i64.bits (rdX (fun j => ud (ub (ud (ub (B j))))) (rdI i n) (n - 1))).toNat : Nat) : Int)).toNat fun k => isU8 (ub (ud (ub (ud (ub (B (rdI (rdI i n) (n - 1) + k))))))) then bif decInt (w64 (((BitVec.ofInt IntKind.i64.bits (w64 (rdX (fun j => ud (ub (B j))) i n * (2 : Int) ^ min 8 IntKind.i64.bits)) ||| BitVec.ofInt IntKind.i64.bits (rdX (fun j => ud (ub (ud (ub (B j))))) (rdI i n) (n - 1))).toNat : Nat) : Int)) (((n - 1 - 1 : Nat) : Int)) (n - 1 - 1) then some (.c (.v (.string (bytesOf (fun j => ub (ud (ub (ud (ub (B j)))))) (rdI (rdI i n) (n - 1)) (w64 (((BitVec.ofInt IntKind.i64.bits (w64 (rdX (fun j => ud (ub (B j))) i n * (2 : Int) ^ min 8 IntKind.i64.bits)) ||| BitVec.ofInt IntKind.i64.bits (rdX (fun j => ud (ub (ud (ub (B j))))) (rdI i n) (n - 1))).toNat : Nat) : Int)).toNat))), [some ⟨175, true, .one [.sl 1 (rdI (rdI i n) (n - 1) + (w64 (((BitVec.ofInt IntKind.i64.bits (w64 (rdX (fun j => ud (ub (B j))) i n * (2 : Int) ^ min 8 IntKind.i64.bits)) ||| BitVec.ofInt IntKind.i64.bits (rdX (fun j => ud (ub (ud (ub (B j))))) (rdI i n) (n - 1))).toNat : Nat) : Int)).toNat) (n - 1 - 1 - (w64 (((BitVec.ofInt IntKind.i64.bits (w64 (rdX (fun j => ud (ub (B j))) i n * (2 : Int) ^ min 8 IntKind.i64.bits)) ||| BitVec.ofInt IntKind.i64.bits (rdX (fun j => ud (ub (ud (ub (B j))))) (rdI i n) (n - 1))).toNat : Nat) : Int)).toNat), .v (.bool (bad || ((n : Nat) : Int) == (0 : Int) || ((n - 1 : Nat) : Int) == (0 : Int)))]⟩, some ⟨5, own, .row 1 m fun j => [.int .u8 (ud (ub (ud (ub (B j)))))]⟩]) else none else none else none else none else none else none := by kernel_rfl
end
section
open Go Go.RowKit
theorem rdI4_le {i n m : Nat} (h : i + n ≤ m) : rdI4 i n + (n - 1 - 1 - 1 - 1) ≤ m := rdI_le (rdI_le (rdI_le (rdI_le h)))
theorem rh_eval {bad own : Bool} {i n m : Nat} {B : Nat → Int} (h : i + n ≤ m) : (lfun rhG nol 60 Try.f165 [.c (.ptr 0 0 0)] [rdB bad i n, rowU own m B]).eval =
    some (.agg [i64 (rnV4 B i n), i64 (rnV4 B (rdI4 i n) (n - 1 - 1 - 1 - 1))], [some ⟨175, true, .one [.sl 1 (rdI4 (rdI4 i n) (n - 1 - 1 - 1 - 1)) (n - 1 - 1 - 1 - 1 - 1 - 1 - 1 - 1), .v (.bool (rdB4 (rdB4 bad n) (n - 1 - 1 - 1 - 1)))]⟩, rowU own m B]) := by
  rw [rh_nf]
  refine Eq.trans (bif_yes ?_) ?_
  · exact ⟨h, rfl⟩
  refine Eq.trans (bif_yes ?_) ?_
  · exact ⟨rdI4_le h, rfl⟩
  rfl
noncomputable def rhF : Spec := fun args h => match args, h with
  | [.c (.ptr 0 0 0)], [some ⟨175, true, .one [.sl 1 i n, .v (.bool bad)]⟩, some ⟨5, own, .row 1 m f⟩] =>
    .need (yes (i + n ≤ m ∧ f = fun j => ub (ud (f j)))) (.ret (.agg [i64 (rnV4 (fun j => ud (f j)) i n), i64 (rnV4 (fun j => ud (f j)) (rdI4 i n) (n - 1 - 1 - 1 - 1))], [some ⟨175, true, .one [.sl 1 (rdI4 (rdI4 i n) (n - 1 - 1 - 1 - 1)) (n - 1 - 1 - 1 - 1 - 1 - 1 - 1 - 1), .v (.bool (rdB4 (rdB4 bad n) (n - 1 - 1 - 1 - 1)))]⟩, rowU own m (fun j => ud (f j))]))
  | _, _ => .fail
theorem rhF_ok : SpecOk Try.prog 165 rhF := by
  refine knownS KRN_ok Try.func165 fun args h r he => ?_
  unfold rhF at he
  split at he
  · rename_i i n bad own m f
    obtain ⟨⟨h1, h2⟩, he'⟩ := Tr.eval_ask.1 he
    cases he'
    have e1 : some ⟨5, own, .row 1 m f⟩ = rowU own m fun j => ud (f j) := by rw [rowU, ← h2]
    exact ⟨_, [], 60, nol, noLoopsS, by rw [e1]; exact rh_eval h1⟩
  · cases he
end
section
open Go Go.RowKit
def rtL (B : Nat → Int) (i n : Nat) : Int := w64 (((BitVec.ofInt IntKind.i64.bits (w64 (rdX B i n * (2 : Int) ^ min 8 IntKind.i64.bits)) ||| BitVec.ofInt IntKind.i64.bits (rdX B (rdI i n) (n - 1))).toNat : Nat) : Int)
def rtI (i n : Nat) : Nat := rdI (rdI i n) (n - 1)
def rtB (bad : Bool) (n : Nat) : Bool := (bad || ((n : Nat) : Int) == (0 : Int)) || ((n - 1 : Nat) : Int) == (0 : Int)
/- does the text end too soon? -/
def rtE (bad : Bool) (B : Nat → Int) (i n : Nat) : Bool := rtB bad n || decide (rtL B i n > ((n - 1 - 1 : Nat) : Int))
def rtS (bad : Bool) (B : Nat → Int) (i n : Nat) : ByteArray := bif rtE bad B i n then ⟨#[]⟩ else bytesOf (fun j => ub (B j)) (rtI i n) (rtL B i n).toNat
def rtJ (bad : Bool) (B : Nat → Int) (i n : Nat) : Nat := bif rtE bad B i n then rtI i n else rtI i n + (rtL B i n).toNat
def rtN (bad : Bool) (B : Nat → Int) (i n : Nat) : Nat := bif rtE bad B i n then n - 1 - 1 else n - 1 - 1 - (rtL B i n).toNat
theorem bif_t {c : Bool} {α : Type} {a b : α} (h : c = true) : (bif c then a else b) = a := by rw [h]; rfl
theorem bif_f {c : Bool} {α : Type} {a b : α} (h : c = false) : (bif c then a else b) = b := by rw [h]; rfl
theorem allB_u8 (f : Nat → List Value) (h : ∀ k, isU8 (f k) = true) (n : Nat) : allB n (fun k => isU8 (f k)) = true := by
  unfold allB
  rw [List.all_eq_true]
  exact fun k _ => h k
theorem rt_eval {bad own : Bool} {i n m : Nat} {B : Nat → Int} (h : i + n ≤ m) (hL : 0 ≤ rtL B i n) : (lfun rhG nol 60 Try.f164 [.c (.ptr 0 0 0)] [rdB bad i n, rowU own m B]).eval =
    some (StrA (rtS bad B i n), [some ⟨175, true, .one [.sl 1 (rtJ bad B i n) (rtN bad B i n), .v (.bool (rtE bad B i n))]⟩, rowU own m B]) := by
  rw [rt_nf]
  refine Eq.trans (bif_yes ?_) ?_
  · exact ⟨h, rfl⟩
  refine Eq.trans (bif_yes ?_) ?_
  · exact ⟨rdI_le h, rfl⟩
  have h3 : rtI i n + (n - 1 - 1) ≤ m := rdI_le (rdI_le h)
  cases hb : rtB bad n with
  | true =>
    have he : rtE bad B i n = true := by unfold rtE; rw [hb]; rfl
    refine Eq.trans (bif_t hb) ?_
    unfold rtS rtJ rtN
    rw [he]
    rfl
  | false =>
    refine Eq.trans (bif_f hb) ?_
    by_cases ho : rtL B i n > ((n - 1 - 1 : Nat) : Int)
    · have he : rtE bad B i n = true := by unfold rtE; rw [decide_eq_true ho, Bool.or_true]
      refine Eq.trans (bif_t (decide_eq_true ho)) ?_
      unfold rtS rtJ rtN
      rw [he]
      rfl
    · have he : rtE bad B i n = false := by unfold rtE; rw [decide_eq_false ho, hb]; rfl
      refine Eq.trans (bif_f (decide_eq_false ho)) ?_
      refine Eq.trans (bif_t ?_) ?_
      · show decInt 0 (rtL B i n) (n - 1 - 1) = true
        unfold decInt; simp only [Bool.and_eq_true, decide_eq_true_eq]; omega
      refine Eq.trans (bif_t ?_) ?_
      · show decide (rtI i n + (rtL B i n).toNat ≤ m) = true
        exact decide_eq_true (by omega)
      refine Eq.trans (bif_t ?_) ?_
      · exact allB_u8 _ (fun _ => rfl) _
      refine Eq.trans (bif_t ?_) ?_
      · show decInt (rtL B i n) ((n - 1 - 1 : Nat) : Int) (n - 1 - 1) = true
        unfold decInt; simp only [Bool.and_eq_true, decide_eq_true_eq]; omega
      unfold rtS rtJ rtN
      rw [he]
      have hb' : ((bad || ((n : Nat) : Int) == (0 : Int)) || ((n - 1 : Nat) : Int) == (0 : Int)) = false := hb
      simp only [hb', cond_false]
      rfl
noncomputable def rtF : Spec := fun args h => match args, h with
  | [.c (.ptr 0 0 0)], [some ⟨175, true, .one [.sl 1 i n, .v (.bool bad)]⟩, some ⟨5, own, .row 1 m f⟩] =>
    .need (yes (i + n ≤ m ∧ (f = fun j => ub (ud (f j))) ∧ 0 ≤ rtL (fun j => ud (f j)) i n)) (.ret (StrA (rtS bad (fun j => ud (f j)) i n), [some ⟨175, true, .one [.sl 1 (rtJ bad (fun j => ud (f j)) i n) (rtN bad (fun j => ud (f j)) i n), .v (.bool (rtE bad (fun j => ud (f j)) i n))]⟩, rowU own m (fun j => ud (f j))]))
  | _, _ => .fail
theorem rtF_ok : SpecOk Try.prog 164 rtF := by
  refine knownS KRN_ok Try.func164 fun args h r he => ?_
  unfold rtF at he
  split at he
  · rename_i i n bad own m f
    obtain ⟨⟨h1, h2, h3⟩, he'⟩ := Tr.eval_ask.1 he
    cases he'
    have e1 : some ⟨5, own, .row 1 m f⟩ = rowU own m fun j => ud (f j) := by rw [rowU, ← h2]
    exact ⟨_, [], 60, nol, noLoopsS, by rw [e1]; exact rt_eval h1 h3⟩
  · cases he
end
section
open Go Go.RowKit
noncomputable def KRQ : Known := [(162, rbF), (163, rnmF), (164, rtF), (165, rhF)]
theorem KRQ_ok : KnownOk KRQ := consK rbF_ok (by kernel_rfl) (consK rnmF_ok (by kernel_rfl) (consK rtF_ok (by kernel_rfl) (consK rhF_ok (by kernel_rfl) nilK)))
abbrev rqK : List (Nat × Option TypeId) := [(0,none),(2,none),(3,none),(4,none),(5,none),(11,none)]
noncomputable def rqG : Ctx2 := GT KRQ (fun k => if k = 8 then rqK else []) 0 []
theorem rqG_ok : XOk rqG := GT_ok KRQ_ok _ _ _
def rqZ : Option ABlk := some ⟨128, true, .one [i64 0, i64 0, i64 0, i64 0, i64 0, i64 0, .v (.slice none 0 0)]⟩
def rqS (own : Bool) (m : Nat) (B : Nat → Int) (bad : Bool) (i n : Nat) (q c j : Int) (na : Nat) (P : Nat → Opp) : St :=
  ⟨slots 104 [(0, .c (.ptr 0 0 0)), (2, .c (.ptr 2 0 0)), (3, .c (.ptr 3 0 0)), (4, I64 c), (5, I64 j), (11, I64 q)], [rdB bad i n, rowU own m B, rqZ, some ⟨128, true, .one [i64 q, i64 0, i64 0, i64 0, i64 0, i64 0, .sl 4 0 na]⟩, rowP true na P]⟩
theorem rq_t {own : Bool} {m : Nat} {B : Nat → Int} {bad : Bool} {i n : Nat} {q c j : Int} {na : Nat} {P : Nat → Opp} : (rT rqG nol 2 48 (bodyOf Try.f145 0) rqK rqK (rqS own m B bad i n q c j na P)).go [] = some ([decide (j < c), true, true, true, true, true, !bad, yes (i + n ≤ m ∧ (fun j => ub (B j)) = fun j => ub (ud (ub (B j)))), yes (rdI i n + (n - 1) ≤ m ∧ (fun j => ub (ud (ub (B j)))) = fun j => ub (ud (ub (ud (ub (B j)))))), yes (rdI4 (rdI i n) (n - 1) + (n - 1 - 1 - 1 - 1 - 1) ≤ m ∧ (fun j => ub (ud (ub (ud (ub (B j)))))) = fun j => ub (ud (ub (ud (ub (ud (ub (B j)))))))), yes (rdI4 (rdI4 (rdI i n) (n - 1)) (n - 1 - 1 - 1 - 1 - 1) + (n - 1 - 1 - 1 - 1 - 1 - 1 - 1 - 1 - 1) ≤ m ∧ (fun j => ub (ud (ub (ud (ub (ud (ub (B j)))))))) = fun j => ub (ud (ub (ud (ub (ud (ub (ud (ub (B j)))))))))), yes (rdI4 (rdI4 (rdI4 (rdI i n) (n - 1)) (n - 1 - 1 - 1 - 1 - 1)) (n - 1 - 1 - 1 - 1 - 1 - 1 - 1 - 1 - 1) + (n - 1 - 1 - 1 - 1 - 1 - 1 - 1 - 1 - 1 - 1 - 1 - 1 - 1) ≤ m ∧ ((fun j => ub (ud (ub (ud (ub (ud (ub (ud (ub (B j)))))))))) = fun j => ub (ud (ub (ud (ub (ud (ub (ud (ub (ud (ub (B j)))))))))))) ∧ (0 : Int) ≤ rtL (fun j => ud (ub (ud (ub (ud (ub (ud (ub (ud (ub (B j))))))))))) (rdI4 (rdI4 (rdI4 (rdI i n) (n - 1)) (n - 1 - 1 - 1 - 1 - 1)) (n - 1 - 1 - 1 - 1 - 1 - 1 - 1 - 1 - 1)) (n - 1 - 1 - 1 - 1 - 1 - 1 - 1 - 1 - 1 - 1 - 1 - 1 - 1)), rtE (rdB4 (rdB4 (rdB4 (bad || ((n : Nat) : Int) == (0 : Int)) (n - 1)) (n - 1 - 1 - 1 - 1 - 1)) (n - 1 - 1 - 1 - 1 - 1 - 1 - 1 - 1 - 1)) (fun j => ud (ub (ud (ub (ud (ub (ud (ub (ud (ub (B j))))))))))) (rdI4 (rdI4 (rdI4 (rdI i n) (n - 1)) (n - 1 - 1 - 1 - 1 - 1)) (n - 1 - 1 - 1 - 1 - 1 - 1 - 1 - 1 - 1)) (n - 1 - 1 - 1 - 1 - 1 - 1 - 1 - 1 - 1 - 1 - 1 - 1 - 1), true, true, true, true, decide (na = na), true, decide ((na + 1) * 48 ≤ maxCells)], Ex.normal, { sl := slots 104 [(0, .c (.ptr 0 0 0)), (2, .c (.ptr 2 0 0)), (3, .c (.ptr 3 0 0)), (4, I64 c), (5, I64 (w64 (j + (1 : Int)))), (11, I64 q)], h := [some ⟨175, true, .one [.sl 1 (rtJ (rdB4 (rdB4 (rdB4 (bad || ((n : Nat) : Int) == (0 : Int)) (n - 1)) (n - 1 - 1 - 1 - 1 - 1)) (n - 1 - 1 - 1 - 1 - 1 - 1 - 1 - 1 - 1)) (fun j => ud (ub (ud (ub (ud (ub (ud (ub (ud (ub (B j))))))))))) (rdI4 (rdI4 (rdI4 (rdI i n) (n - 1)) (n - 1 - 1 - 1 - 1 - 1)) (n - 1 - 1 - 1 - 1 - 1 - 1 - 1 - 1 - 1)) (n - 1 - 1 - 1 - 1 - 1 - 1 - 1 - 1 - 1 - 1 - 1 - 1 - 1)) (rtN (rdB4 (rdB4 (rdB4 (bad || ((n : Nat) : Int) == (0 : Int)) (n - 1)) (n - 1 - 1 - 1 - 1 - 1)) (n - 1 - 1 - 1 - 1 - 1 - 1 - 1 - 1 - 1)) (fun j => ud (ub (ud (ub (ud (ub (ud (ub (ud (ub (B j))))))))))) (rdI4 (rdI4 (rdI4 (rdI i n) (n - 1)) (n - 1 - 1 - 1 - 1 - 1)) (n - 1 - 1 - 1 - 1 - 1 - 1 - 1 - 1 - 1)) (n - 1 - 1 - 1 - 1 - 1 - 1 - 1 - 1 - 1 - 1 - 1 - 1 - 1)), .v (.bool true)]⟩, some ⟨5, own, .row 1 m fun j => [.int .u8 (ud (ub (ud (ub (ud (ub (ud (ub (ud (ub (B j)))))))))))]⟩, some ⟨128, true, .one [i64 0, i64 0, i64 0, i64 0, i64 0, i64 0, .v (.slice none 0 0)]⟩, some ⟨128, true, .one [i64 q, i64 0, i64 0, i64 0, i64 0, i64 0, .sl 4 0 (na + 1)]⟩, some ⟨121, true, .row 5 (na + 1) fun k => [.int .i64 (bif decide (k = na) then rdX (fun j => ud (ub (B j))) i n else (P k).k), .int .i64 (bif decide (k = na) then rnV4 (fun j => ud (ub (ud (ub (B j))))) (rdI i n) (n - 1) else (P k).i), .int .i64 (bif decide (k = na) then rnV4 (fun j => ud (ub (ud (ub (ud (ub (B j))))))) (rdI4 (rdI i n) (n - 1)) (n - 1 - 1 - 1 - 1 - 1) else (P k).a), .int .i64 (bif decide (k = na) then rnV4 (fun j => ud (ub (ud (ub (ud (ub (ud (ub (B j))))))))) (rdI4 (rdI4 (rdI i n) (n - 1)) (n - 1 - 1 - 1 - 1 - 1)) (n - 1 - 1 - 1 - 1 - 1 - 1 - 1 - 1 - 1) else (P k).b), .string (bif decide (k = na) then rtS (rdB4 (rdB4 (rdB4 (bad || ((n : Nat) : Int) == (0 : Int)) (n - 1)) (n - 1 - 1 - 1 - 1 - 1)) (n - 1 - 1 - 1 - 1 - 1 - 1 - 1 - 1 - 1)) (fun j => ud (ub (ud (ub (ud (ub (ud (ub (ud (ub (B j))))))))))) (rdI4 (rdI4 (rdI4 (rdI i n) (n - 1)) (n - 1 - 1 - 1 - 1 - 1)) (n - 1 - 1 - 1 - 1 - 1 - 1 - 1 - 1 - 1)) (n - 1 - 1 - 1 - 1 - 1 - 1 - 1 - 1 - 1 - 1 - 1 - 1 - 1) else (P k).s)]⟩] }) := by kernel_rfl
theorem rq_f {own : Bool} {m : Nat} {B : Nat → Int} {bad : Bool} {i n : Nat} {q c j : Int} {na : Nat} {P : Nat → Opp} : (rT rqG nol 2 48 (bodyOf Try.f145 0) rqK rqK (rqS own m B bad i n q c j na P)).go [true, true, true, true, true, true, true, true, true, true, true, true, false, false, false, false, false] = some ([decide (j < c), true, true, true, true, true, !bad, yes (i + n ≤ m ∧ (fun j => ub (B j)) = fun j => ub (ud (ub (B j)))), yes (rdI i n + (n - 1) ≤ m ∧ (fun j => ub (ud (ub (B j)))) = fun j => ub (ud (ub (ud (ub (B j)))))), yes (rdI4 (rdI i n) (n - 1) + (n - 1 - 1 - 1 - 1 - 1) ≤ m ∧ (fun j => ub (ud (ub (ud (ub (B j)))))) = fun j => ub (ud (ub (ud (ub (ud (ub (B j)))))))), yes (rdI4 (rdI4 (rdI i n) (n - 1)) (n - 1 - 1 - 1 - 1 - 1) + (n - 1 - 1 - 1 - 1 - 1 - 1 - 1 - 1 - 1) ≤ m ∧ (fun j => ub (ud (ub (ud (ub (ud (ub (B j)))))))) = fun j => ub (ud (ub (ud (ub (ud (ub (ud (ub (B j)))))))))), yes (rdI4 (rdI4 (rdI4 (rdI i n) (n - 1)) (n - 1 - 1 - 1 - 1 - 1)) (n - 1 - 1 - 1 - 1 - 1 - 1 - 1 - 1 - 1) + (n - 1 - 1 - 1 - 1 - 1 - 1 - 1 - 1 - 1 - 1 - 1 - 1 - 1) ≤ m ∧ ((fun j => ub (ud (ub (ud (ub (ud (ub (ud (ub (B j)))))))))) = fun j => ub (ud (ub (ud (ub (ud (ub (ud (ub (ud (ub (B j)))))))))))) ∧ (0 : Int) ≤ rtL (fun j => ud (ub (ud (ub (ud (ub (ud (ub (ud (ub (B j))))))))))) (rdI4 (rdI4 (rdI4 (rdI i n) (n - 1)) (n - 1 - 1 - 1 - 1 - 1)) (n - 1 - 1 - 1 - 1 - 1 - 1 - 1 - 1 - 1)) (n - 1 - 1 - 1 - 1 - 1 - 1 - 1 - 1 - 1 - 1 - 1 - 1 - 1)), !rtE (rdB4 (rdB4 (rdB4 (bad || ((n : Nat) : Int) == (0 : Int)) (n - 1)) (n - 1 - 1 - 1 - 1 - 1)) (n - 1 - 1 - 1 - 1 - 1 - 1 - 1 - 1 - 1)) (fun j => ud (ub (ud (ub (ud (ub (ud (ub (ud (ub (B j))))))))))) (rdI4 (rdI4 (rdI4 (rdI i n) (n - 1)) (n - 1 - 1 - 1 - 1 - 1)) (n - 1 - 1 - 1 - 1 - 1 - 1 - 1 - 1 - 1)) (n - 1 - 1 - 1 - 1 - 1 - 1 - 1 - 1 - 1 - 1 - 1 - 1 - 1), true, true, true, true, decide (na = na), true, decide ((na + 1) * 48 ≤ maxCells)], Ex.normal, { sl := slots 104 [(0, .c (.ptr 0 0 0)), (2, .c (.ptr 2 0 0)), (3, .c (.ptr 3 0 0)), (4, I64 c), (5, I64 (w64 (j + (1 : Int)))), (11, I64 q)], h := [some ⟨175, true, .one [.sl 1 (rtJ (rdB4 (rdB4 (rdB4 (bad || ((n : Nat) : Int) == (0 : Int)) (n - 1)) (n - 1 - 1 - 1 - 1 - 1)) (n - 1 - 1 - 1 - 1 - 1 - 1 - 1 - 1 - 1)) (fun j => ud (ub (ud (ub (ud (ub (ud (ub (ud (ub (B j))))))))))) (rdI4 (rdI4 (rdI4 (rdI i n) (n - 1)) (n - 1 - 1 - 1 - 1 - 1)) (n - 1 - 1 - 1 - 1 - 1 - 1 - 1 - 1 - 1)) (n - 1 - 1 - 1 - 1 - 1 - 1 - 1 - 1 - 1 - 1 - 1 - 1 - 1)) (rtN (rdB4 (rdB4 (rdB4 (bad || ((n : Nat) : Int) == (0 : Int)) (n - 1)) (n - 1 - 1 - 1 - 1 - 1)) (n - 1 - 1 - 1 - 1 - 1 - 1 - 1 - 1 - 1)) (fun j => ud (ub (ud (ub (ud (ub (ud (ub (ud (ub (B j))))))))))) (rdI4 (rdI4 (rdI4 (rdI i n) (n - 1)) (n - 1 - 1 - 1 - 1 - 1)) (n - 1 - 1 - 1 - 1 - 1 - 1 - 1 - 1 - 1)) (n - 1 - 1 - 1 - 1 - 1 - 1 - 1 - 1 - 1 - 1 - 1 - 1 - 1)), .v (.bool (decide ((((rtS (rdB4 (rdB4 (rdB4 (bad || ((n : Nat) : Int) == (0 : Int)) (n - 1)) (n - 1 - 1 - 1 - 1 - 1)) (n - 1 - 1 - 1 - 1 - 1 - 1 - 1 - 1 - 1)) (fun j => ud (ub (ud (ub (ud (ub (ud (ub (ud (ub (B j))))))))))) (rdI4 (rdI4 (rdI4 (rdI i n) (n - 1)) (n - 1 - 1 - 1 - 1 - 1)) (n - 1 - 1 - 1 - 1 - 1 - 1 - 1 - 1 - 1)) (n - 1 - 1 - 1 - 1 - 1 - 1 - 1 - 1 - 1 - 1 - 1 - 1 - 1)).size : Nat) : Int) > (2000 : Int))))]⟩, some ⟨5, own, .row 1 m fun j => [.int .u8 (ud (ub (ud (ub (ud (ub (ud (ub (ud (ub (B j)))))))))))]⟩, some ⟨128, true, .one [i64 0, i64 0, i64 0, i64 0, i64 0, i64 0, .v (.slice none 0 0)]⟩, some ⟨128, true, .one [i64 q, i64 0, i64 0, i64 0, i64 0, i64 0, .sl 4 0 (na + 1)]⟩, some ⟨121, true, .row 5 (na + 1) fun k => [.int .i64 (bif decide (k = na) then rdX (fun j => ud (ub (B j))) i n else (P k).k), .int .i64 (bif decide (k = na) then rnV4 (fun j => ud (ub (ud (ub (B j))))) (rdI i n) (n - 1) else (P k).i), .int .i64 (bif decide (k = na) then rnV4 (fun j => ud (ub (ud (ub (ud (ub (B j))))))) (rdI4 (rdI i n) (n - 1)) (n - 1 - 1 - 1 - 1 - 1) else (P k).a), .int .i64 (bif decide (k = na) then rnV4 (fun j => ud (ub (ud (ub (ud (ub (ud (ub (B j))))))))) (rdI4 (rdI4 (rdI i n) (n - 1)) (n - 1 - 1 - 1 - 1 - 1)) (n - 1 - 1 - 1 - 1 - 1 - 1 - 1 - 1 - 1) else (P k).b), .string (bif decide (k = na) then rtS (rdB4 (rdB4 (rdB4 (bad || ((n : Nat) : Int) == (0 : Int)) (n - 1)) (n - 1 - 1 - 1 - 1 - 1)) (n - 1 - 1 - 1 - 1 - 1 - 1 - 1 - 1 - 1)) (fun j => ud (ub (ud (ub (ud (ub (ud (ub (ud (ub (B j))))))))))) (rdI4 (rdI4 (rdI4 (rdI i n) (n - 1)) (n - 1 - 1 - 1 - 1 - 1)) (n - 1 - 1 - 1 - 1 - 1 - 1 - 1 - 1 - 1)) (n - 1 - 1 - 1 - 1 - 1 - 1 - 1 - 1 - 1 - 1 - 1 - 1 - 1) else (P k).s)]⟩] }) := by kernel_rfl
theorem rq_e1 {own : Bool} {m : Nat} {B : Nat → Int} {bad : Bool} {i n : Nat} {q c j : Int} {na : Nat} {P : Nat → Opp} : (rT rqG nol 2 48 (bodyOf Try.f145 0) rqK rqK (rqS own m B bad i n q c j na P)).go [false, false, false, false, false, false, false] = some ([!decide (j < c), true, true, true, true, true, true], Ex.exit 1, { sl := slots 104 [(0, .c (.ptr 0 0 0)), (2, .c (.ptr 2 0 0)), (3, .c (.ptr 3 0 0)), (4, I64 c), (5, I64 j), (11, I64 q)], h := [some ⟨175, true, .one [.sl 1 i n, .v (.bool bad)]⟩, some ⟨5, own, .row 1 m fun j => [.int .u8 (B j)]⟩, some ⟨128, true, .one [i64 0, i64 0, i64 0, i64 0, i64 0, i64 0, .v (.slice none 0 0)]⟩, some ⟨128, true, .one [i64 q, i64 0, i64 0, i64 0, i64 0, i64 0, .sl 4 0 na]⟩, some ⟨121, true, .row 5 na fun j => [.int .i64 (P j).k, .int .i64 (P j).i, .int .i64 (P j).a, .int .i64 (P j).b, .string (P j).s]⟩] }) := by kernel_rfl
theorem rq_e2 {own : Bool} {m : Nat} {B : Nat → Int} {bad : Bool} {i n : Nat} {q c j : Int} {na : Nat} {P : Nat → Opp} : (rT rqG nol 2 48 (bodyOf Try.f145 0) rqK rqK (rqS own m B bad i n q c j na P)).go [true, true, true, true, true, true, false] = some ([decide (j < c), true, true, true, true, true, !!bad], Ex.exit 1, { sl := slots 104 [(0, .c (.ptr 0 0 0)), (2, .c (.ptr 2 0 0)), (3, .c (.ptr 3 0 0)), (4, I64 c), (5, I64 j), (11, I64 q)], h := [some ⟨175, true, .one [.sl 1 i n, .v (.bool bad)]⟩, some ⟨5, own, .row 1 m fun j => [.int .u8 (B j)]⟩, some ⟨128, true, .one [i64 0, i64 0, i64 0, i64 0, i64 0, i64 0, .v (.slice none 0 0)]⟩, some ⟨128, true, .one [i64 q, i64 0, i64 0, i64 0, i64 0, i64 0, .sl 4 0 na]⟩, some ⟨121, true, .row 5 na fun j => [.int .i64 (P j).k, .int .i64 (P j).i, .int .i64 (P j).a, .int .i64 (P j).b, .string (P j).s]⟩] }) := by kernel_rfl
end
section
open Go Go.RowKit
theorem rr_1 {own : Bool} {m : Nat} {B : Nat → Int} {i n : Nat} : (lfun rqG nol 60 Try.f149 [.c (.ptr 0 0 0)] [rdB false i n, rowU own m B]).go [] = some ([yes (i + n ≤ m ∧ (fun j => ub (B j)) = fun j => ub (ud (ub (B j)))), rdX (fun j => ud (ub (B j))) i n == (1 : Int)], .agg [i64 (rdX (fun j => ud (ub (B j))) i n), i64 0, i64 0, i64 0, i64 0, i64 0, i64 0, i64 0, i64 0, i64 0], [some ⟨175, true, .one [.sl 1 (rdI i n) (n - 1), .v (.bool (false || ((n : Nat) : Int) == (0 : Int)))]⟩, some ⟨5, own, .row 1 m fun j => [.int .u8 (ud (ub (B j)))]⟩]) := by kernel_rfl
theorem rr_2 {own : Bool} {m : Nat} {B : Nat → Int} {i n : Nat} : (lfun rqG nol 60 Try.f149 [.c (.ptr 0 0 0)] [rdB false i n, rowU own m B]).go [true, false] = some ([yes (i + n ≤ m ∧ (fun j => ub (B j)) = fun j => ub (ud (ub (B j)))), !rdX (fun j => ud (ub (B j))) i n == (1 : Int), rdX (fun j => ud (ub (B j))) i n == (2 : Int), yes (rdI i n + (n - 1) ≤ m ∧ (fun j => ub (ud (ub (B j)))) = fun j => ub (ud (ub (ud (ub (B j)))))), yes (rdI (rdI i n) (n - 1) + (n - 1 - 1) ≤ m ∧ (fun j => ub (ud (ub (ud (ub (B j)))))) = fun j => ub (ud (ub (ud (ub (ud (ub (B j))))))))], .agg [i64 (rdX (fun j => ud (ub (B j))) i n), i64 (rdX (fun j => ud (ub (ud (ub (B j))))) (rdI i n) (n - 1)), i64 (rnV4 (fun j => ud (ub (ud (ub (ud (ub (B j))))))) (rdI (rdI i n) (n - 1)) (n - 1 - 1)), i64 0, i64 0, i64 0, i64 0, i64 0, i64 0, i64 0], [some ⟨175, true, .one [.sl 1 (rdI4 (rdI (rdI i n) (n - 1)) (n - 1 - 1)) (n - 1 - 1 - 1 - 1 - 1 - 1), .v (.bool (rdB4 (false || ((n : Nat) : Int) == (0 : Int) || ((n - 1 : Nat) : Int) == (0 : Int)) (n - 1 - 1)))]⟩, some ⟨5, own, .row 1 m fun j => [.int .u8 (ud (ub (ud (ub (ud (ub (B j)))))))]⟩]) := by kernel_rfl
theorem rr_3 {own : Bool} {m : Nat} {B : Nat → Int} {i n : Nat} : (lfun rqG nol 60 Try.f149 [.c (.ptr 0 0 0)] [rdB false i n, rowU own m B]).go [true, false, false] = some ([yes (i + n ≤ m ∧ (fun j => ub (B j)) = fun j => ub (ud (ub (B j)))), !rdX (fun j => ud (ub (B j))) i n == (1 : Int), !rdX (fun j => ud (ub (B j))) i n == (2 : Int), rdX (fun j => ud (ub (B j))) i n == (3 : Int), yes (rdI i n + (n - 1) ≤ m ∧ (fun j => ub (ud (ub (B j)))) = fun j => ub (ud (ub (ud (ub (B j))))))], .agg [i64 (rdX (fun j => ud (ub (B j))) i n), i64 0, i64 0, i64 0, i64 (rnV4 (fun j => ud (ub (ud (ub (B j))))) (rdI i n) (n - 1)), i64 (rnV4 (fun j => ud (ub (ud (ub (B j))))) (rdI4 (rdI i n) (n - 1)) (n - 1 - 1 - 1 - 1 - 1)), i64 0, i64 0, i64 0, i64 0], [some ⟨175, true, .one [.sl 1 (rdI4 (rdI4 (rdI i n) (n - 1)) (n - 1 - 1 - 1 - 1 - 1)) (n - 1 - 1 - 1 - 1 - 1 - 1 - 1 - 1 - 1), .v (.bool (rdB4 (rdB4 (false || ((n : Nat) : Int) == (0 : Int)) (n - 1)) (n - 1 - 1 - 1 - 1 - 1)))]⟩, some ⟨5, own, .row 1 m fun j => [.int .u8 (ud (ub (ud (ub (B j)))))]⟩]) := by kernel_rfl
theorem rr_4 {own : Bool} {m : Nat} {B : Nat → Int} {i n : Nat} : (lfun rqG nol 60 Try.f149 [.c (.ptr 0 0 0)] [rdB false i n, rowU own m B]).go [true, false, false, false] = some ([yes (i + n ≤ m ∧ (fun j => ub (B j)) = fun j => ub (ud (ub (B j)))), !rdX (fun j => ud (ub (B j))) i n == (1 : Int), !rdX (fun j => ud (ub (B j))) i n == (2 : Int), !rdX (fun j => ud (ub (B j))) i n == (3 : Int), rdX (fun j => ud (ub (B j))) i n == (4 : Int), yes (rdI i n + (n - 1) ≤ m ∧ (fun j => ub (ud (ub (B j)))) = fun j => ub (ud (ub (ud (ub (B j)))))), yes (rdI4 (rdI i n) (n - 1) + (n - 1 - 1 - 1 - 1 - 1) ≤ m ∧ (fun j => ub (ud (ub (ud (ub (B j)))))) = fun j => ub (ud (ub (ud (ub (ud (ub (B j)))))))), yes (rdI4 (rdI4 (rdI i n) (n - 1)) (n - 1 - 1 - 1 - 1 - 1) + (n - 1 - 1 - 1 - 1 - 1 - 1 - 1 - 1 - 1) ≤ m ∧ (fun j => ub (ud (ub (ud (ub (ud (ub (B j)))))))) = fun j => ub (ud (ub (ud (ub (ud (ub (ud (ub (B j)))))))))), yes (rdI4 (rdI4 (rdI4 (rdI i n) (n - 1)) (n - 1 - 1 - 1 - 1 - 1)) (n - 1 - 1 - 1 - 1 - 1 - 1 - 1 - 1 - 1) + (n - 1 - 1 - 1 - 1 - 1 - 1 - 1 - 1 - 1 - 1 - 1 - 1 - 1) ≤ m ∧ (fun j => ub (ud (ub (ud (ub (ud (ub (ud (ub (B j)))))))))) = fun j => ub (ud (ub (ud (ub (ud (ub (ud (ub (ud (ub (B j))))))))))))], .agg [i64 (rdX (fun j => ud (ub (B j))) i n), i64 0, i64 0, i64 0, i64 0, i64 0, i64 (rnV4 (fun j => ud (ub (ud (ub (B j))))) (rdI i n) (n - 1)), i64 (rnV4 (fun j => ud (ub (ud (ub (ud (ub (B j))))))) (rdI4 (rdI i n) (n - 1)) (n - 1 - 1 - 1 - 1 - 1)), i64 (rnV4 (fun j => ud (ub (ud (ub (ud (ub (ud (ub (B j))))))))) (rdI4 (rdI4 (rdI i n) (n - 1)) (n - 1 - 1 - 1 - 1 - 1)) (n - 1 - 1 - 1 - 1 - 1 - 1 - 1 - 1 - 1)), i64 (rnV4 (fun j => ud (ub (ud (ub (ud (ub (ud (ub (ud (ub (B j))))))))))) (rdI4 (rdI4 (rdI4 (rdI i n) (n - 1)) (n - 1 - 1 - 1 - 1 - 1)) (n - 1 - 1 - 1 - 1 - 1 - 1 - 1 - 1 - 1)) (n - 1 - 1 - 1 - 1 - 1 - 1 - 1 - 1 - 1 - 1 - 1 - 1 - 1))], [some ⟨175, true, .one [.sl 1 (rdI4 (rdI4 (rdI4 (rdI4 (rdI i n) (n - 1)) (n - 1 - 1 - 1 - 1 - 1)) (n - 1 - 1 - 1 - 1 - 1 - 1 - 1 - 1 - 1)) (n - 1 - 1 - 1 - 1 - 1 - 1 - 1 - 1 - 1 - 1 - 1 - 1 - 1)) (n - 1 - 1 - 1 - 1 - 1 - 1 - 1 - 1 - 1 - 1 - 1 - 1 - 1 - 1 - 1 - 1 - 1), .v (.bool (rdB4 (rdB4 (rdB4 (rdB4 (false || ((n : Nat) : Int) == (0 : Int)) (n - 1)) (n - 1 - 1 - 1 - 1 - 1)) (n - 1 - 1 - 1 - 1 - 1 - 1 - 1 - 1 - 1)) (n - 1 - 1 - 1 - 1 - 1 - 1 - 1 - 1 - 1 - 1 - 1 - 1 - 1)))]⟩, some ⟨5, own, .row 1 m fun j => [.int .u8 (ud (ub (ud (ub (ud (ub (ud (ub (ud (ub (B j)))))))))))]⟩]) := by kernel_rfl
theorem rr_5 {own : Bool} {m : Nat} {B : Nat → Int} {i n : Nat} : (lfun rqG nol 60 Try.f149 [.c (.ptr 0 0 0)] [rdB false i n, rowU own m B]).go [true, false, false, false, false] = some ([yes (i + n ≤ m ∧ (fun j => ub (B j)) = fun j => ub (ud (ub (B j)))), !rdX (fun j => ud (ub (B j))) i n == (1 : Int), !rdX (fun j => ud (ub (B j))) i n == (2 : Int), !rdX (fun j => ud (ub (B j))) i n == (3 : Int), !rdX (fun j => ud (ub (B j))) i n == (4 : Int), rdX (fun j => ud (ub (B j))) i n == (5 : Int), true, yes (rdI i n + (n - 1) ≤ m ∧ (fun j => ub (ud (ub (B j)))) = fun j => ub (ud (ub (ud (ub (B j))))))], .agg [i64 (rdX (fun j => ud (ub (B j))) i n), i64 0, i64 0, i64 (rnV4 (fun j => ud (ub (ud (ub (B j))))) (rdI i n) (n - 1)), i64 0, i64 0, i64 0, i64 0, i64 0, i64 0], [some ⟨175, true, .one [.sl 1 (rdI4 (rdI i n) (n - 1)) (n - 1 - 1 - 1 - 1 - 1), .v (.bool (rdB4 (false || ((n : Nat) : Int) == (0 : Int)) (n - 1)))]⟩, some ⟨5, own, .row 1 m fun j => [.int .u8 (ud (ub (ud (ub (B j)))))]⟩]) := by kernel_rfl
theorem rr_6 {own : Bool} {m : Nat} {B : Nat → Int} {i n : Nat} : (lfun rqG nol 60 Try.f149 [.c (.ptr 0 0 0)] [rdB false i n, rowU own m B]).go [true, false, false, false, false, false] = some ([yes (i + n ≤ m ∧ (fun j => ub (B j)) = fun j => ub (ud (ub (B j)))), !rdX (fun j => ud (ub (B j))) i n == (1 : Int), !rdX (fun j => ud (ub (B j))) i n == (2 : Int), !rdX (fun j => ud (ub (B j))) i n == (3 : Int), !rdX (fun j => ud (ub (B j))) i n == (4 : Int), !rdX (fun j => ud (ub (B j))) i n == (5 : Int), rdX (fun j => ud (ub (B j))) i n == (6 : Int), yes (rdI i n + (n - 1) ≤ m ∧ (fun j => ub (ud (ub (B j)))) = fun j => ub (ud (ub (ud (ub (B j))))))], .agg [i64 (rdX (fun j => ud (ub (B j))) i n), i64 0, i64 0, i64 (rnV4 (fun j => ud (ub (ud (ub (B j))))) (rdI i n) (n - 1)), i64 0, i64 0, i64 0, i64 0, i64 0, i64 0], [some ⟨175, true, .one [.sl 1 (rdI4 (rdI i n) (n - 1)) (n - 1 - 1 - 1 - 1 - 1), .v (.bool (rdB4 (false || ((n : Nat) : Int) == (0 : Int)) (n - 1)))]⟩, some ⟨5, own, .row 1 m fun j => [.int .u8 (ud (ub (ud (ub (B j)))))]⟩]) := by kernel_rfl
theorem rr_x {own : Bool} {m : Nat} {B : Nat → Int} {i n : Nat} : (lfun rqG nol 60 Try.f149 [.c (.ptr 0 0 0)] [rdB false i n, rowU own m B]).go [true, false, false, false, false, false, false] = some ([yes (i + n ≤ m ∧ (fun j => ub (B j)) = fun j => ub (ud (ub (B j)))), !rdX (fun j => ud (ub (B j))) i n == (1 : Int), !rdX (fun j => ud (ub (B j))) i n == (2 : Int), !rdX (fun j => ud (ub (B j))) i n == (3 : Int), !rdX (fun j => ud (ub (B j))) i n == (4 : Int), !rdX (fun j => ud (ub (B j))) i n == (5 : Int), !rdX (fun j => ud (ub (B j))) i n == (6 : Int)], .agg [i64 (rdX (fun j => ud (ub (B j))) i n), i64 0, i64 0, i64 0, i64 0, i64 0, i64 0, i64 0, i64 0, i64 0], [some ⟨175, true, .one [.sl 1 (rdI i n) (n - 1), .v (.bool true)]⟩, some ⟨5, own, .row 1 m fun j => [.int .u8 (ud (ub (B j)))]⟩]) := by kernel_rfl
end
section
open Go Go.RowKit
def rq0S (own : Bool) (m : Nat) (B : Nat → Int) (bad : Bool) (i n : Nat) (q c j : Int) : St :=
  ⟨slots 104 [(0, .c (.ptr 0 0 0)), (2, .c (.ptr 2 0 0)), (3, .c (.ptr 3 0 0)), (4, I64 c), (5, I64 j), (11, I64 q)], [rdB bad i n, rowU own m B, rqZ, some ⟨128, true, .one [i64 q, i64 0, i64 0, i64 0, i64 0, i64 0, .v (.slice none 0 0)]⟩]⟩
theorem rq0_t {own : Bool} {m : Nat} {B : Nat → Int} {bad : Bool} {i n : Nat} {q c j : Int} : (rT rqG nol 2 48 (bodyOf Try.f145 0) rqK rqK (rq0S own m B bad i n q c j)).go [] = some ([decide (j < c), true, true, true, true, true, !bad, yes (i + n ≤ m ∧ (fun j => ub (B j)) = fun j => ub (ud (ub (B j)))), yes (rdI i n + (n - 1) ≤ m ∧ (fun j => ub (ud (ub (B j)))) = fun j => ub (ud (ub (ud (ub (B j)))))), yes (rdI4 (rdI i n) (n - 1) + (n - 1 - 1 - 1 - 1 - 1) ≤ m ∧ (fun j => ub (ud (ub (ud (ub (B j)))))) = fun j => ub (ud (ub (ud (ub (ud (ub (B j)))))))), yes (rdI4 (rdI4 (rdI i n) (n - 1)) (n - 1 - 1 - 1 - 1 - 1) + (n - 1 - 1 - 1 - 1 - 1 - 1 - 1 - 1 - 1) ≤ m ∧ (fun j => ub (ud (ub (ud (ub (ud (ub (B j)))))))) = fun j => ub (ud (ub (ud (ub (ud (ub (ud (ub (B j)))))))))), yes (rdI4 (rdI4 (rdI4 (rdI i n) (n - 1)) (n - 1 - 1 - 1 - 1 - 1)) (n - 1 - 1 - 1 - 1 - 1 - 1 - 1 - 1 - 1) + (n - 1 - 1 - 1 - 1 - 1 - 1 - 1 - 1 - 1 - 1 - 1 - 1 - 1) ≤ m ∧ ((fun j => ub (ud (ub (ud (ub (ud (ub (ud (ub (B j)))))))))) = fun j => ub (ud (ub (ud (ub (ud (ub (ud (ub (ud (ub (B j)))))))))))) ∧ (0 : Int) ≤ rtL (fun j => ud (ub (ud (ub (ud (ub (ud (ub (ud (ub (B j))))))))))) (rdI4 (rdI4 (rdI4 (rdI i n) (n - 1)) (n - 1 - 1 - 1 - 1 - 1)) (n - 1 - 1 - 1 - 1 - 1 - 1 - 1 - 1 - 1)) (n - 1 - 1 - 1 - 1 - 1 - 1 - 1 - 1 - 1 - 1 - 1 - 1 - 1)), rtE (rdB4 (rdB4 (rdB4 (bad || ((n : Nat) : Int) == (0 : Int)) (n - 1)) (n - 1 - 1 - 1 - 1 - 1)) (n - 1 - 1 - 1 - 1 - 1 - 1 - 1 - 1 - 1)) (fun j => ud (ub (ud (ub (ud (ub (ud (ub (ud (ub (B j))))))))))) (rdI4 (rdI4 (rdI4 (rdI i n) (n - 1)) (n - 1 - 1 - 1 - 1 - 1)) (n - 1 - 1 - 1 - 1 - 1 - 1 - 1 - 1 - 1)) (n - 1 - 1 - 1 - 1 - 1 - 1 - 1 - 1 - 1 - 1 - 1 - 1 - 1), true, true, true, true, true, true, true], Ex.normal, { sl := slots 104 [(0, .c (.ptr 0 0 0)), (2, .c (.ptr 2 0 0)), (3, .c (.ptr 3 0 0)), (4, I64 c), (5, I64 (w64 (j + (1 : Int)))), (11, I64 q)], h := [some ⟨175, true, .one [.sl 1 (rtJ (rdB4 (rdB4 (rdB4 (bad || ((n : Nat) : Int) == (0 : Int)) (n - 1)) (n - 1 - 1 - 1 - 1 - 1)) (n - 1 - 1 - 1 - 1 - 1 - 1 - 1 - 1 - 1)) (fun j => ud (ub (ud (ub (ud (ub (ud (ub (ud (ub (B j))))))))))) (rdI4 (rdI4 (rdI4 (rdI i n) (n - 1)) (n - 1 - 1 - 1 - 1 - 1)) (n - 1 - 1 - 1 - 1 - 1 - 1 - 1 - 1 - 1)) (n - 1 - 1 - 1 - 1 - 1 - 1 - 1 - 1 - 1 - 1 - 1 - 1 - 1)) (rtN (rdB4 (rdB4 (rdB4 (bad || ((n : Nat) : Int) == (0 : Int)) (n - 1)) (n - 1 - 1 - 1 - 1 - 1)) (n - 1 - 1 - 1 - 1 - 1 - 1 - 1 - 1 - 1)) (fun j => ud (ub (ud (ub (ud (ub (ud (ub (ud (ub (B j))))))))))) (rdI4 (rdI4 (rdI4 (rdI i n) (n - 1)) (n - 1 - 1 - 1 - 1 - 1)) (n - 1 - 1 - 1 - 1 - 1 - 1 - 1 - 1 - 1)) (n - 1 - 1 - 1 - 1 - 1 - 1 - 1 - 1 - 1 - 1 - 1 - 1 - 1)), .v (.bool true)]⟩, some ⟨5, own, .row 1 m fun j => [.int .u8 (ud (ub (ud (ub (ud (ub (ud (ub (ud (ub (B j)))))))))))]⟩, some ⟨128, true, .one [i64 0, i64 0, i64 0, i64 0, i64 0, i64 0, .v (.slice none 0 0)]⟩, some ⟨128, true, .one [i64 q, i64 0, i64 0, i64 0, i64 0, i64 0, .sl 4 0 1]⟩, some ⟨121, true, .row 5 1 fun k => [.int .i64 (bif decide (k = 0) then rdX (fun j => ud (ub (B j))) i n else (0 : Int)), .int .i64 (bif decide (k = 0) then rnV4 (fun j => ud (ub (ud (ub (B j))))) (rdI i n) (n - 1) else (0 : Int)), .int .i64 (bif decide (k = 0) then rnV4 (fun j => ud (ub (ud (ub (ud (ub (B j))))))) (rdI4 (rdI i n) (n - 1)) (n - 1 - 1 - 1 - 1 - 1) else (0 : Int)), .int .i64 (bif decide (k = 0) then rnV4 (fun j => ud (ub (ud (ub (ud (ub (ud (ub (B j))))))))) (rdI4 (rdI4 (rdI i n) (n - 1)) (n - 1 - 1 - 1 - 1 - 1)) (n - 1 - 1 - 1 - 1 - 1 - 1 - 1 - 1 - 1) else (0 : Int)), .string (bif decide (k = 0) then rtS (rdB4 (rdB4 (rdB4 (bad || ((n : Nat) : Int) == (0 : Int)) (n - 1)) (n - 1 - 1 - 1 - 1 - 1)) (n - 1 - 1 - 1 - 1 - 1 - 1 - 1 - 1 - 1)) (fun j => ud (ub (ud (ub (ud (ub (ud (ub (ud (ub (B j))))))))))) (rdI4 (rdI4 (rdI4 (rdI i n) (n - 1)) (n - 1 - 1 - 1 - 1 - 1)) (n - 1 - 1 - 1 - 1 - 1 - 1 - 1 - 1 - 1)) (n - 1 - 1 - 1 - 1 - 1 - 1 - 1 - 1 - 1 - 1 - 1 - 1 - 1) else (⟨#[]⟩ : ByteArray))]⟩] }) := by kernel_rfl
theorem rq0_f {own : Bool} {m : Nat} {B : Nat → Int} {bad : Bool} {i n : Nat} {q c j : Int} : (rT rqG nol 2 48 (bodyOf Try.f145 0) rqK rqK (rq0S own m B bad i n q c j)).go [true, true, true, true, true, true, true, true, true, true, true, true, false, false, false, false, false] = some ([decide (j < c), true, true, true, true, true, !bad, yes (i + n ≤ m ∧ (fun j => ub (B j)) = fun j => ub (ud (ub (B j)))), yes (rdI i n + (n - 1) ≤ m ∧ (fun j => ub (ud (ub (B j)))) = fun j => ub (ud (ub (ud (ub (B j)))))), yes (rdI4 (rdI i n) (n - 1) + (n - 1 - 1 - 1 - 1 - 1) ≤ m ∧ (fun j => ub (ud (ub (ud (ub (B j)))))) = fun j => ub (ud (ub (ud (ub (ud (ub (B j)))))))), yes (rdI4 (rdI4 (rdI i n) (n - 1)) (n - 1 - 1 - 1 - 1 - 1) + (n - 1 - 1 - 1 - 1 - 1 - 1 - 1 - 1 - 1) ≤ m ∧ (fun j => ub (ud (ub (ud (ub (ud (ub (B j)))))))) = fun j => ub (ud (ub (ud (ub (ud (ub (ud (ub (B j)))))))))), yes (rdI4 (rdI4 (rdI4 (rdI i n) (n - 1)) (n - 1 - 1 - 1 - 1 - 1)) (n - 1 - 1 - 1 - 1 - 1 - 1 - 1 - 1 - 1) + (n - 1 - 1 - 1 - 1 - 1 - 1 - 1 - 1 - 1 - 1 - 1 - 1 - 1) ≤ m ∧ ((fun j => ub (ud (ub (ud (ub (ud (ub (ud (ub (B j)))))))))) = fun j => ub (ud (ub (ud (ub (ud (ub (ud (ub (ud (ub (B j)))))))))))) ∧ (0 : Int) ≤ rtL (fun j => ud (ub (ud (ub (ud (ub (ud (ub (ud (ub (B j))))))))))) (rdI4 (rdI4 (rdI4 (rdI i n) (n - 1)) (n - 1 - 1 - 1 - 1 - 1)) (n - 1 - 1 - 1 - 1 - 1 - 1 - 1 - 1 - 1)) (n - 1 - 1 - 1 - 1 - 1 - 1 - 1 - 1 - 1 - 1 - 1 - 1 - 1)), !rtE (rdB4 (rdB4 (rdB4 (bad || ((n : Nat) : Int) == (0 : Int)) (n - 1)) (n - 1 - 1 - 1 - 1 - 1)) (n - 1 - 1 - 1 - 1 - 1 - 1 - 1 - 1 - 1)) (fun j => ud (ub (ud (ub (ud (ub (ud (ub (ud (ub (B j))))))))))) (rdI4 (rdI4 (rdI4 (rdI i n) (n - 1)) (n - 1 - 1 - 1 - 1 - 1)) (n - 1 - 1 - 1 - 1 - 1 - 1 - 1 - 1 - 1)) (n - 1 - 1 - 1 - 1 - 1 - 1 - 1 - 1 - 1 - 1 - 1 - 1 - 1), true, true, true, true, true, true, true], Ex.normal, { sl := slots 104 [(0, .c (.ptr 0 0 0)), (2, .c (.ptr 2 0 0)), (3, .c (.ptr 3 0 0)), (4, I64 c), (5, I64 (w64 (j + (1 : Int)))), (11, I64 q)], h := [some ⟨175, true, .one [.sl 1 (rtJ (rdB4 (rdB4 (rdB4 (bad || ((n : Nat) : Int) == (0 : Int)) (n - 1)) (n - 1 - 1 - 1 - 1 - 1)) (n - 1 - 1 - 1 - 1 - 1 - 1 - 1 - 1 - 1)) (fun j => ud (ub (ud (ub (ud (ub (ud (ub (ud (ub (B j))))))))))) (rdI4 (rdI4 (rdI4 (rdI i n) (n - 1)) (n - 1 - 1 - 1 - 1 - 1)) (n - 1 - 1 - 1 - 1 - 1 - 1 - 1 - 1 - 1)) (n - 1 - 1 - 1 - 1 - 1 - 1 - 1 - 1 - 1 - 1 - 1 - 1 - 1)) (rtN (rdB4 (rdB4 (rdB4 (bad || ((n : Nat) : Int) == (0 : Int)) (n - 1)) (n - 1 - 1 - 1 - 1 - 1)) (n - 1 - 1 - 1 - 1 - 1 - 1 - 1 - 1 - 1)) (fun j => ud (ub (ud (ub (ud (ub (ud (ub (ud (ub (B j))))))))))) (rdI4 (rdI4 (rdI4 (rdI i n) (n - 1)) (n - 1 - 1 - 1 - 1 - 1)) (n - 1 - 1 - 1 - 1 - 1 - 1 - 1 - 1 - 1)) (n - 1 - 1 - 1 - 1 - 1 - 1 - 1 - 1 - 1 - 1 - 1 - 1 - 1)), .v (.bool (decide ((((rtS (rdB4 (rdB4 (rdB4 (bad || ((n : Nat) : Int) == (0 : Int)) (n - 1)) (n - 1 - 1 - 1 - 1 - 1)) (n - 1 - 1 - 1 - 1 - 1 - 1 - 1 - 1 - 1)) (fun j => ud (ub (ud (ub (ud (ub (ud (ub (ud (ub (B j))))))))))) (rdI4 (rdI4 (rdI4 (rdI i n) (n - 1)) (n - 1 - 1 - 1 - 1 - 1)) (n - 1 - 1 - 1 - 1 - 1 - 1 - 1 - 1 - 1)) (n - 1 - 1 - 1 - 1 - 1 - 1 - 1 - 1 - 1 - 1 - 1 - 1 - 1)).size : Nat) : Int) > (2000 : Int))))]⟩, some ⟨5, own, .row 1 m fun j => [.int .u8 (ud (ub (ud (ub (ud (ub (ud (ub (ud (ub (B j)))))))))))]⟩, some ⟨128, true, .one [i64 0, i64 0, i64 0, i64 0, i64 0, i64 0, .v (.slice none 0 0)]⟩, some ⟨128, true, .one [i64 q, i64 0, i64 0, i64 0, i64 0, i64 0, .sl 4 0 1]⟩, some ⟨121, true, .row 5 1 fun k => [.int .i64 (bif decide (k = 0) then rdX (fun j => ud (ub (B j))) i n else (0 : Int)), .int .i64 (bif decide (k = 0) then rnV4 (fun j => ud (ub (ud (ub (B j))))) (rdI i n) (n - 1) else (0 : Int)), .int .i64 (bif decide (k = 0) then rnV4 (fun j => ud (ub (ud (ub (ud (ub (B j))))))) (rdI4 (rdI i n) (n - 1)) (n - 1 - 1 - 1 - 1 - 1) else (0 : Int)), .int .i64 (bif decide (k = 0) then rnV4 (fun j => ud (ub (ud (ub (ud (ub (ud (ub (B j))))))))) (rdI4 (rdI4 (rdI i n) (n - 1)) (n - 1 - 1 - 1 - 1 - 1)) (n - 1 - 1 - 1 - 1 - 1 - 1 - 1 - 1 - 1) else (0 : Int)), .string (bif decide (k = 0) then rtS (rdB4 (rdB4 (rdB4 (bad || ((n : Nat) : Int) == (0 : Int)) (n - 1)) (n - 1 - 1 - 1 - 1 - 1)) (n - 1 - 1 - 1 - 1 - 1 - 1 - 1 - 1 - 1)) (fun j => ud (ub (ud (ub (ud (ub (ud (ub (ud (ub (B j))))))))))) (rdI4 (rdI4 (rdI4 (rdI i n) (n - 1)) (n - 1 - 1 - 1 - 1 - 1)) (n - 1 - 1 - 1 - 1 - 1 - 1 - 1 - 1 - 1)) (n - 1 - 1 - 1 - 1 - 1 - 1 - 1 - 1 - 1 - 1 - 1 - 1 - 1) else (⟨#[]⟩ : ByteArray))]⟩] }) := by kernel_rfl
theorem rq0_e1 {own : Bool} {m : Nat} {B : Nat → Int} {bad : Bool} {i n : Nat} {q c j : Int} : (rT rqG nol 2 48 (bodyOf Try.f145 0) rqK rqK (rq0S own m B bad i n q c j)).go [false, false, false, false, false, false, false] = some ([!decide (j < c), true, true, true, true, true, true], Ex.exit 1, { sl := slots 104 [(0, .c (.ptr 0 0 0)), (2, .c (.ptr 2 0 0)), (3, .c (.ptr 3 0 0)), (4, I64 c), (5, I64 j), (11, I64 q)], h := [some ⟨175, true, .one [.sl 1 i n, .v (.bool bad)]⟩, some ⟨5, own, .row 1 m fun j => [.int .u8 (B j)]⟩, some ⟨128, true, .one [i64 0, i64 0, i64 0, i64 0, i64 0, i64 0, .v (.slice none 0 0)]⟩, some ⟨128, true, .one [i64 q, i64 0, i64 0, i64 0, i64 0, i64 0, .v (.slice none 0 0)]⟩] }) := by kernel_rfl
theorem rq0_e2 {own : Bool} {m : Nat} {B : Nat → Int} {bad : Bool} {i n : Nat} {q c j : Int} : (rT rqG nol 2 48 (bodyOf Try.f145 0) rqK rqK (rq0S own m B bad i n q c j)).go [true, true, true, true, true, true, false] = some ([decide (j < c), true, true, true, true, true, !!bad], Ex.exit 1, { sl := slots 104 [(0, .c (.ptr 0 0 0)), (2, .c (.ptr 2 0 0)), (3, .c (.ptr 3 0 0)), (4, I64 c), (5, I64 j), (11, I64 q)], h := [some ⟨175, true, .one [.sl 1 i n, .v (.bool bad)]⟩, some ⟨5, own, .row 1 m fun j => [.int .u8 (B j)]⟩, some ⟨128, true, .one [i64 0, i64 0, i64 0, i64 0, i64 0, i64 0, .v (.slice none 0 0)]⟩, some ⟨128, true, .one [i64 q, i64 0, i64 0, i64 0, i64 0, i64 0, .v (.slice none 0 0)]⟩] }) := by kernel_rfl
end
section
open Go Go.RowKit
def gL (L : List Int) : Nat → Int := fun j => L.getD j 0
def gP (l : List Opp) : Nat → Opp := fun j => l.getD j zOpp
def lst (B : Nat → Int) (i n : Nat) : List Int := (List.range n).map fun j => B (i + j)
def rng (B : Nat → Int) : Prop := ∀ j, 0 ≤ B j ∧ B j < 256
theorem getD_app {α : Type} (l : List α) (x z : α) (j : Nat) : (l ++ [x]).getD j z = bif decide (j = l.length) then x else l.getD j z := by
  by_cases h : j = l.length
  · subst h; simp
  · rw [decide_eq_false h, cond_false]
    by_cases h2 : j < l.length
    · simp [List.getD_eq_getElem?_getD, List.getElem?_append_left h2]
    · rw [List.getD_eq_getElem?_getD, List.getD_eq_getElem?_getD, List.getElem?_eq_none (by simp; omega), List.getElem?_eq_none (by omega)]
theorem gL_app (L : List Int) (x : Int) : appB (gL L) L.length x = gL (L ++ [x]) := by funext j; unfold appB gL; rw [getD_app]
theorem gP_app (l : List Opp) (o : Opp) : appP (gP l) l.length o = gP (l ++ [o]) := by
  funext q; unfold appP gP; rw [getD_app]; cases decide (q = l.length) <;> rfl
theorem gL_app' (L : List Int) (k : Nat) (hk : k = L.length) (x : Int) : appB (gL L) k x = gL (L ++ [x]) := by subst hk; exact gL_app L x
theorem wrap_by8 (n : Int) : IntKind.u8.wrap n = by8 n := by rw [IntKind.wrap_u8]; rfl
theorem fdiv_k (n k : Int) (h : 0 ≤ k) : n.fdiv k = n / k := Int.fdiv_eq_ediv_of_nonneg n h
theorem gL_four (L : List Int) (k : Nat) (hk : k = L.length) (n : Int) : fourB (gL L) k n = gL (L ++ four n) := by
  subst hk
  have e1 : ((2 : Int) ^ min 24 IntKind.i64.bits) = 16777216 := rfl
  have e2 : ((2 : Int) ^ min 16 IntKind.i64.bits) = 65536 := rfl
  have e3 : ((2 : Int) ^ min 8 IntKind.i64.bits) = 256 := rfl
  have e4 : ((2 : Int) ^ min 0 IntKind.i64.bits) = 1 := rfl
  unfold fourB
  rw [e1, e2, e3, e4, fdiv_k _ _ (by omega), fdiv_k _ _ (by omega), fdiv_k _ _ (by omega), fdiv_k _ _ (by omega), Int.ediv_one]
  simp only [wrap_by8]
  rw [gL_app, gL_app' _ _ (by simp), gL_app' _ _ (by simp), gL_app' _ _ (by simp)]
  simp [four]
theorem getD_app2 (A C : List Int) (j : Nat) : (A ++ C).getD j 0 = bif decide (j < A.length) then A.getD j 0 else C.getD (j - A.length) 0 := by
  by_cases h : j < A.length
  · rw [decide_eq_true h, cond_true]; simp [List.getD_eq_getElem?_getD, List.getElem?_append_left h]
  · rw [decide_eq_false h, cond_false]; simp [List.getD_eq_getElem?_getD, List.getElem?_append_right (by omega : A.length ≤ j)]
theorem bt_bsW (s : ByteArray) (j : Nat) : bt s ((j : Nat) : Int) = (bs s).getD j 0 := by
  unfold bt bs
  rw [Int.toNat_natCast]
  simp only [List.getD_eq_getElem?_getD, List.getElem?_map]
  cases s.data.toList[j]? <;> rfl
theorem gL_tx (L : List Int) (k : Nat) (hk : k = L.length) (s : ByteArray) : txB (gL L) k s = gL (L ++ ([by8 ((s.size : Int) / 256), by8 (s.size : Int)] ++ bs s)) := by
  subst hk
  have e3 : ((2 : Int) ^ min 8 IntKind.i64.bits) = 256 := rfl
  funext j
  unfold txB
  rw [e3, fdiv_k _ _ (by omega), wrap_by8, wrap_by8, gL_app, gL_app' _ _ (by simp)]
  have e9 : gL (L ++ [by8 ((s.size : Int) / 256)] ++ [by8 (s.size : Int)]) = gL (L ++ [by8 ((s.size : Int) / 256), by8 (s.size : Int)]) := by rw [List.append_assoc]; rfl
  rw [e9]
  show _ = (L ++ ([by8 ((s.size : Int) / 256), by8 (s.size : Int)] ++ bs s)).getD j 0
  rw [← List.append_assoc, getD_app2]
  have hl : (L ++ [by8 ((s.size : Int) / 256), by8 (s.size : Int)]).length = L.length + 2 := by simp
  rw [hl]
  by_cases h : j < L.length + 2
  · rw [decide_eq_true h, cond_true, cond_true]; rfl
  · rw [decide_eq_false h, cond_false, cond_false, Nat.zero_add, bt_bsW]
    by_cases h2 : j < L.length + 2 + s.size
    · rw [decide_eq_true h2]; rfl
    · rw [decide_eq_false h2, cond_false, List.getD_eq_getElem?_getD, List.getElem?_eq_none (by rw [bs_len]; omega)]; rfl
theorem gL_op (L : List Int) (k : Nat) (hk : k = L.length) (o : Opp) : oneB (gL L) k o = gL (L ++ opB o) := by
  subst hk
  unfold oneB
  rw [wrap_by8, gL_app, gL_four _ _ (by simp), gL_four _ _ (by simp [four]), gL_four _ _ (by simp [four]), gL_tx _ _ (by simp [four])]
  simp [opB]
theorem gP_get (os : List Opp) (i : Nat) (h : i < os.length) : gP os i = os[i] := by simp [gP, List.getD_eq_getElem?_getD, h]
theorem wq_list (os : List Opp) (L : List Int) : ∀ i, i ≤ os.length → wqLen (gP os) L.length i = (L ++ (os.take i).flatMap opB).length ∧ wqBs (gP os) L.length (gL L) i = gL (L ++ (os.take i).flatMap opB)
  | 0, _ => by simp [wqLen, wqBs]
  | i + 1, h => by
    obtain ⟨h1, h2⟩ := wq_list os L i (by omega)
    have e : os.take (i + 1) = os.take i ++ [os[i]] := by simp
    have eP := gP_get os i (by omega)
    refine ⟨?_, ?_⟩
    · simp only [wqLen, h1, e, eP, List.flatMap_append, List.flatMap_singleton, List.length_append, opB_len]; omega
    · simp only [wqBs]
      rw [h2, eP, gL_op _ _ h1, e, List.flatMap_append, List.append_assoc, List.flatMap_singleton]
def allOk (os : List Opp) : Bool := os.all opOk
theorem oneBad_eq (bad : Bool) (o : Opp) : oneBad bad o = (bad || !opOk o) := by
  have e : decide (((o.s.size : Nat) : Int) > 2000) = !decide (o.s.size ≤ 2000) := by
    by_cases h : o.s.size ≤ 2000
    · rw [decide_eq_true h, decide_eq_false (by omega)]; rfl
    · rw [decide_eq_false h, decide_eq_true (by omega)]; rfl
  unfold oneBad opOk
  rw [e]
  cases bad <;> cases byOk o.k <;> cases fits o.i <;> cases fits o.a <;> cases fits o.b <;> cases decide (o.s.size ≤ 2000) <;> rfl
theorem wqBad_eq (os : List Opp) (bad : Bool) : ∀ i, i ≤ os.length → wqBad (gP os) bad i = (bad || !allOk (os.take i))
  | 0, _ => by simp [wqBad, allOk]
  | i + 1, h => by
    have e : os.take (i + 1) = os.take i ++ [os[i]] := by simp
    simp only [wqBad, wqBad_eq os bad i (by omega), oneBad_eq, gP_get os i (by omega), e, allOk, List.all_append, List.all_cons, List.all_nil, Bool.and_true]
    cases bad <;> cases (os.take i).all opOk <;> cases opOk os[i] <;> rfl
/- Reading. -/
theorem lst_len (B : Nat → Int) (i n : Nat) : (lst B i n).length = n := by simp [lst]
theorem lst_succ (B : Nat → Int) (i k : Nat) : lst B i (k + 1) = B i :: lst B (i + 1) k := by
  unfold lst
  rw [List.range_succ_eq_map]
  simp only [List.map_cons, List.map_map, Nat.add_zero]
  congr 1
  refine List.map_congr_left fun x _ => ?_
  show B (i + (x + 1)) = B (i + 1 + x)
  congr 1; omega
theorem lst_gL (L : List Int) : lst (gL L) 0 L.length = L := by
  refine List.ext_getElem (lst_len _ _ _) fun j h1 h2 => ?_
  simp [lst, gL, List.getD_eq_getElem?_getD, h2]
theorem lst_take (B : Nat → Int) (i n k : Nat) (h : k ≤ n) : (lst B i n).take k = lst B i k := by
  unfold lst; rw [← List.map_take, List.take_range, Nat.min_eq_left h]
theorem lst_drop (B : Nat → Int) (i n k : Nat) (h : k ≤ n) : (lst B i n).drop k = lst B (i + k) (n - k) := by
  refine List.ext_getElem (by simp [lst]) fun j h1 h2 => ?_
  simp [lst, Nat.add_assoc]
theorem rByte_lst {B : Nat → Int} (hB : rng B) (i n : Nat) (bad : Bool) : rByte (lst B i n, bad) = (rdX B i n, lst B (rdI i n) (n - 1), bad || ((n : Nat) : Int) == (0 : Int)) := by
  cases n with
  | zero => cases bad <;> rfl
  | succ k =>
    have e1 : (((k + 1 : Nat) : Int) == (0 : Int)) = false := by simp only [beq_eq_false_iff_ne]; omega
    have h := hB i
    unfold rdX rdI
    rw [e1, cond_false, cond_false, Bool.or_false, w64_id (by omega) (by omega), lst_succ]
    rfl
theorem rdX_in {B : Nat → Int} (hB : rng B) (i n : Nat) : 0 ≤ rdX B i n ∧ rdX B i n < 256 := by
  have h := hB i
  unfold rdX
  cases ((n : Nat) : Int) == (0 : Int)
  · rw [cond_false, w64_id (by omega) (by omega)]; omega
  · rw [cond_true]; omega
theorem or_low (a x : Nat) (hx : x < 256) : a * 256 ||| x = a * 256 + x := by
  have := Nat.shiftLeft_add_eq_or_of_lt (a := a) (b := x) (i := 8) (by omega)
  rw [Nat.shiftLeft_eq] at this
  exact this.symm
theorem nbS_eq {a x : Int} (ha : 0 ≤ a ∧ a < 16777216) (hx : 0 ≤ x ∧ x < 256) : IntKind.u32.wrap (nbS a x) = a * 256 + x := by
  obtain ⟨a', rfl⟩ := Int.eq_ofNat_of_zero_le ha.1
  obtain ⟨x', rfl⟩ := Int.eq_ofNat_of_zero_le hx.1
  have e3 : ((2 : Int) ^ min 8 IntKind.u32.bits) = 256 := rfl
  unfold nbS
  have b1 : BitVec.ofInt IntKind.u32.bits (IntKind.u32.wrap ((a' : Int) * 2 ^ min 8 IntKind.u32.bits)) = BitVec.ofNat IntKind.u32.bits (a' * 256) := by
    rw [e3, IntKind.wrap_u32, Int.emod_eq_of_lt (by omega) (by omega)]
    exact BitVec.ofInt_natCast _ (a' * 256)
  have b2 : BitVec.ofInt IntKind.u32.bits (IntKind.u32.wrap (x' : Int)) = BitVec.ofNat IntKind.u32.bits x' := by
    rw [IntKind.wrap_u32, Int.emod_eq_of_lt (by omega) (by omega)]
    exact BitVec.ofInt_natCast _ x'
  have e5 : (2 : Nat) ^ IntKind.u32.bits = 4294967296 := rfl
  rw [b1, b2, BitVec.toNat_or, BitVec.toNat_ofNat, BitVec.toNat_ofNat, e5, Nat.mod_eq_of_lt (by omega), Nat.mod_eq_of_lt (by omega), or_low _ _ (by omega), IntKind.wrap_u32]
  omega
theorem nbX_eq {x0 x1 x2 x3 : Int} (h0 : 0 ≤ x0 ∧ x0 < 256) (h1 : 0 ≤ x1 ∧ x1 < 256) (h2 : 0 ≤ x2 ∧ x2 < 256) (h3 : 0 ≤ x3 ∧ x3 < 256) : nbX x0 x1 x2 x3 = num4 x0 x1 x2 x3 := by
  unfold nbX
  rw [nbS_eq (a := 0) (by omega) h0, nbS_eq (by omega) h1, nbS_eq (by omega) h2, nbS_eq (by omega) h3, IntKind.wrap_i32]
  unfold num4
  rw [w64_id (by omega) (by omega)]
  split <;> omega
theorem rNum_lst {B : Nat → Int} (hB : rng B) (i n : Nat) (bad : Bool) : rNum (lst B i n, bad) = (rnV4 B i n, lst B (rdI4 i n) (n - 1 - 1 - 1 - 1), rdB4 bad n) := by
  unfold rNum
  simp only [rByte_lst hB]
  unfold rnV4
  rw [nbX_eq (rdX_in hB _ _) (rdX_in hB _ _) (rdX_in hB _ _) (rdX_in hB _ _)]
  rfl
theorem rtL_eq {B : Nat → Int} (hB : rng B) (i n : Nat) : rtL B i n = rdX B i n * 256 + rdX B (rdI i n) (n - 1) := by
  have h1 := rdX_in hB i n
  have h2 := rdX_in hB (rdI i n) (n - 1)
  unfold rtL
  obtain ⟨a', ha⟩ := Int.eq_ofNat_of_zero_le h1.1
  obtain ⟨x', hx⟩ := Int.eq_ofNat_of_zero_le h2.1
  rw [ha] at h1 ⊢
  rw [hx] at h2 ⊢
  have e3 : ((2 : Int) ^ min 8 IntKind.i64.bits) = 256 := rfl
  have b1 : BitVec.ofInt IntKind.i64.bits (w64 ((a' : Int) * 2 ^ min 8 IntKind.i64.bits)) = BitVec.ofNat IntKind.i64.bits (a' * 256) := by
    rw [e3, w64_id (by omega) (by omega)]
    exact BitVec.ofInt_natCast _ (a' * 256)
  have b2 : BitVec.ofInt IntKind.i64.bits (x' : Int) = BitVec.ofNat IntKind.i64.bits x' := BitVec.ofInt_natCast _ x'
  have e5 : (2 : Nat) ^ IntKind.i64.bits = 18446744073709551616 := rfl
  rw [b1, b2, BitVec.toNat_or, BitVec.toNat_ofNat, BitVec.toNat_ofNat, e5, Nat.mod_eq_of_lt (by omega), Nat.mod_eq_of_lt (by omega), or_low _ _ (by omega), w64_id (by omega) (by omega)]
  omega
theorem rtL_nn {B : Nat → Int} (hB : rng B) (i n : Nat) : 0 ≤ rtL B i n := by
  have h1 := rdX_in hB i n
  have h2 := rdX_in hB (rdI i n) (n - 1)
  rw [rtL_eq hB]; omega
theorem bytes_lst (B : Nat → Int) (i n : Nat) : bytesOf (fun j => ub (B j)) i n = toB (lst B i n) := by
  unfold bytesOf toB lst
  rw [List.map_map]
  rfl
theorem rText_lst {B : Nat → Int} (hB : rng B) (i n : Nat) (bad : Bool) : rText (lst B i n, bad) = (rtS bad B i n, lst B (rtJ bad B i n) (rtN bad B i n), rtE bad B i n) := by
  have hn := rtL_nn hB i n
  have hL := rtL_eq hB i n
  unfold rText
  simp only [rByte_lst hB, lst_len]
  have hE : (((bad || ((n : Nat) : Int) == (0 : Int)) || ((n - 1 : Nat) : Int) == (0 : Int)) || decide (rdX B i n * 256 + rdX B (rdI i n) (n - 1) > ((n - 1 - 1 : Nat) : Int))) = rtE bad B i n := by rw [← hL]; rfl
  rw [hE]
  unfold rtS rtJ rtN
  cases he : rtE bad B i n with
  | true => rfl
  | false =>
    rw [← hL]
    have h1 : ¬ rtL B i n > ((n - 1 - 1 : Nat) : Int) := by
      intro h
      unfold rtE at he
      rw [decide_eq_true h, Bool.or_true] at he
      cases he
    have h2 : ((bad || ((n : Nat) : Int) == (0 : Int)) || ((n - 1 : Nat) : Int) == (0 : Int)) = false := by
      unfold rtE at he
      rw [Bool.or_eq_false_iff] at he
      exact he.1
    simp only [cond_false, bytes_lst, h2]
    rw [lst_take _ _ _ _ (by omega), lst_drop _ _ _ _ (by omega)]
    rfl
theorem rdI_sum (i n : Nat) : rdI i n + (n - 1) = i + n := by
  unfold rdI
  by_cases h0 : n = 0
  · subst h0; rfl
  · have e1 : (((n : Nat) : Int) == (0 : Int)) = false := by simp only [beq_eq_false_iff_ne]; omega
    rw [e1, cond_false]; omega
theorem rdI4_sum (i n : Nat) : rdI4 i n + (n - 1 - 1 - 1 - 1) = i + n := by
  unfold rdI4; rw [rdI_sum, rdI_sum, rdI_sum, rdI_sum]
theorem rt_sum {B : Nat → Int} (hB : rng B) (bad : Bool) (i n : Nat) : rtJ bad B i n + rtN bad B i n = i + n := by
  have hn := rtL_nn hB i n
  have h0 : rtI i n + (n - 1 - 1) = i + n := by unfold rtI; rw [rdI_sum, rdI_sum]
  unfold rtJ rtN
  cases he : rtE bad B i n with
  | true => exact h0
  | false =>
    have h1 : ¬ rtL B i n > ((n - 1 - 1 : Nat) : Int) := by
      intro h
      unfold rtE at he
      rw [decide_eq_true h, Bool.or_true] at he
      cases he
    rw [cond_false, cond_false]; omega
end
section
open Go Go.RowKit
def zN (n : Nat) : Nat := n - 1 - 1 - 1 - 1 - 1 - 1 - 1 - 1 - 1 - 1 - 1 - 1 - 1
def zI (i n : Nat) : Nat := rdI4 (rdI4 (rdI4 (rdI i n) (n - 1)) (n - 1 - 1 - 1 - 1 - 1)) (n - 1 - 1 - 1 - 1 - 1 - 1 - 1 - 1 - 1)
def zB (bad : Bool) (n : Nat) : Bool := rdB4 (rdB4 (rdB4 (bad || ((n : Nat) : Int) == (0 : Int)) (n - 1)) (n - 1 - 1 - 1 - 1 - 1)) (n - 1 - 1 - 1 - 1 - 1 - 1 - 1 - 1 - 1)
def rqO (bad : Bool) (B : Nat → Int) (i n : Nat) : Opp := ⟨rdX B i n, rnV4 B (rdI i n) (n - 1), rnV4 B (rdI4 (rdI i n) (n - 1)) (n - 1 - 1 - 1 - 1 - 1), rnV4 B (rdI4 (rdI4 (rdI i n) (n - 1)) (n - 1 - 1 - 1 - 1 - 1)) (n - 1 - 1 - 1 - 1 - 1 - 1 - 1 - 1 - 1), rtS (zB bad n) B (zI i n) (zN n)⟩
def zE (bad : Bool) (B : Nat → Int) (i n : Nat) : Bool := rtE (zB bad n) B (zI i n) (zN n)
def zJ (bad : Bool) (B : Nat → Int) (i n : Nat) : Nat := rtJ (zB bad n) B (zI i n) (zN n)
def zM (bad : Bool) (B : Nat → Int) (i n : Nat) : Nat := rtN (zB bad n) B (zI i n) (zN n)
def zZ (bad : Bool) (B : Nat → Int) (i n : Nat) : Bool := zE bad B i n || decide ((rqO bad B i n).s.size > 2000)
theorem rOp_lst {B : Nat → Int} (hB : rng B) (i n : Nat) (bad : Bool) : rOp (lst B i n, bad) = (rqO bad B i n, lst B (zJ bad B i n) (zM bad B i n), zZ bad B i n) := by
  unfold rOp
  simp only [rByte_lst hB, rNum_lst hB, rText_lst hB]
  rfl
theorem zI_sum (i n : Nat) : zI i n + zN n = i + n := by
  unfold zI zN; rw [rdI4_sum, rdI4_sum, rdI4_sum, rdI_sum]
theorem z_sum {B : Nat → Int} (hB : rng B) (bad : Bool) (i n : Nat) : zJ bad B i n + zM bad B i n = i + n := by
  unfold zJ zM; rw [rt_sum hB, zI_sum]
theorem rq_round {own : Bool} {m : Nat} {B : Nat → Int} {i n : Nat} {q c j : Int} {na : Nat} {P : Nat → Opp} (hB : rng B) (hm : i + n ≤ m) (hj : j < c) (h0 : 0 ≤ j) (hc : c < 256) (hna : na < 300) :
    CodeSem rqG 2 (bodyOf Try.f145 0) (rqS own m B false i n q c j na P) (.normal, rqS own m B (zZ false B i n) (zJ false B i n) (zM false B i n) q c (j + 1) (na + 1) (appP P na (rqO false B i n))) := by
  have e1 : w64 (j + 1) = j + 1 := w64_id (by omega) (by omega)
  have hL := rtL_nn hB (zI i n) (zN n)
  have k1 := rdI_le hm
  have k2 := rdI4_le k1
  have k3 := rdI4_le k2
  have k4 := rdI4_le k3
  cases he : zE false B i n with
  | true =>
    have hz : zZ false B i n = true := by unfold zZ; rw [he]; rfl
    rw [hz]
    refine rT_sem rqG_ok noLoopsS ((rT_go rq_t ?_).trans ?_)
    · repeat' (first | exact AllT.nil | refine AllT.cons ?_ ?_)
      all_goals first | (with_reducible rfl) | exact he | exact yes_of ⟨by assumption, rfl⟩ | exact yes_of ⟨by assumption, rfl, hL⟩ | exact decide_eq_true (by omega) | exact decide_eq_true trivial | exact decide_eq_true (by unfold maxCells; omega)
    · simp only [e1]
      rfl
  | false =>
    have hz : zZ false B i n = decide (((rqO false B i n).s.size : Nat) > 2000) := by unfold zZ; rw [he]; rfl
    have hz2 : decide (((rqO false B i n).s.size : Nat) > 2000) = decide ((((rqO false B i n).s.size : Nat) : Int) > 2000) := by
      by_cases h : (rqO false B i n).s.size > 2000
      · rw [decide_eq_true h, decide_eq_true (by omega)]
      · rw [decide_eq_false h, decide_eq_false (by omega)]
    rw [hz, hz2]
    refine rT_sem rqG_ok noLoopsS ((rT_go rq_f ?_).trans ?_)
    · repeat' (first | exact AllT.nil | refine AllT.cons ?_ ?_)
      all_goals first | (with_reducible rfl) | exact (congrArg (!·) he).trans rfl | exact yes_of ⟨by assumption, rfl⟩ | exact yes_of ⟨by assumption, rfl, hL⟩ | exact decide_eq_true (by omega) | exact decide_eq_true trivial | exact decide_eq_true (by unfold maxCells; omega)
    · simp only [e1]
      rfl
theorem rq_round0 {own : Bool} {m : Nat} {B : Nat → Int} {i n : Nat} {q c j : Int} (hB : rng B) (hm : i + n ≤ m) (hj : j < c) (h0 : 0 ≤ j) (hc : c < 256) :
    CodeSem rqG 2 (bodyOf Try.f145 0) (rq0S own m B false i n q c j) (.normal, rqS own m B (zZ false B i n) (zJ false B i n) (zM false B i n) q c (j + 1) 1 (appP (fun _ => zOpp) 0 (rqO false B i n))) := by
  have e1 : w64 (j + 1) = j + 1 := w64_id (by omega) (by omega)
  have hL := rtL_nn hB (zI i n) (zN n)
  have k1 := rdI_le hm
  have k2 := rdI4_le k1
  have k3 := rdI4_le k2
  have k4 := rdI4_le k3
  cases he : zE false B i n with
  | true =>
    have hz : zZ false B i n = true := by unfold zZ; rw [he]; rfl
    rw [hz]
    refine rT_sem rqG_ok noLoopsS ((rT_go rq0_t ?_).trans ?_)
    · repeat' (first | exact AllT.nil | refine AllT.cons ?_ ?_)
      all_goals first | (with_reducible rfl) | exact he | exact yes_of ⟨by assumption, rfl⟩ | exact yes_of ⟨by assumption, rfl, hL⟩ | exact decide_eq_true (by omega) | exact decide_eq_true trivial | exact decide_eq_true (by unfold maxCells; omega)
    · simp only [e1]
      rfl
  | false =>
    have hz : zZ false B i n = decide (((rqO false B i n).s.size : Nat) > 2000) := by unfold zZ; rw [he]; rfl
    have hz2 : decide (((rqO false B i n).s.size : Nat) > 2000) = decide ((((rqO false B i n).s.size : Nat) : Int) > 2000) := by
      by_cases h : (rqO false B i n).s.size > 2000
      · rw [decide_eq_true h, decide_eq_true (by omega)]
      · rw [decide_eq_false h, decide_eq_false (by omega)]
    rw [hz, hz2]
    refine rT_sem rqG_ok noLoopsS ((rT_go rq0_f ?_).trans ?_)
    · repeat' (first | exact AllT.nil | refine AllT.cons ?_ ?_)
      all_goals first | (with_reducible rfl) | exact (congrArg (!·) he).trans rfl | exact yes_of ⟨by assumption, rfl⟩ | exact yes_of ⟨by assumption, rfl, hL⟩ | exact decide_eq_true (by omega) | exact decide_eq_true trivial | exact decide_eq_true (by unfold maxCells; omega)
    · simp only [e1]
      rfl
/-- The loop's rounds from Ops that are there. -/
theorem rq_rounds {own : Bool} {m : Nat} {B : Nat → Int} {q c : Int} (hB : rng B) (hc : c < 256) : ∀ (d : Nat) (bad : Bool) (i n : Nat) (j : Int) (P : List Opp), i + n ≤ m → 0 ≤ j → c = j + d → P.length ≤ j.toNat →
    LoopR rqG 2 (bodyOf Try.f145 0) (rqS own m B bad i n q c j P.length (gP P)) (.exit 1, rqS own m B (rOps d (lst B i n, bad)).2.2 (i + n - (rOps d (lst B i n, bad)).2.1.length) (rOps d (lst B i n, bad)).2.1.length q c (j + (rOps d (lst B i n, bad)).1.length) (P ++ (rOps d (lst B i n, bad)).1).length (gP (P ++ (rOps d (lst B i n, bad)).1)))
  | 0, bad, i, n, j, P, hm, h0, hd, hP => by
    simp only [rOps, lst_len, List.append_nil, List.length_nil, Nat.add_sub_cancel]
    refine LoopR.stop (by simp) (rT_sem rqG_ok noLoopsS ((rT_go rq_e1 ?_).trans ?_))
    · refine ⟨by rw [decide_eq_false (by omega)]; rfl, rfl, rfl, rfl, rfl, rfl, rfl, trivial⟩
    · simp only [Int.natCast_zero, Int.add_zero]; rfl
  | d + 1, true, i, n, j, P, hm, h0, hd, hP => by
    simp only [rOps, cond_true, lst_len, List.append_nil, List.length_nil, Nat.add_sub_cancel]
    refine LoopR.stop (by simp) (rT_sem rqG_ok noLoopsS ((rT_go rq_e2 ?_).trans ?_))
    · refine ⟨decide_eq_true (by omega), rfl, rfl, rfl, rfl, rfl, rfl, trivial⟩
    · simp only [Int.natCast_zero, Int.add_zero]; rfl
  | d + 1, false, i, n, j, P, hm, h0, hd, hP => by
    have hs := z_sum hB false i n
    have ih := rq_rounds (own := own) (m := m) (q := q) hB hc d (zZ false B i n) (zJ false B i n) (zM false B i n) (j + 1) (P ++ [rqO false B i n]) (by omega) (by omega) (by omega) (by simp; omega)
    refine LoopR.next (rq_round hB hm (by omega) h0 hc (by omega)) ?_
    rw [gP_app]
    have e2 : P.length + 1 = (P ++ [rqO false B i n]).length := by simp
    rw [e2]
    refine cast ?_ ih
    have e3 : rOps (d + 1) (lst B i n, false) = (rqO false B i n :: (rOps d (lst B (zJ false B i n) (zM false B i n), zZ false B i n)).1, (rOps d (lst B (zJ false B i n) (zM false B i n), zZ false B i n)).2) := by
      simp only [rOps, cond_false, rOp_lst hB]
    rw [e3]
    simp only [hs, List.append_assoc, List.cons_append, List.nil_append, List.length_cons]
    rw [show j + 1 + ((rOps d (lst B (zJ false B i n) (zM false B i n), zZ false B i n)).1.length : Int) = j + (((rOps d (lst B (zJ false B i n) (zM false B i n), zZ false B i n)).1.length + 1 : Nat) : Int) by omega]
def rqEnd (own : Bool) (m : Nat) (B : Nat → Int) (bad : Bool) (i n : Nat) (q c j : Int) : List Opp → St
  | [] => rq0S own m B bad i n q c j
  | o :: l => rqS own m B bad i n q c j (o :: l).length (gP (o :: l))
theorem rq_loop {own : Bool} {m : Nat} {B : Nat → Int} {q c : Int} (hB : rng B) (hc : c < 256) (h0 : 0 ≤ c) (bad : Bool) (i n : Nat) (hm : i + n ≤ m) :
    LoopR rqG 2 (bodyOf Try.f145 0) (rq0S own m B bad i n q c 0) (.exit 1, rqEnd own m B (rOps c.toNat (lst B i n, bad)).2.2 (i + n - (rOps c.toNat (lst B i n, bad)).2.1.length) (rOps c.toNat (lst B i n, bad)).2.1.length q c ((rOps c.toNat (lst B i n, bad)).1.length : Nat) (rOps c.toNat (lst B i n, bad)).1) := by
  obtain ⟨d, rfl⟩ := Int.eq_ofNat_of_zero_le h0
  rw [Int.toNat_natCast]
  cases d with
  | zero =>
    simp only [rOps, lst_len, List.length_nil, Nat.add_sub_cancel, rqEnd]
    refine LoopR.stop (by simp) (rT_sem rqG_ok noLoopsS ((rT_go rq0_e1 ?_).trans ?_))
    · refine ⟨rfl, rfl, rfl, rfl, rfl, rfl, rfl, trivial⟩
    · rfl
  | succ d =>
    cases bad with
    | true =>
      simp only [rOps, cond_true, lst_len, List.length_nil, Nat.add_sub_cancel, rqEnd]
      refine LoopR.stop (by simp) (rT_sem rqG_ok noLoopsS ((rT_go rq0_e2 ?_).trans ?_))
      · refine ⟨decide_eq_true (by omega), rfl, rfl, rfl, rfl, rfl, rfl, trivial⟩
      · rfl
    | false =>
      have hs := z_sum hB false i n
      have ih := rq_rounds (own := own) (m := m) (q := q) (c := ((d + 1 : Nat) : Int)) hB hc d (zZ false B i n) (zJ false B i n) (zM false B i n) (0 + 1) ([] ++ [rqO false B i n]) (by omega) (by omega) (by omega) (by simp)
      refine LoopR.next (rq_round0 hB hm (by omega) (by omega) hc) ?_
      have e1 : (fun _ => zOpp) = gP [] := rfl
      have e2 := gP_app [] (rqO false B i n)
      rw [List.length_nil] at e2
      rw [e1, e2]
      refine cast ?_ ih
      have e3 : rOps (d + 1) (lst B i n, false) = (rqO false B i n :: (rOps d (lst B (zJ false B i n) (zM false B i n), zZ false B i n)).1, (rOps d (lst B (zJ false B i n) (zM false B i n), zZ false B i n)).2) := by
        simp only [rOps, cond_false, rOp_lst hB]
      rw [e3]
      simp only [hs, List.cons_append, List.nil_append, List.length_cons, List.length_nil, rqEnd]
      rw [show (0 : Int) + 1 + ((rOps d (lst B (zJ false B i n) (zM false B i n), zZ false B i n)).1.length : Int) = (((rOps d (lst B (zJ false B i n) (zM false B i n), zZ false B i n)).1.length + 1 : Nat) : Int) by omega]
end
section
open Go Go.RowKit
theorem rw_1t0 {own : Bool} {m : Nat} {B : Nat → Int} {b0 : Bool} {i n i0 n0 : Nat} {q c j : Int} : (lfun rqG (tell (bodyOf Try.f145 0) (rq0S own m B true (rdI (rdI i n) (n - 1)) (n - 1 - 1) (rdX B i n) (rdX B (rdI i n) (n - 1)) 0) (.exit 1, rq0S own m B b0 i0 n0 q c j)) 60 Try.f145 [.c (.ptr 0 0 0)] [rdB false i n, rowU own m B]).go [] = some ([yes (i + n ≤ m ∧ (fun j => ub (B j)) = fun j => ub (ud (ub (B j)))), rdX (fun j => ud (ub (B j))) i n == (1 : Int), yes (rdI i n + (n - 1) ≤ m ∧ (fun j => ub (ud (ub (B j)))) = fun j => ub (ud (ub (ud (ub (B j)))))), false || ((n : Nat) : Int) == (0 : Int) || ((n - 1 : Nat) : Int) == (0 : Int), true, true, yes (wasS (bodyOf Try.f145 0) (rq0S own m B true (rdI (rdI i n) (n - 1)) (n - 1 - 1) (rdX B i n) (rdX B (rdI i n) (n - 1)) 0))], .agg [i64 q, i64 0, i64 0, i64 0, i64 0, i64 0, .v (.slice none 0 0)], [some ⟨175, true, .one [.sl 1 i0 n0, .v (.bool b0)]⟩, some ⟨5, own, .row 1 m fun j => [.int .u8 (B j)]⟩]) := by kernel_rfl
theorem rw_1t1 {own : Bool} {m : Nat} {B : Nat → Int} {b0 : Bool} {i n i0 n0 na : Nat} {q c j : Int} {P : Nat → Opp} : (lfun rqG (tell (bodyOf Try.f145 0) (rq0S own m B true (rdI (rdI i n) (n - 1)) (n - 1 - 1) (rdX B i n) (rdX B (rdI i n) (n - 1)) 0) (.exit 1, rqS own m B b0 i0 n0 q c j na P)) 60 Try.f145 [.c (.ptr 0 0 0)] [rdB false i n, rowU own m B]).go [] = some ([yes (i + n ≤ m ∧ (fun j => ub (B j)) = fun j => ub (ud (ub (B j)))), rdX (fun j => ud (ub (B j))) i n == (1 : Int), yes (rdI i n + (n - 1) ≤ m ∧ (fun j => ub (ud (ub (B j)))) = fun j => ub (ud (ub (ud (ub (B j)))))), false || ((n : Nat) : Int) == (0 : Int) || ((n - 1 : Nat) : Int) == (0 : Int), true, true, yes (wasS (bodyOf Try.f145 0) (rq0S own m B true (rdI (rdI i n) (n - 1)) (n - 1 - 1) (rdX B i n) (rdX B (rdI i n) (n - 1)) 0))], .agg [i64 q, i64 0, i64 0, i64 0, i64 0, i64 0, .sl 2 0 na], [some ⟨175, true, .one [.sl 1 i0 n0, .v (.bool b0)]⟩, some ⟨5, own, .row 1 m fun j => [.int .u8 (B j)]⟩, some ⟨121, true, .row 5 na fun j => [.int .i64 (P j).k, .int .i64 (P j).i, .int .i64 (P j).a, .int .i64 (P j).b, .string (P j).s]⟩]) := by kernel_rfl
theorem rw_1f0 {own : Bool} {m : Nat} {B : Nat → Int} {b0 : Bool} {i n i0 n0 : Nat} {q c j : Int} : (lfun rqG (tell (bodyOf Try.f145 0) (rq0S own m B (decide (rdX B (rdI i n) (n - 1) > 100)) (rdI (rdI i n) (n - 1)) (n - 1 - 1) (rdX B i n) (rdX B (rdI i n) (n - 1)) 0) (.exit 1, rq0S own m B b0 i0 n0 q c j)) 60 Try.f145 [.c (.ptr 0 0 0)] [rdB false i n, rowU own m B]).go [true, true, true, false, false, false] = some ([yes (i + n ≤ m ∧ (fun j => ub (B j)) = fun j => ub (ud (ub (B j)))), rdX (fun j => ud (ub (B j))) i n == (1 : Int), yes (rdI i n + (n - 1) ≤ m ∧ (fun j => ub (ud (ub (B j)))) = fun j => ub (ud (ub (ud (ub (B j)))))), !(false || ((n : Nat) : Int) == (0 : Int) || ((n - 1 : Nat) : Int) == (0 : Int)), true, true, yes (wasS (bodyOf Try.f145 0) (rq0S own m B (decide (rdX B (rdI i n) (n - 1) > 100)) (rdI (rdI i n) (n - 1)) (n - 1 - 1) (rdX B i n) (rdX B (rdI i n) (n - 1)) 0))], .agg [i64 q, i64 0, i64 0, i64 0, i64 0, i64 0, .v (.slice none 0 0)], [some ⟨175, true, .one [.sl 1 i0 n0, .v (.bool b0)]⟩, some ⟨5, own, .row 1 m fun j => [.int .u8 (B j)]⟩]) := by kernel_rfl
theorem rw_1f1 {own : Bool} {m : Nat} {B : Nat → Int} {b0 : Bool} {i n i0 n0 na : Nat} {q c j : Int} {P : Nat → Opp} : (lfun rqG (tell (bodyOf Try.f145 0) (rq0S own m B (decide (rdX B (rdI i n) (n - 1) > 100)) (rdI (rdI i n) (n - 1)) (n - 1 - 1) (rdX B i n) (rdX B (rdI i n) (n - 1)) 0) (.exit 1, rqS own m B b0 i0 n0 q c j na P)) 60 Try.f145 [.c (.ptr 0 0 0)] [rdB false i n, rowU own m B]).go [true, true, true, false, false, false] = some ([yes (i + n ≤ m ∧ (fun j => ub (B j)) = fun j => ub (ud (ub (B j)))), rdX (fun j => ud (ub (B j))) i n == (1 : Int), yes (rdI i n + (n - 1) ≤ m ∧ (fun j => ub (ud (ub (B j)))) = fun j => ub (ud (ub (ud (ub (B j)))))), !(false || ((n : Nat) : Int) == (0 : Int) || ((n - 1 : Nat) : Int) == (0 : Int)), true, true, yes (wasS (bodyOf Try.f145 0) (rq0S own m B (decide (rdX B (rdI i n) (n - 1) > 100)) (rdI (rdI i n) (n - 1)) (n - 1 - 1) (rdX B i n) (rdX B (rdI i n) (n - 1)) 0))], .agg [i64 q, i64 0, i64 0, i64 0, i64 0, i64 0, .sl 2 0 na], [some ⟨175, true, .one [.sl 1 i0 n0, .v (.bool b0)]⟩, some ⟨5, own, .row 1 m fun j => [.int .u8 (B j)]⟩, some ⟨121, true, .row 5 na fun j => [.int .i64 (P j).k, .int .i64 (P j).i, .int .i64 (P j).a, .int .i64 (P j).b, .string (P j).s]⟩]) := by kernel_rfl
theorem rw_2 {own : Bool} {m : Nat} {B : Nat → Int} {i n : Nat} : (lfun rqG nol 60 Try.f145 [.c (.ptr 0 0 0)] [rdB false i n, rowU own m B]).go [true, false] = some ([yes (i + n ≤ m ∧ (fun j => ub (B j)) = fun j => ub (ud (ub (B j)))), !rdX (fun j => ud (ub (B j))) i n == (1 : Int), rdX (fun j => ud (ub (B j))) i n == (2 : Int), true], .agg [i64 (rdX (fun j => ud (ub (B j))) i n), i64 0, i64 0, i64 0, i64 0, i64 0, .v (.slice none 0 0)], [some ⟨175, true, .one [.sl 1 (rdI i n) (n - 1), .v (.bool (false || ((n : Nat) : Int) == (0 : Int)))]⟩, some ⟨5, own, .row 1 m fun j => [.int .u8 (ud (ub (B j)))]⟩]) := by kernel_rfl
theorem rw_6 {own : Bool} {m : Nat} {B : Nat → Int} {i n : Nat} : (lfun rqG nol 60 Try.f145 [.c (.ptr 0 0 0)] [rdB false i n, rowU own m B]).go [true, false, false] = some ([yes (i + n ≤ m ∧ (fun j => ub (B j)) = fun j => ub (ud (ub (B j)))), !rdX (fun j => ud (ub (B j))) i n == (1 : Int), !rdX (fun j => ud (ub (B j))) i n == (2 : Int), rdX (fun j => ud (ub (B j))) i n == (6 : Int)], .agg [i64 (rdX (fun j => ud (ub (B j))) i n), i64 0, i64 0, i64 0, i64 0, i64 0, .v (.slice none 0 0)], [some ⟨175, true, .one [.sl 1 (rdI i n) (n - 1), .v (.bool (false || ((n : Nat) : Int) == (0 : Int)))]⟩, some ⟨5, own, .row 1 m fun j => [.int .u8 (ud (ub (B j)))]⟩]) := by kernel_rfl
theorem rw_3 {own : Bool} {m : Nat} {B : Nat → Int} {i n : Nat} : (lfun rqG nol 60 Try.f145 [.c (.ptr 0 0 0)] [rdB false i n, rowU own m B]).go [true, false, false, false] = some ([yes (i + n ≤ m ∧ (fun j => ub (B j)) = fun j => ub (ud (ub (B j)))), !rdX (fun j => ud (ub (B j))) i n == (1 : Int), !rdX (fun j => ud (ub (B j))) i n == (2 : Int), !rdX (fun j => ud (ub (B j))) i n == (6 : Int), rdX (fun j => ud (ub (B j))) i n == (3 : Int), yes (rdI i n + (n - 1) ≤ m ∧ (fun j => ub (ud (ub (B j)))) = fun j => ub (ud (ub (ud (ub (B j))))))], .agg [i64 (rdX (fun j => ud (ub (B j))) i n), i64 0, i64 (rnV4 (fun j => ud (ub (ud (ub (B j))))) (rdI i n) (n - 1)), i64 (rnV4 (fun j => ud (ub (ud (ub (B j))))) (rdI4 (rdI i n) (n - 1)) (n - 1 - 1 - 1 - 1 - 1)), i64 0, i64 0, .v (.slice none 0 0)], [some ⟨175, true, .one [.sl 1 (rdI4 (rdI4 (rdI i n) (n - 1)) (n - 1 - 1 - 1 - 1 - 1)) (n - 1 - 1 - 1 - 1 - 1 - 1 - 1 - 1 - 1), .v (.bool (rdB4 (rdB4 (false || ((n : Nat) : Int) == (0 : Int)) (n - 1)) (n - 1 - 1 - 1 - 1 - 1)))]⟩, some ⟨5, own, .row 1 m fun j => [.int .u8 (ud (ub (ud (ub (B j)))))]⟩]) := by kernel_rfl
theorem rw_4 {own : Bool} {m : Nat} {B : Nat → Int} {i n : Nat} : (lfun rqG nol 60 Try.f145 [.c (.ptr 0 0 0)] [rdB false i n, rowU own m B]).go [true, false, false, false, false] = some ([yes (i + n ≤ m ∧ (fun j => ub (B j)) = fun j => ub (ud (ub (B j)))), !rdX (fun j => ud (ub (B j))) i n == (1 : Int), !rdX (fun j => ud (ub (B j))) i n == (2 : Int), !rdX (fun j => ud (ub (B j))) i n == (6 : Int), !rdX (fun j => ud (ub (B j))) i n == (3 : Int), rdX (fun j => ud (ub (B j))) i n == (4 : Int), yes (rdI i n + (n - 1) ≤ m ∧ (fun j => ub (ud (ub (B j)))) = fun j => ub (ud (ub (ud (ub (B j)))))), yes (rdI4 (rdI4 (rdI i n) (n - 1)) (n - 1 - 1 - 1 - 1 - 1) + (n - 1 - 1 - 1 - 1 - 1 - 1 - 1 - 1 - 1) ≤ m ∧ (fun j => ub (ud (ub (ud (ub (B j)))))) = fun j => ub (ud (ub (ud (ub (ud (ub (B j))))))))], .agg [i64 (rdX (fun j => ud (ub (B j))) i n), i64 (rnV4 (fun j => ud (ub (ud (ub (ud (ub (B j))))))) (rdI4 (rdI4 (rdI i n) (n - 1)) (n - 1 - 1 - 1 - 1 - 1)) (n - 1 - 1 - 1 - 1 - 1 - 1 - 1 - 1 - 1)), i64 (rnV4 (fun j => ud (ub (ud (ub (B j))))) (rdI i n) (n - 1)), i64 (rnV4 (fun j => ud (ub (ud (ub (B j))))) (rdI4 (rdI i n) (n - 1)) (n - 1 - 1 - 1 - 1 - 1)), i64 0, i64 0, .v (.slice none 0 0)], [some ⟨175, true, .one [.sl 1 (rdI4 (rdI4 (rdI4 (rdI i n) (n - 1)) (n - 1 - 1 - 1 - 1 - 1)) (n - 1 - 1 - 1 - 1 - 1 - 1 - 1 - 1 - 1)) (n - 1 - 1 - 1 - 1 - 1 - 1 - 1 - 1 - 1 - 1 - 1 - 1 - 1), .v (.bool (rdB4 (rdB4 (rdB4 (false || ((n : Nat) : Int) == (0 : Int)) (n - 1)) (n - 1 - 1 - 1 - 1 - 1)) (n - 1 - 1 - 1 - 1 - 1 - 1 - 1 - 1 - 1)))]⟩, some ⟨5, own, .row 1 m fun j => [.int .u8 (ud (ub (ud (ub (ud (ub (B j)))))))]⟩]) := by kernel_rfl
theorem rw_5 {own : Bool} {m : Nat} {B : Nat → Int} {i n : Nat} : (lfun rqG nol 60 Try.f145 [.c (.ptr 0 0 0)] [rdB false i n, rowU own m B]).go [true, false, false, false, false, false] = some ([yes (i + n ≤ m ∧ (fun j => ub (B j)) = fun j => ub (ud (ub (B j)))), !rdX (fun j => ud (ub (B j))) i n == (1 : Int), !rdX (fun j => ud (ub (B j))) i n == (2 : Int), !rdX (fun j => ud (ub (B j))) i n == (6 : Int), !rdX (fun j => ud (ub (B j))) i n == (3 : Int), !rdX (fun j => ud (ub (B j))) i n == (4 : Int), rdX (fun j => ud (ub (B j))) i n == (5 : Int), yes (rdI i n + (n - 1) ≤ m ∧ (fun j => ub (ud (ub (B j)))) = fun j => ub (ud (ub (ud (ub (B j)))))), yes (rdI4 (rdI4 (rdI i n) (n - 1)) (n - 1 - 1 - 1 - 1 - 1) + (n - 1 - 1 - 1 - 1 - 1 - 1 - 1 - 1 - 1) ≤ m ∧ (fun j => ub (ud (ub (ud (ub (B j)))))) = fun j => ub (ud (ub (ud (ub (ud (ub (B j)))))))), yes (rdI4 (rdI4 (rdI4 (rdI i n) (n - 1)) (n - 1 - 1 - 1 - 1 - 1)) (n - 1 - 1 - 1 - 1 - 1 - 1 - 1 - 1 - 1) + (n - 1 - 1 - 1 - 1 - 1 - 1 - 1 - 1 - 1 - 1 - 1 - 1 - 1) ≤ m ∧ (fun j => ub (ud (ub (ud (ub (ud (ub (B j)))))))) = fun j => ub (ud (ub (ud (ub (ud (ub (ud (ub (B j))))))))))], .agg [i64 (rdX (fun j => ud (ub (B j))) i n), i64 0, i64 (rnV4 (fun j => ud (ub (ud (ub (B j))))) (rdI i n) (n - 1)), i64 (rnV4 (fun j => ud (ub (ud (ub (B j))))) (rdI4 (rdI i n) (n - 1)) (n - 1 - 1 - 1 - 1 - 1)), i64 (rnV4 (fun j => ud (ub (ud (ub (ud (ub (B j))))))) (rdI4 (rdI4 (rdI i n) (n - 1)) (n - 1 - 1 - 1 - 1 - 1)) (n - 1 - 1 - 1 - 1 - 1 - 1 - 1 - 1 - 1)), i64 (rnV4 (fun j => ud (ub (ud (ub (ud (ub (ud (ub (B j))))))))) (rdI4 (rdI4 (rdI4 (rdI i n) (n - 1)) (n - 1 - 1 - 1 - 1 - 1)) (n - 1 - 1 - 1 - 1 - 1 - 1 - 1 - 1 - 1)) (n - 1 - 1 - 1 - 1 - 1 - 1 - 1 - 1 - 1 - 1 - 1 - 1 - 1)), .v (.slice none 0 0)], [some ⟨175, true, .one [.sl 1 (rdI4 (rdI4 (rdI4 (rdI4 (rdI i n) (n - 1)) (n - 1 - 1 - 1 - 1 - 1)) (n - 1 - 1 - 1 - 1 - 1 - 1 - 1 - 1 - 1)) (n - 1 - 1 - 1 - 1 - 1 - 1 - 1 - 1 - 1 - 1 - 1 - 1 - 1)) (n - 1 - 1 - 1 - 1 - 1 - 1 - 1 - 1 - 1 - 1 - 1 - 1 - 1 - 1 - 1 - 1 - 1), .v (.bool (rdB4 (rdB4 (rdB4 (rdB4 (false || ((n : Nat) : Int) == (0 : Int)) (n - 1)) (n - 1 - 1 - 1 - 1 - 1)) (n - 1 - 1 - 1 - 1 - 1 - 1 - 1 - 1 - 1)) (n - 1 - 1 - 1 - 1 - 1 - 1 - 1 - 1 - 1 - 1 - 1 - 1 - 1)))]⟩, some ⟨5, own, .row 1 m fun j => [.int .u8 (ud (ub (ud (ub (ud (ub (ud (ub (B j)))))))))]⟩]) := by kernel_rfl
theorem rw_x {own : Bool} {m : Nat} {B : Nat → Int} {i n : Nat} : (lfun rqG nol 60 Try.f145 [.c (.ptr 0 0 0)] [rdB false i n, rowU own m B]).go [true, false, false, false, false, false, false] = some ([yes (i + n ≤ m ∧ (fun j => ub (B j)) = fun j => ub (ud (ub (B j)))), !rdX (fun j => ud (ub (B j))) i n == (1 : Int), !rdX (fun j => ud (ub (B j))) i n == (2 : Int), !rdX (fun j => ud (ub (B j))) i n == (6 : Int), !rdX (fun j => ud (ub (B j))) i n == (3 : Int), !rdX (fun j => ud (ub (B j))) i n == (4 : Int), !rdX (fun j => ud (ub (B j))) i n == (5 : Int)], .agg [i64 (rdX (fun j => ud (ub (B j))) i n), i64 0, i64 0, i64 0, i64 0, i64 0, .v (.slice none 0 0)], [some ⟨175, true, .one [.sl 1 (rdI i n) (n - 1), .v (.bool true)]⟩, some ⟨5, own, .row 1 m fun j => [.int .u8 (ud (ub (B j)))]⟩]) := by kernel_rfl
end
end Go.Proofs.Ytcpahifgdppkbaa.QAI
