/- Blanks: texts parted, more blanks: the plain laws. -/
import Derived.Test.YtcpahifgdppkbaaQRowStands4
import Derived.Laws.Externs
import Derived.WalkKit
import Derived.BigCall
import Derived.BigGuard
section
set_option linter.unusedVariables false
set_option linter.unusedSimpArgs false
namespace Go.Proofs.Ytcpahifgdppkbaa.QAI
open Go Go.RowKit
/-- A text's bytes. -/
def bs (s : ByteArray) : List Int := s.data.toList.map fun u => (u.toNat : Int)
theorem size_l (s : ByteArray) : s.data.toList.length = s.size := Array.length_toList
theorem bs_len (s : ByteArray) : (bs s).length = s.size := (List.length_map _).trans (size_l s)
theorem bs_app (a b : ByteArray) : bs (a ++ b) = bs a ++ bs b := by
  have : (a ++ b).data = a.data ++ b.data := ByteArray.data_append ..
  simp [bs, this]
theorem bt_bs (s : ByteArray) (i : Nat) (h : i < s.size) : bt s i = (bs s)[i]'(by rw [bs_len]; exact h) := by
  have : i < s.data.toList.length := by rw [size_l]; exact h
  simp [bt, bs, List.getD_eq_getElem?_getD, List.getElem?_eq_getElem this]
theorem strB_idx {M : Int → Int} {v r : Int} {s : ByteArray} : strB M v r s s.size = (bs s).mapIdx fun a c => gl M v r a c := by
  refine List.ext_getElem (by simp [strB, bs_len]) fun i h1 h2 => ?_
  simp only [strB, List.length_map, List.length_range] at h1
  simp only [strB, List.getElem_map, List.getElem_range, List.getElem_mapIdx]
  rw [bt_bs s i h1]
theorem strR_one {M : Int → Int} {R : Nat → Rn} : strR M R 1 = (bs (R 0).s).mapIdx fun a c => gl M (R 0).v 0 a c := by
  simp [strR, List.range_succ, strB_idx]
section
variable {α : Type}
theorem putAll_none {b : α → Bool} : ∀ (l acc : List α), (∀ x ∈ l, b x = false) → putAll b acc l = acc ++ l
  | [], acc, _ => by simp [putAll]
  | g :: l, acc, h => by
    show putAll b (put b acc g) l = _
    rw [putAll_none l _ fun x hx => h x (by simp [hx])]
    simp [put, h g (by simp)]
theorem trimF_none {b br : α → Bool} : ∀ (l : List α) (e : Bool), (∀ x ∈ l, b x = false) → trimF b br e l = l
  | [], e, _ => rfl
  | g :: l, e, h => by
    unfold trimF
    rw [h g (by simp), trimF_none l _ fun x hx => h x (by simp [hx])]
    rfl
theorem put_skip {b : α → Bool} {acc : List α} {g : α} (h1 : b g = true) (h2 : lastB b acc = true) : put b acc g = acc := by simp [put, h1, h2]
theorem put_last {b : α → Bool} {acc : List α} {g : α} (h1 : b g = true) : lastB b (put b acc g) = true := by
  unfold put
  cases h : (b g && lastB b acc)
  · simp [lastB_app, h1]
  · simp only [Bool.and_eq_true] at h
    simpa using h.2
end
theorem glyphs_pre {M : Int → Int} {R : Nat → Rn} (h : (R 0).v = 2) : (glyphs M R 1).length = (R 0).s.size := by
  have hn : ∀ x ∈ strR M R 1, blk x = false := by
    intro x hx
    obtain ⟨r, a, hr, _, rfl⟩ := strR_mem hx
    have : r = 0 := by omega
    subst this
    rw [blk_wht, h]
    simp
  unfold glyphs
  rw [goR_eq, putAll_none _ _ hn, List.nil_append, trimF_none _ _ hn, strR_one]
  simp [bs_len]
def kw (x : Gl) : Int × Int := (x.k, x.w)
def blk2 (p : Int × Int) : Bool := p.1 == 2 || p.1 == 3
def brk2 (p : Int × Int) : Bool := p.1 == 4
def kwB (M : Int → Int) (c : Int) : Int × Int := (gk 0 c, ga M 0 c)
theorem map_idx {α β γ : Type} (f : β → γ) (g : Nat → α → β) (l : List α) : (l.mapIdx g).map f = l.mapIdx fun i a => f (g i a) :=
  List.ext_getElem (by simp) fun i h1 h2 => by simp
theorem glyphs_kw {M : Int → Int} {R : Nat → Rn} (h : (R 0).v = 0) : (glyphs M R 1).map kw = trimF blk2 brk2 true (putAll blk2 [] ((bs (R 0).s).map (kwB M))) := by
  rw [glyphs_map (b := blk2) (br := brk2) (f := kw) (fun _ => rfl) (fun _ => rfl), strR_one]
  congr 2
  rw [map_idx, h]
  refine List.ext_getElem (by simp) fun i h1 h2 => ?_
  simp [Function.comp, kw, gl, kwB]
/-- A text with more blanks behind some. -/
def moreB : ByteArray := ⟨#[32, 10, 9]⟩
def moreS (s : ByteArray) (p : Nat → Bool) : Nat → ByteArray
  | 0 => ⟨#[]⟩
  | i + 1 => bif (bt s i == 32) && p i then moreS s p i ++ s.extract i (i + 1) ++ moreB else moreS s p i ++ s.extract i (i + 1)
theorem bs_ext (s : ByteArray) (i : Nat) (h : i < s.size) : bs (s.extract i (i + 1)) = [bt s i] := by
  have h' : i < s.data.toList.length := by rw [size_l]; exact h
  have e : (s.extract i (i + 1)).data.toList = (s.data.toList.drop i).take 1 := by
    simp [List.extract]
  rw [bs, e, List.drop_eq_getElem_cons h']
  simp [bt, List.getD_eq_getElem?_getD, List.getElem?_eq_getElem h']
theorem more_put (M : Int → Int) (s : ByteArray) (p : Nat → Bool) : ∀ i, i ≤ s.size → putAll blk2 [] ((bs (moreS s p i)).map (kwB M)) = putAll blk2 [] (((bs s).take i).map (kwB M))
  | 0, _ => rfl
  | i + 1, hi => by
    have ih := more_put M s p i (by omega)
    have e2 : (bs s).take (i + 1) = (bs s).take i ++ [bt s i] := by
      rw [List.take_add_one, List.getElem?_eq_getElem (by rw [bs_len]; omega), bt_bs s i (by omega)]
      rfl
    rw [e2, List.map_append, putAll_app, ← ih]
    rw [moreS]
    cases h : ((bt s i == 32) && p i)
    · simp only [cond_false]
      rw [bs_app, bs_ext s i (by omega), List.map_append, putAll_app]
    · simp only [cond_true]
      have h32 : bt s i = 32 := by
        simp only [Bool.and_eq_true, beq_iff_eq] at h
        exact h.1
      rw [bs_app, bs_app, bs_ext s i (by omega), List.map_append, List.map_append, putAll_app, putAll_app, h32]
      generalize putAll blk2 [] ((bs (moreS s p i)).map (kwB M)) = acc
      show put blk2 (put blk2 (put blk2 (put blk2 acc (kwB M 32)) (kwB M 32)) (kwB M 10)) (kwB M 9) = put blk2 acc (kwB M 32)
      have b1 : blk2 (kwB M 32) = true := rfl
      have hl := put_last (acc := acc) b1
      rw [put_skip b1 hl, put_skip (show blk2 (kwB M 10) = true from rfl) hl, put_skip (show blk2 (kwB M 9) = true from rfl) hl]
theorem glyphs_more {M : Int → Int} {R R' : Nat → Rn} {p : Nat → Bool} (h : (R 0).v = 0) (h' : (R' 0).v = 0) (hs : (R' 0).s = moreS (R 0).s p (R 0).s.size) : (glyphs M R 1).map kw = (glyphs M R' 1).map kw := by
  rw [glyphs_kw h, glyphs_kw h', hs, more_put M _ p _ (Nat.le_refl _), List.take_of_length_le (by rw [bs_len]; exact Nat.le_refl _)]
theorem kw_len {l l' : List Gl} (h : l.map kw = l'.map kw) : l.length = l'.length := by
  have := congrArg List.length h
  simpa using this
theorem kw_at {l l' : List Gl} (h : l.map kw = l'.map kw) {i : Nat} (hi : i < l.length) : (at_ l i).k = (at_ l' i).k ∧ (at_ l i).w = (at_ l' i).w := by
  have hl := kw_len h
  rw [at_get hi, at_get (by omega)]
  have e : (l.map kw)[i]'(by simpa using hi) = (l'.map kw)[i]'(by simp; omega) := by simp only [h]
  simp only [List.getElem_map, kw, Prod.mk.injEq] at e
  exact e
/- Parts of a text. -/
def bsR (P : Nat → Rn) : Nat → List Int
  | 0 => []
  | i + 1 => bsR P i ++ bs (P i).s
theorem bsR_len (P : Nat → Rn) : ∀ n, (bsR P n).length = lenR P n
  | 0 => rfl
  | n + 1 => by simp [bsR, lenR, bsR_len P n, bs_len]
def fP (P : Nat → Rn) (x : Gl) : Int × Int × Int := (x.k, x.w, lenR P x.r.toNat + x.a)
def f1 (x : Gl) : Int × Int × Int := (x.k, x.w, x.a)
def blk3 (p : Int × Int × Int) : Bool := p.1 == 2 || p.1 == 3
def brk3 (p : Int × Int × Int) : Bool := p.1 == 4
theorem parts_str {M : Int → Int} {P : Nat → Rn} {v : Int} : ∀ n, (∀ i, i < n → (P i).v = v) → (strR M P n).map (fP P) = (bsR P n).mapIdx fun a c => (gk v c, ga M v c, (a : Int))
  | 0, _ => rfl
  | n + 1, hv => by
    have ih := parts_str (M := M) n fun i hi => hv i (by omega)
    unfold strR at ih ⊢
    rw [List.range_succ, List.flatMap_append, List.map_append, ih, bsR, List.mapIdx_append]
    congr 1
    simp only [List.flatMap_cons, List.flatMap_nil, List.append_nil, strB_idx, map_idx, hv n (by omega)]
    refine List.ext_getElem (by simp) fun i h1 h2 => ?_
    simp only [List.getElem_mapIdx, fP, gl, Function.comp, bsR_len, Int.toNat_natCast, Prod.mk.injEq, true_and]
    omega
theorem glyphs_parts {M : Int → Int} {P R : Nat → Rn} {n : Nat} {v : Int} (hv : ∀ i, i < n → (P i).v = v) (h : (R 0).v = v) (hs : bs (R 0).s = bsR P n) : (glyphs M R 1).map f1 = (glyphs M P n).map (fP P) := by
  rw [glyphs_map (b := blk3) (br := brk3) (f := f1) (fun _ => rfl) (fun _ => rfl), glyphs_map (b := blk3) (br := brk3) (f := fP P) (fun _ => rfl) (fun _ => rfl), parts_str n hv, strR_one, ← hs, map_idx, h]
  rfl
theorem parts_len {l l' : List Gl} {f g : Gl → Int × Int × Int} (h : l.map f = l'.map g) : l.length = l'.length := by
  have := congrArg List.length h
  simpa using this
theorem parts_at {P : Nat → Rn} {l l' : List Gl} (h : l.map f1 = l'.map (fP P)) {i : Nat} (hi : i < l.length) : (at_ l i).k = (at_ l' i).k ∧ (at_ l i).w = (at_ l' i).w ∧ (at_ l i).a = lenR P (at_ l' i).r.toNat + (at_ l' i).a := by
  have hl := parts_len h
  rw [at_get hi, at_get (by omega)]
  have e : (l.map f1)[i]'(by simpa using hi) = (l'.map (fP P))[i]'(by simp; omega) := by simp only [h]
  simp only [List.getElem_map, f1, fP, Prod.mk.injEq] at e
  exact e
end Go.Proofs.Ytcpahifgdppkbaa.QAI
end
section
/- A round that goes on. -/
set_option linter.unusedVariables false
set_option linter.unusedSimpArgs false
namespace Go.Proofs.Ytcpahifgdppkbaa.QAI
open Go Go.RowKit
noncomputable def rnd (f : St → Tr (Ex × St)) (k : St → St) (S : St) : Option St := ((f S).bind fun r => match r.1 with | .normal => .ret (k r.2) | _ => .fail).eval
theorem rnd_ok {f : St → Tr (Ex × St)} {k : St → St} {S S' : St} (h : rnd f k S = some S') : round f k S = some (.normal, S') := by
  unfold rnd at h
  rw [Tr.eval_bind] at h
  rw [round_eq]
  cases h1 : (f S).eval with
  | none => rw [h1] at h; cases h
  | some r =>
    obtain ⟨e, S1⟩ := r
    rw [h1] at h
    cases e with
    | normal =>
      simp only [Option.bind_some, Tr.eval, Option.some.injEq] at h
      subst h
      rfl
    | exit i => simp [Tr.eval] at h
    | ret => simp [Tr.eval] at h
/-- What a loop leaves, where it ends. -/
noncomputable def rndE (f : St → Tr (Ex × St)) (S : St) : Option (Ex × St) := ((f S).bind fun r => match r.1 with | .normal => .fail | e => .ret (e, r.2)).eval
theorem rndE_ok {f : St → Tr (Ex × St)} {k : St → St} {S : St} {r : Ex × St} (h : rndE f S = some r) : round f k S = some r ∧ r.1 ≠ .normal := by
  unfold rndE at h
  rw [Tr.eval_bind] at h
  rw [round_eq]
  cases h1 : (f S).eval with
  | none => rw [h1] at h; cases h
  | some x =>
    obtain ⟨e, S1⟩ := x
    rw [h1] at h
    cases e with
    | normal => simp [Tr.eval] at h
    | exit i =>
      simp only [Option.bind_some, Tr.eval, Option.some.injEq] at h
      subst h
      exact ⟨rfl, by simp⟩
    | ret =>
      simp only [Option.bind_some, Tr.eval, Option.some.injEq] at h
      subst h
      exact ⟨rfl, by simp⟩
noncomputable def rndX (f : St → Tr (Ex × St)) (S : St) : Option (Ex × St) := ((f S).bind fun r => match r.1 with | .exit i => .ret (.exit i, r.2) | _ => .fail).eval
theorem rndX_ok {f : St → Tr (Ex × St)} {k : St → St} {S : St} {r : Ex × St} (h : rndX f S = some r) : round f k S = some r := by
  unfold rndX at h
  rw [Tr.eval_bind] at h
  rw [round_eq]
  cases h1 : (f S).eval with
  | none => rw [h1] at h; cases h
  | some x =>
    obtain ⟨e, S1⟩ := x
    rw [h1] at h
    cases e with
    | normal => simp [Tr.eval] at h
    | exit i =>
      simp only [Option.bind_some, Tr.eval, Option.some.injEq] at h
      subst h
      rfl
    | ret => simp [Tr.eval] at h
end Go.Proofs.Ytcpahifgdppkbaa.QAI
end
section
/- One way through a tree of tests: what is asked on it, and what stands at its end. -/
set_option linter.unusedVariables false
set_option linter.unusedSimpArgs false
namespace Go.Proofs.Ytcpahifgdppkbaa.QAI
open Go Go.RowKit

def Tr.go {α : Type} : Tr α → List Bool → Option (List Bool × α)
  | .ret a, _ => some ([], a)
  | .ite b t e, [] => (t.go []).map fun r => (b :: r.1, r.2)
  | .ite b t e, true :: ds => (t.go ds).map fun r => (b :: r.1, r.2)
  | .ite b t e, false :: ds => (e.go ds).map fun r => ((!b) :: r.1, r.2)
  | .fail, _ => none
def AllT : List Bool → Prop
  | [] => True
  | c :: cs => c = true ∧ AllT cs
theorem AllT.nil : AllT [] := trivial
theorem AllT.cons {c : Bool} {cs : List Bool} (h : c = true) (h' : AllT cs) : AllT (c :: cs) := ⟨h, h'⟩
theorem Tr.go_eval {α : Type} : ∀ {t : Tr α} {ds cs : List Bool} {a : α}, t.go ds = some (cs, a) → AllT cs → t.eval = some a
  | .ret a, ds, cs, a', h, _ => by
    simp only [Tr.go, Option.some.injEq, Prod.mk.injEq] at h
    rw [Tr.eval_ret, h.2]
  | .ite b t e, [], cs, a, h, hc => by
    simp only [Tr.go, Option.map_eq_some_iff] at h
    obtain ⟨r, hr, h⟩ := h
    cases h
    rw [Tr.eval_ite, if_pos hc.1]
    exact Tr.go_eval hr hc.2
  | .ite b t e, true :: ds, cs, a, h, hc => by
    simp only [Tr.go, Option.map_eq_some_iff] at h
    obtain ⟨r, hr, h⟩ := h
    cases h
    rw [Tr.eval_ite, if_pos hc.1]
    exact Tr.go_eval hr hc.2
  | .ite b t e, false :: ds, cs, a, h, hc => by
    simp only [Tr.go, Option.map_eq_some_iff] at h
    obtain ⟨r, hr, h⟩ := h
    cases h
    rw [Tr.eval_ite, if_neg (by have := hc.1; simp at this; simp [this])]
    exact Tr.go_eval hr hc.2
  | .fail, ds, cs, a, h, _ => by cases h

/-- One round as a tree. -/
noncomputable def roundT (f : St → Tr (Ex × St)) (k : St → St) (S : St) : Tr (Ex × St) := (f S).bind fun r => .ret (r.1, match r.1 with | .normal => k r.2 | _ => r.2)
theorem round_go {f : St → Tr (Ex × St)} {k : St → St} {S : St} {ds cs : List Bool} {r : Ex × St} (h : (roundT f k S).go ds = some (cs, r)) (hc : AllT cs) : round f k S = some r := Tr.go_eval h hc
theorem lfun_go {G : Ctx2} {ℓ : Loops} {d : Nat} {fn : Func} {args : List AV} {h : AHeap} (hℓ : LoopsOk G h.length ℓ) {ds cs : List Bool} {r} (hg : (lfun G ℓ d fn args h).go ds = some (cs, r)) (hc : AllT cs) : (afun G d fn args h).eval = some r :=
  lfun_ok hℓ (Tr.go_eval hg hc)
end Go.Proofs.Ytcpahifgdppkbaa.QAI
end
section
/- Loops told by what their rounds show: what stands at a loop's end is forgotten but for some slots. -/
set_option linter.unusedVariables false
set_option linter.unusedSimpArgs false
namespace Go.Proofs.Ytcpahifgdppkbaa.QAI
open Go Go.RowKit

/-- What a piece of code comes to, from a state on. -/
def CodeSem (G : Ctx2) (n0 : Nat) (c : Code) (S : St) (r : Ex × St) : Prop :=
  ∀ (B : Nat) (m0 : List Pl) (h0 : AHeap) (w0 : World) (a : Act) (w : World), h0.length = n0 → m0.length = h0.length → RI B m0 h0 w0 S a w →
    ∀ Q, (∀ a' w', RI B m0 h0 w0 r.2 a' w' → Q (toExit r.1) a' w') → c.wp G.P Q a w

def LoopsSem (G : Ctx2) (n0 : Nat) (ℓ : Loops) : Prop := ∀ d b S r, (ℓ d b S).eval = some r → CodeSem G n0 (.loop b) S r

theorem CodeSem.canon {G : Ctx2} {n0 : Nat} {c : Code} {S : St} {r : Ex × St} (T : List TI) (k : List (Nat × Option TypeId)) (h : CodeSem G n0 c S r) : CodeSem G n0 c S (r.1, canon T n0 k r.2) := by
  intro B m0 h0 w0 a w hn H0 hI Q hQ
  refine h B m0 h0 w0 a w hn H0 hI Q fun a' w' hI' => hQ a' w' ?_
  subst hn
  exact canon_ok H0 hI'

theorem lrun_sem {G : Ctx2} (hG : XOk G) {ℓ : Loops} {n0 : Nat} (hℓ : LoopsSem G n0 ℓ) : ∀ (d : Nat) (c : Code) (S : St) (e : Ex) (S' : St), (lrun G ℓ n0 d c S).eval = some (e, S') → CodeSem G n0 c S (e, S')
  | 0, c, S, e, S', he => by simp [lrun, Tr.eval] at he
  | d + 1, c, S, e, S', he => by
    have ih := lrun_sem hG hℓ d
    intro B m0 h0 w0 a w hn H0 hI Q hQ
    cases c with
    | skip =>
      simp only [lrun, Tr.eval, Option.some.injEq, Prod.mk.injEq] at he
      obtain ⟨rfl, rfl⟩ := he
      exact wp_skip (hQ a w hI)
    | region id ops draw =>
      simp only [lrun, Tr.eval_bind] at he
      cases draw with
      | false =>
        simp only [Bool.false_eq_true, if_false] at he
        cases h1 : (regSeq G ops ops.toList S).eval with
        | none => simp [h1] at he
        | some S1 =>
          rw [h1] at he
          simp only [Option.bind_some, Tr.eval, Option.some.injEq, Prod.mk.injEq] at he
          obtain ⟨rfl, rfl⟩ := he
          exact wp_region_list (regSeq_ok hG ops.toList S a w hI h1 hQ)
      | true =>
        simp only [if_true] at he
        cases h1 : (regDraw G ops S).eval with
        | none => simp [h1] at he
        | some S1 =>
          rw [h1] at he
          simp only [Option.bind_some, Tr.eval, Option.some.injEq, Prod.mk.injEq] at he
          obtain ⟨rfl, rfl⟩ := he
          exact regDraw_ok hG hI h1 Q hQ
    | seq x y =>
      simp only [lrun, Tr.eval_bind] at he
      cases h1 : (lrun G ℓ n0 d x S).eval with
      | none => simp [h1] at he
      | some r =>
        obtain ⟨e1, S1⟩ := r
        rw [h1] at he
        simp only [Option.bind_some] at he
        refine wp_seq (ih x S e1 S1 h1 B m0 h0 w0 a w hn H0 hI _ ?_)
        intro a' w' hI'
        cases e1 with
        | normal => exact ih y S1 e S' he B m0 h0 w0 a' w' hn H0 hI' Q hQ
        | exit id =>
          simp only [Tr.eval, Option.some.injEq, Prod.mk.injEq] at he
          obtain ⟨rfl, rfl⟩ := he
          exact hQ a' w' hI'
        | ret =>
          simp only [Tr.eval, Option.some.injEq, Prod.mk.injEq] at he
          obtain ⟨rfl, rfl⟩ := he
          exact hQ a' w' hI'
    | cond c x y =>
      simp only [lrun] at he
      split at he
      · rename_i t
        split at he
        · rename_i b hb
          rw [Tr.eval_ite] at he
          have hbv := hI.bool hb
          have hev : a.eval (.tmp t) = .bool b := by
            simp [Act.eval, Array.getD_eq_getD_getElem?, hbv]
          cases b with
          | true =>
            rw [if_pos rfl] at he
            exact wp_cond_true hev (ih x _ e S' he B m0 h0 w0 a w hn H0 (hI.lit hb) Q hQ)
          | false =>
            rw [if_neg (by simp)] at he
            exact wp_cond_false hev (ih y _ e S' he B m0 h0 w0 a w hn H0 (hI.lit hb) Q hQ)
        · cases he
      · cases he
    | block id x =>
      simp only [lrun, Tr.eval_bind] at he
      cases h1 : (lrun G ℓ n0 d x S).eval with
      | none => simp [h1] at he
      | some r =>
        obtain ⟨e1, S1⟩ := r
        rw [h1] at he
        simp only [Option.bind_some] at he
        refine wp_block (ih x S e1 S1 h1 B m0 h0 w0 a w hn H0 hI _ ?_)
        intro a' w' hI'
        cases e1 with
        | normal =>
          simp only [Tr.eval, Option.some.injEq, Prod.mk.injEq] at he
          obtain ⟨rfl, rfl⟩ := he
          exact hQ a' w' hI'
        | exit k =>
          simp only at he
          split at he
          · rename_i hk
            simp only [Tr.eval, Option.some.injEq, Prod.mk.injEq] at he
            obtain ⟨rfl, rfl⟩ := he
            show (if k = id then Q .normal a' w' else Q (.exit k) a' w')
            rw [if_pos hk]
            exact hQ a' w' hI'
          · rename_i hk
            simp only [Tr.eval, Option.some.injEq, Prod.mk.injEq] at he
            obtain ⟨rfl, rfl⟩ := he
            show (if k = id then Q .normal a' w' else Q (.exit k) a' w')
            rw [if_neg hk]
            exact hQ a' w' hI'
        | ret =>
          simp only [Tr.eval, Option.some.injEq, Prod.mk.injEq] at he
          obtain ⟨rfl, rfl⟩ := he
          exact hQ a' w' hI'
    | loop x =>
      simp only [lrun] at he
      refine hℓ d x _ (e, S') he B m0 h0 w0 a w hn H0 ?_ Q hQ
      subst hn
      exact canon_ok H0 hI
    | exit id =>
      simp only [lrun, Tr.eval, Option.some.injEq, Prod.mk.injEq] at he
      obtain ⟨rfl, rfl⟩ := he
      exact wp_exit (hQ a w hI)
    | ret =>
      simp only [lrun, Tr.eval, Option.some.injEq, Prod.mk.injEq] at he
      obtain ⟨rfl, rfl⟩ := he
      exact wp_ret (hQ a w hI)
    | rangeFunc _ _ _ _ => simp [lrun, Tr.eval] at he
    | scope _ => simp [lrun, Tr.eval] at he
    | label _ => simp [lrun, Tr.eval] at he
    | goto _ => simp [lrun, Tr.eval] at he
    | refuse _ => simp [lrun, Tr.eval] at he

/-- One round of a loop, as a tree: what it leaves is forgotten but for some slots, the same or others where the loop ends. -/
noncomputable def rT (G : Ctx2) (ℓ : Loops) (n0 d : Nat) (b : Code) (k ka : List (Nat × Option TypeId)) (S : St) : Tr (Ex × St) :=
  (lrun G ℓ n0 d b S).bind fun r => .ret (r.1, match r.1 with | .normal => canon G.T n0 k r.2 | _ => canon G.T n0 ka r.2)
theorem rT_sem {G : Ctx2} (hG : XOk G) {ℓ : Loops} {n0 d : Nat} (hℓ : LoopsSem G n0 ℓ) {b : Code} {k ka : List (Nat × Option TypeId)} {S : St} {r : Ex × St} (h : (rT G ℓ n0 d b k ka S).eval = some r) : CodeSem G n0 b S r := by
  unfold rT at h
  rw [Tr.eval_bind] at h
  cases h1 : (lrun G ℓ n0 d b S).eval with
  | none => rw [h1] at h; cases h
  | some x =>
    obtain ⟨e, S1⟩ := x
    rw [h1] at h
    simp only [Option.bind_some, Tr.eval, Option.some.injEq] at h
    subst h
    have hs := lrun_sem hG hℓ d b S e S1 h1
    cases e with
    | normal => exact hs.canon G.T k
    | exit i => exact hs.canon G.T ka
    | ret => exact hs.canon G.T ka
theorem rounds_sem {G : Ctx2} {n0 : Nat} {b : Code} (st : Nat → St) {N : Nat} {e : Ex} {Se : St} (he : e ≠ .normal) (hN : CodeSem G n0 b (st N) (e, Se)) :
    ∀ (L i : Nat), i ≤ N → N < L + i → (∀ j, i ≤ j → j < N → CodeSem G n0 b (st j) (.normal, st (j + 1))) →
      ∀ (B : Nat) (m0 : List Pl) (h0 : AHeap) (w0 : World) (a : Act) (w : World), h0.length = n0 → m0.length = h0.length → RI B m0 h0 w0 (st i) a w →
        ∀ Q, (∀ a' w', RI B m0 h0 w0 Se a' w' → Q (toExit e) a' w') → Code.rounds G.P b Q L a w
  | 0, i, hi, hL, _ => by omega
  | L + 1, i, hi, hL, h => by
    intro B m0 h0 w0 a w hn H0 hI Q hQ
    rw [rounds_succ]
    rcases Nat.lt_or_ge i N with hlt | hge
    · refine h i (Nat.le_refl _) hlt B m0 h0 w0 a w hn H0 hI _ ?_
      intro a' w' hI'
      show Code.rounds G.P b Q L a' w'
      exact rounds_sem st he hN L (i + 1) (by omega) (by omega) (fun j hj hjN => h j (by omega) hjN) B m0 h0 w0 a' w' hn H0 hI' Q hQ
    · have : i = N := by omega
      subst this
      refine hN B m0 h0 w0 a w hn H0 hI _ ?_
      intro a' w' hI'
      cases e with
      | normal => exact absurd rfl he
      | exit id => exact hQ a' w' hI'
      | ret => exact hQ a' w' hI'
/-- A loop by its rounds. -/
theorem loop_sem {G : Ctx2} (hG : XOk G) {ℓ : Loops} {n0 d : Nat} (hℓ : LoopsSem G n0 ℓ) {b : Code} {k ka : List (Nat × Option TypeId)} (st : Nat → St) (N : Nat) {e : Ex} {Se : St} (he : e ≠ .normal)
    (hN : (rT G ℓ n0 d b k ka (st N)).eval = some (e, Se)) (hs : ∀ j, j < N → (rT G ℓ n0 d b k ka (st j)).eval = some (.normal, st (j + 1))) : CodeSem G n0 (.loop b) (st 0) (e, Se) := by
  intro B m0 h0 w0 a w hn H0 hI Q hQ
  exact wp_loop_rounds (N + 1) (rounds_sem st he (rT_sem hG hℓ hN) (N + 1) 0 (Nat.zero_le _) (by omega) (fun j _ hj => rT_sem hG hℓ (hs j hj)) B m0 h0 w0 a w hn H0 hI Q hQ)

theorem loop_of {G : Ctx2} {n0 : Nat} {b : Code} (st : Nat → St) (N : Nat) {e : Ex} {Se : St} (he : e ≠ .normal) (hN : CodeSem G n0 b (st N) (e, Se)) (hs : ∀ j, j < N → CodeSem G n0 b (st j) (.normal, st (j + 1))) : CodeSem G n0 (.loop b) (st 0) (e, Se) := by
  intro B m0 h0 w0 a w hn H0 hI Q hQ
  exact wp_loop_rounds (N + 1) (rounds_sem st he hN (N + 1) 0 (Nat.zero_le _) (by omega) (fun j _ hj => hs j hj) B m0 h0 w0 a w hn H0 hI Q hQ)

theorem noLoopsS {G : Ctx2} {n0 : Nat} : LoopsSem G n0 (fun _ _ _ => .fail) := fun _ _ _ _ h => by cases h
noncomputable def nol : Loops := fun _ _ _ => .fail
/-- A loop told: its body, the state in which it begins, what it comes to. -/
noncomputable def tell (b0 : Code) (S0 : St) (r : Ex × St) : Loops := fun d b S => .need (yes (b = b0 ∧ S = S0)) (.ret r)
abbrev wasS (b0 : Code) (S0 : St) : Prop := b0 = b0 ∧ S0 = S0
theorem tell_ok {G : Ctx2} {n0 : Nat} {b0 : Code} {S0 : St} {r : Ex × St} (h : CodeSem G n0 (.loop b0) S0 r) : LoopsSem G n0 (tell b0 S0 r) := by
  intro d b S r' he
  obtain ⟨h1, h2⟩ := Tr.eval_need.1 he
  have : b = b0 ∧ S = S0 := by simpa [yes] using h1
  obtain ⟨rfl, rfl⟩ := this
  cases h2
  exact h
theorem byReg_sem {G : Ctx2} {n0 r : Nat} {a b : Loops} (ha : LoopsSem G n0 a) (hb : LoopsSem G n0 b) : LoopsSem G n0 (byReg r a b) := by
  intro d c S x h
  unfold byReg at h
  split at h
  · exact ha d c S x h
  · exact hb d c S x h
theorem rT_go {G : Ctx2} {ℓ : Loops} {n0 d : Nat} {b : Code} {k ka : List (Nat × Option TypeId)} {S : St} {ds cs : List Bool} {r : Ex × St} (h : (rT G ℓ n0 d b k ka S).go ds = some (cs, r)) (hc : AllT cs) : (rT G ℓ n0 d b k ka S).eval = some r := Tr.go_eval h hc

theorem lfun_spec {G : Ctx2} (hG : XOk G) {f : FuncId} {fn : Func} (hf : G.P.funcs[f]? = some fn) {F : Spec}
    (hF : ∀ args h r, (F args h).eval = some r → ∃ d ℓ, LoopsSem G h.length ℓ ∧ (lfun G ℓ d fn args h).eval = some r) : SpecOk G.P f F := by
  intro B args H r H' hF' m w vals hH hB hv
  obtain ⟨d, ℓ, hℓ, he⟩ := hF args H (r, H') hF'
  unfold lfun at he
  split at he
  · cases he
  · rename_i c hc
    refine calls_of_wp hf hc ?_
    rw [Tr.eval_bind] at he
    cases h1 : (lrun G ℓ H.length d c ⟨args ++ List.replicate (fn.ntmps - args.length) (.c .any), H⟩).eval with
    | none => simp [h1] at he
    | some rS =>
      obtain ⟨e, S⟩ := rS
      rw [h1] at he
      simp only [Option.bind_some] at he
      have hlen : args.length = vals.size := by simpa using hv.length
      have hI0 : RI B m H w ⟨args ++ List.replicate (fn.ntmps - args.length) (.c .any), H⟩ { tmps := vals ++ Array.replicate (fn.ntmps - vals.size) undef, defers := [] } w := by
        refine ⟨hB, ⟨m, Step.refl hH, ?_⟩, rfl⟩
        refine ⟨by simp [hlen], fun t v ht => ?_⟩
        rcases Nat.lt_or_ge t args.length with hl | hl
        · simp only at ht
          rw [List.getElem?_append_left hl] at ht
          obtain ⟨y, hy, hr⟩ := hv.get t v ht
          refine ⟨y, ?_, hr⟩
          rw [Array.getElem?_append_left (by rw [← hlen]; exact hl)]
          simpa using hy
        · simp only at ht
          rw [List.getElem?_append_right hl, List.getElem?_replicate] at ht
          split at ht
          · rename_i hlt
            cases ht
            refine ⟨undef, ?_, by simp [VR, CR]⟩
            rw [Array.getElem?_append_right (by rw [← hlen]; exact hl), Array.getElem?_replicate, if_pos (by rw [← hlen]; exact hlt)]
          · cases ht
      have fin : ∀ (e : Ex), ((resL G.T S fn.results.toList).bind fun l => (.ret (renAV (idxIn (closeOf S.h 10000 (refsOf S.h H.length ++ refAV (oneRes l)) (List.range H.length))) (oneRes l), subHeap S.h (closeOf S.h 10000 (refsOf S.h H.length ++ refAV (oneRes l)) (List.range H.length))) : Tr (AV × AHeap))).eval = some (r, H') →
          ∀ a' w', RI B m H w S a' w' → a'.defers = [] ∧ ∃ v, (results fn a'.tmps).run G.P w' = .ok v w' ∧ ∃ m' x, Ending.returned v = .returned x ∧ Step B m H w m' H' w' ∧ VR m' r x := by
        intro _ he a' w' hI
        obtain ⟨_, ⟨mf, hst, hs⟩, hd⟩ := hI
        refine ⟨hd, ?_⟩
        rw [Tr.eval_bind] at he
        cases h2 : (resL G.T S fn.results.toList).eval with
        | none => simp [h2] at he
        | some l =>
          rw [h2] at he
          simp only [Option.bind_some, Tr.eval, Option.some.injEq, Prod.mk.injEq] at he
          obtain ⟨rfl, rfl⟩ := he
          obtain ⟨vs, hr, hvs⟩ := resL_ok hG ⟨hB, ⟨mf, hst, hs⟩, hd⟩ hst hs _ l h2
          refine ⟨_, ?_, _, _, rfl, hst.sub hH.len, VR.ren (subPl_ren _) (oneRes_ok hvs)⟩
          rw [results_eq]
          simp only [Sem.run_bind, Array.mapM_eq_mapM_toList]
          have hmap : (List.toArray <$> (fn.results.toList.mapM (resRun a'.tmps))).run G.P w' = .ok vs.toArray w' := by
            rw [← bind_pure_comp, Sem.run_bind, hr]
            rfl
          rw [hmap]
          rfl
      have hfin := lrun_sem hG hℓ d c _ e S h1 B m H w _ w rfl hH.len hI0
      cases e with
      | normal => exact hfin _ fun a' w' hI => fin .normal he a' w' hI
      | exit id => cases he
      | ret => exact hfin _ fun a' w' hI => fin .ret he a' w' hI

/-- A spec of a function out of what its code comes to, its loops being told. -/
theorem knownS {K : Known} (hK : KnownOk K) {f : Nat} {fn : Func} (hf : Try.prog.funcs[f]? = some fn) {F : Spec}
    (h : ∀ args h r, (F args h).eval = some r → ∃ keep ts d ℓ, LoopsSem (GT K keep 0 ts) h.length ℓ ∧ (lfun (GT K keep 0 ts) ℓ d fn args h).eval = some r) : SpecOk Try.prog f F :=
  fun B args h' r H' he => by
    obtain ⟨keep, ts, d, ℓ, hℓ, he'⟩ := h _ _ _ he
    exact lfun_spec (F := fun a hh => .need (yes (a = args ∧ hh = h')) (.ret (r, H'))) (GT_ok hK keep 0 ts) hf (fun a hh r' hr => by
      obtain ⟨⟨e1, e2⟩, e3⟩ := (Tr.eval_ask (p := a = args ∧ hh = h') (t := .ret (r, H'))).1 hr
      subst e1 e2
      rw [Tr.eval_ret] at e3
      cases e3
      exact ⟨d, ℓ, hℓ, he'⟩) B args h' r H' (Tr.eval_ask.2 ⟨⟨rfl, rfl⟩, rfl⟩)

noncomputable def trueS (K : Known) (fn : Func) : Spec := fun args h => .need (yes (∃ keep ts d ℓ, LoopsSem (GT K keep 0 ts) h.length ℓ ∧ (lfun (GT K keep 0 ts) ℓ d fn args h).eval = some (Bo true, h))) (.ret (Bo true, h))
theorem trueS_ok {K : Known} (hK : KnownOk K) {f : Nat} {fn : Func} (hf : Try.prog.funcs[f]? = some fn) : SpecOk Try.prog f (trueS K fn) := by
  refine knownS hK hf fun args h r he => ?_
  obtain ⟨h1, he⟩ := Tr.eval_ask.1 he
  cases he
  exact h1
end Go.Proofs.Ytcpahifgdppkbaa.QAI
end
section
/- The first place of a byte in a text: Go's library. -/
set_option linter.unusedVariables false
set_option linter.unusedSimpArgs false
namespace Go.Proofs.Ytcpahifgdppkbaa.QAI
open Go Go.RowKit
set_option maxRecDepth 100000
theorem ntmps169 : Try.f169.ntmps = 8 := rfl
theorem ix_calls (s : ByteArray) (c : Int) (w : World) :
    Calls Try.prog 169 #[.string s, .int .u8 c] w fun e w' => e = .returned (.int .i64 (firstIdx s c.toNat.toUInt8)) ∧ w' = w := by
  go_enter Try.func169, ntmps169
  go_wp2
  rw [run_callFunc_extern Try.func175 (by kernel_rfl) (by kernel_rfl) (by kernel_rfl) (e := Extern.BytealgIndexByte.indexByte) (by kernel_rfl), run_indexByte_string]
  simp only [Result.andThen]
  rw [Oper.upon_value]
  go_wp2
  go_ret
  exact ⟨rfl, rfl⟩
noncomputable def ixF : Spec := fun args h => match args with
  | [.c (.v (.string s)), .c (.v (.int .u8 c))] => .ret (I64 (firstIdx s c.toNat.toUInt8), h)
  | _ => .fail
theorem ixF_ok : SpecOk Try.prog 169 ixF := by
  intro B args H r H' he m w vals hH hB hv
  unfold ixF at he
  split at he
  · rename_i s c
    simp only [Tr.eval, Option.some.injEq, Prod.mk.injEq] at he
    obtain ⟨rfl, rfl⟩ := he
    have e : vals = #[.string s, .int .u8 c] := by
      have hl := hv.length
      match vals, hl, hv with
      | ⟨[a, b]⟩, _, hv =>
        simp only [VRs, VR, CR] at hv
        obtain ⟨rfl, rfl, _⟩ := hv
        rfl
    subst e
    refine (ix_calls s c w).mono fun e w' h => ?_
    obtain ⟨rfl, rfl⟩ := h
    exact ⟨m, _, rfl, Step.refl hH, rfl⟩
  · cases he
noncomputable def KI : Known := [(169, ixF)]
theorem consK {K : Known} {f : Nat} {F : Spec} (h1 : SpecOk Try.prog f F) (h2 : nameOk Try.prog f = true) (h : KnownOk K) : KnownOk ((f, F) :: K) := by
  intro g G hg
  rcases List.mem_cons.1 hg with hg | hg
  · cases hg
    exact ⟨h1, h2⟩
  · exact h g G hg
theorem nilK : KnownOk [] := fun _ _ h => by cases h
theorem KI_ok : KnownOk KI := consK ixF_ok (by kernel_rfl) nilK
theorem white_ix (c : Int) (h0 : 0 ≤ c) (h1 : c < 256) : (decide (firstIdx ⟨#[32, 9, 10, 13]⟩ c.toNat.toUInt8 < 0)) = !(c == 32 || c == 9 || c == 10 || c == 13) := by
  obtain ⟨n, rfl⟩ := Int.eq_ofNat_of_zero_le h0
  have hn : n < 256 := by omega
  have key : ∀ m, m < 256 → (decide (firstIdx ⟨#[32, 9, 10, 13]⟩ ((m : Nat) : Int).toNat.toUInt8 < 0)) = !(((m : Nat) : Int) == 32 || ((m : Nat) : Int) == 9 || ((m : Nat) : Int) == 10 || ((m : Nat) : Int) == 13) := by
    decide +kernel
  exact key n hn
end Go.Proofs.Ytcpahifgdppkbaa.QAI
end
section
/- How wide a text is: metrics brought near, a text's width. -/
set_option linter.unusedVariables false
set_option linter.unusedSimpArgs false
namespace Go.Proofs.Ytcpahifgdppkbaa.QAI
open Go Go.RowKit
set_option maxRecDepth 100000
def v1 (x : Int) : List Value := [.int .i64 x]
def rowA (a : Nat → Int) : Option ABlk := some ⟨35, true, .row 1 256 fun k => v1 (a k)⟩
def aA (a : Nat → Int) : AV := .arr 256 fun k => .int .i64 (a k)
theorem gKnil : KnownOk [] := fun _ _ h => by cases h
theorem gKcons {K : Known} {f : Nat} {F : Spec} (h1 : SpecOk Try.prog f F) (h2 : nameOk Try.prog f = true) (h : KnownOk K) : KnownOk ((f, F) :: K) := by
  intro g G hg
  rcases List.mem_cons.1 hg with hg | hg
  · cases hg
    exact ⟨h1, h2⟩
  · exact h g G hg
/- Brought near, not small. -/
noncomputable def tmG (L : Nat) : Ctx2 := GK [] (fun k => if k = 2 then [(1,none),(2,none),(4,none),(5,none)] else []) L
def tmS (a : Nat → Int) (small : Bool) (i : Int) : St := ⟨slots 55 [(1, Bo small), (2, .c (.ptr 0 0 0)), (4, .c (.ptr 1 0 0)), (5, I64 i)], [rowA a, rowA fun _ => 0]⟩
def tmE (a : Nat → Int) (small : Bool) (i : Int) : St := ⟨slots 55 [(1, Bo small), (2, .c (.ptr 0 0 0)), (4, .c (.ptr 1 0 0)), (5, I64 i), (6, I64 i), (7, Bo false)], [rowA a, rowA fun _ => 0]⟩
def tu (x : Int) : Int := w64 ((u64 x).tmod 65537)
def tmR (a : Nat → Int) (i : Nat) : Nat → List Value := updC (fun k => v1 (a k)) i (splice (v1 (a i)) 0 [.int .i64 (tu (a i))])
theorem tm_rnd {L : Nat} {a : Nat → Int} {i : Int} : rnd (arun (tmG L) 0 55 (bodyOf Try.f46 0)) (canon (tmG L).T 0 ((tmG L).keep 2)) (tmS a false i) =
  bif decide (i < 256) then bif decide (0 ≤ i) then bif decide (i < 256) then bif decide (i.toNat < 256) then bif decide (0 ≤ i) then bif decide (i < 256) then bif decide (i.toNat < 256) then
    some ⟨slots 55 [(1, Bo false), (2, .c (.ptr 0 0 0)), (4, .c (.ptr 1 0 0)), (5, I64 (w64 (i + 1)))], [some ⟨35, true, .row 1 256 (tmR a i.toNat)⟩, rowA fun _ => 0]⟩
  else none else none else none else none else none else none else none := by kernel_rfl
theorem tm_rndX {L : Nat} {a : Nat → Int} {i : Int} : rndX (arun (tmG L) 0 55 (bodyOf Try.f46 0)) (tmS a false i) =
  bif decide (i < 256) then bif decide (0 ≤ i) then bif decide (i < 256) then bif decide (i.toNat < 256) then bif decide (0 ≤ i) then bif decide (i < 256) then bif decide (i.toNat < 256) then none
  else none else none else none else none else none else none else some (.exit 0, tmE a false i) := by kernel_rfl
theorem updC_at (f : Nat → List Value) (n : Nat) (x : List Value) (k : Nat) : updC f n x k = if k = n then x else f k := by
  unfold updC
  rw [selL_eq]
  by_cases h : k = n <;> simp [h]
def ta (a : Nat → Int) (i : Nat) : Nat → Int := fun j => if j < i then tu (a j) else a j
theorem tmR_eq (a : Nat → Int) (i : Nat) : tmR (ta a i) i = fun j => v1 (ta a (i + 1) j) := by
  funext j
  unfold tmR
  rw [updC_at]
  by_cases h : j = i
  · subst h
    simp only [if_true, ta, Nat.lt_irrefl, if_false, Nat.lt_succ_self]
    rfl
  · simp only [h, if_false, ta]
    by_cases h2 : j < i
    · have : j < i + 1 := by omega
      simp [h2, this]
    · have : ¬ j < i + 1 := by omega
      simp [h2, this]
theorem tm_loop {L : Nat} {a : Nat → Int} (hL : 256 < L) :
    (iter (arun (tmG L) 0 55 (bodyOf Try.f46 0)) (canon (tmG L).T 0 ((tmG L).keep 2)) L (tmS (ta a 0) false 0)).eval = some (.exit 0, tmE (ta a 256) false 256) := by
  refine iter_upto (fun i => tmS (ta a i) false i) (N := 256) (by simp) ?_ L 0 (Nat.zero_le _) (by omega) ?_
  · refine rndX_ok ?_
    rw [tm_rndX]
    have h1 : ¬ (((256 : Nat) : Int) < 256) := by omega
    simp only [h1, decide_false, cond_false]
    rfl
  · intro j _ hj
    refine rnd_ok ?_
    rw [tm_rnd]
    have h1 : (j : Int) < 256 := by omega
    have h3 : w64 ((j : Int) + 1) = ((j + 1 : Nat) : Int) := by rw [w64_id (by omega) (by omega)]; omega
    have h5 : decide ((0 : Int) ≤ (j : Int)) = true := by simp
    simp only [h1, h3, h5, hj, decide_true, cond_true, Int.toNat_natCast, tmR_eq]
    rfl
theorem tm_whole {L : Nat} {a : Nat → Int} :
    (lfun (tmG L) (told 55 (bodyOf Try.f46 0) (tmS (ta a 0) false 0) (.exit 0, tmE (ta a 256) false 256)) 60 Try.f46 [aA a, Bo false] []).eval =
      bif yes (was 55 (bodyOf Try.f46 0) (tmS (ta a 0) false 0)) then some (aA (ta a 256), []) else none := by kernel_rfl
def dv : Value → Int
  | .int _ a => a
  | _ => 0
noncomputable def tmF : Spec := fun args h => match args, h with
  | [.arr 256 f, .c (.v (.bool false))], [] => .need (yes (f = fun k => .int .i64 (dv (f k)))) (.ret (aA (ta (fun k => dv (f k)) 256), []))
  | _, _ => .fail
theorem tmF_ok : SpecOk Try.prog 46 tmF := by
  refine known' gKnil Try.func46 fun args h r he => ?_
  unfold tmF at he
  split at he
  · rename_i f
    obtain ⟨h1, he⟩ := Tr.eval_ask.1 he
    cases he
    have hl : LoopsOk (tmG 257) 0 _ := told_ok (tm_loop (L := 257) (a := fun k => dv (f k)) (by decide))
    have hw := tm_whole (L := 257) (a := fun k => dv (f k))
    rw [yes_of ⟨rfl, rfl, rfl⟩] at hw
    have hf := lfun_ok (h := []) hl hw
    rw [aA, ← h1] at hf
    exact ⟨_, _, _, hf⟩
  · cases he

/- Wide. -/
noncomputable def sGOf : Spec := afun (GK [] (fun _ => []) 0) 60 Try.f114
noncomputable def KG0 : Known := [(114, sGOf)]
theorem KG0_ok : KnownOk KG0 := gKcons (known0 gKnil 60 Try.func114) (by kernel_rfl) gKnil
noncomputable def wdG (L : Nat) : Ctx2 := GK KG0 (fun k => if k = 3 then [(1,none),(2,none),(5,none),(8,none),(9,none)] else []) L
def wdS (a : Nat → Int) (s : ByteArray) (out i : Int) : St := ⟨slots 20 [(1, .c (.v (.string s))), (2, .c (.ptr 0 0 0)), (5, I64 out), (8, I64 s.size), (9, I64 i)], [rowA a]⟩
def wdE (a : Nat → Int) (s : ByteArray) (out i : Int) : St := ⟨slots 20 [(1, .c (.v (.string s))), (2, .c (.ptr 0 0 0)), (5, I64 out), (8, I64 s.size), (9, I64 i), (10, Bo false)], [rowA a]⟩
def cl (x : Int) : Int := mnI 65536 (mxI 0 x)
theorem wd_rnd {L : Nat} {a : Nat → Int} {s : ByteArray} {out i : Int} : rnd (arun (wdG L) 0 54 (bodyOf Try.f47 0)) (canon (wdG L).T 0 ((wdG L).keep 3)) (wdS a s out i) =
  bif decide (i < s.size) then bif decide (0 ≤ i) then bif decide (i < s.size) then bif decide (bt s i < 256) then bif decide ((bt s i).toNat < 256) then
    some (wdS a s (w64 (out + cl (a (bt s i).toNat))) (w64 (i + 1)))
  else none else none else none else none else none := by kernel_rfl
theorem wd_rndX {L : Nat} {a : Nat → Int} {s : ByteArray} {out i : Int} : rndX (arun (wdG L) 0 54 (bodyOf Try.f47 0)) (wdS a s out i) =
  bif decide (i < s.size) then bif decide (0 ≤ i) then bif decide (i < s.size) then bif decide (bt s i < 256) then bif decide ((bt s i).toNat < 256) then none
  else none else none else none else none else some (.exit 0, wdE a s out i) := by kernel_rfl
/-- The width of bytes. -/
def cs (a : Nat → Int) (l : List UInt8) : Int := (l.map fun b => cl (a b.toNat)).sum
theorem cl_b (x : Int) : 0 ≤ cl x ∧ cl x ≤ 65536 := by unfold cl mnI mxI; split <;> (try split) <;> (try split) <;> omega
theorem cs_b (a : Nat → Int) : ∀ l : List UInt8, 0 ≤ cs a l ∧ cs a l ≤ l.length * 65536
  | [] => ⟨Int.le_refl _, by simp [cs]⟩
  | b :: l => by
    have := cs_b a l
    have h := cl_b (a b.toNat)
    have e : cs a (b :: l) = cl (a b.toNat) + cs a l := by simp [cs]
    rw [e, List.length_cons]
    omega
theorem cs_append (a : Nat → Int) (l k : List UInt8) : cs a (l ++ k) = cs a l + cs a k := by simp [cs]
theorem cs_one (a : Nat → Int) (b : UInt8) : cs a [b] = cl (a b.toNat) := by simp [cs]
theorem bt_at (s : ByteArray) {j : Nat} (hj : j < s.data.toList.length) : bt s j = ((s.data.toList[j].toNat : Nat) : Int) := by
  unfold bt
  rw [Int.toNat_natCast, List.getD_eq_getElem?_getD, List.getElem?_eq_getElem hj]
  rfl
theorem size_len (s : ByteArray) : s.data.toList.length = s.size := Array.length_toList
theorem wd_loop {L : Nat} {a : Nat → Int} {s : ByteArray} (hs : s.size ≤ 2 ^ 40) (hL : s.size < L) :
    (iter (arun (wdG L) 0 54 (bodyOf Try.f47 0)) (canon (wdG L).T 0 ((wdG L).keep 3)) L (wdS a s 0 0)).eval = some (.exit 0, wdE a s (cs a s.data.toList) s.size) := by
  refine iter_upto (fun i => wdS a s (cs a (s.data.toList.take i)) i) (N := s.size) (by simp) ?_ L 0 (Nat.zero_le _) (by omega) ?_
  · refine rndX_ok ?_
    rw [wd_rndX]
    have e : s.data.toList.take s.size = s.data.toList := by rw [← size_len, List.take_length]
    simp [e]
  · intro j _ hj
    refine rnd_ok ?_
    rw [wd_rnd]
    have h1 : (j : Int) < s.size := by omega
    have h3 : w64 ((j : Int) + 1) = ((j + 1 : Nat) : Int) := by rw [w64_id (by omega) (by omega)]; omega
    have h5 : decide ((0 : Int) ≤ (j : Int)) = true := by simp
    have hjl : j < s.data.toList.length := by rw [size_len]; exact hj
    have hb := bt_at s hjl
    have hlt : s.data.toList[j].toNat < 256 := UInt8.toNat_lt _
    have h6 : bt s j < 256 := by rw [hb]; omega
    have h7 : (bt s j).toNat < 256 := by rw [hb]; omega
    have h8 : w64 (cs a (s.data.toList.take j) + cl (a (bt s j).toNat)) = cs a (s.data.toList.take (j + 1)) := by
      have hc := cs_b a (s.data.toList.take j)
      have hcl := cl_b (a (bt s j).toNat)
      have hlen : (s.data.toList.take j).length ≤ j := by simp; omega
      rw [List.take_add_one, List.getElem?_eq_getElem hjl, Option.toList_some, cs_append, cs_one]
      have e : (bt s j).toNat = s.data.toList[j].toNat := by rw [hb]; omega
      rw [e] at hcl ⊢
      exact w64_id (by omega) (by omega)
    simp only [h1, h3, h5, h6, h7, h8, decide_true, cond_true]
theorem wd_whole {L : Nat} {a : Nat → Int} {s : ByteArray} {w : Int} :
    (lfun (wdG L) (told 54 (bodyOf Try.f47 0) (wdS a s 0 0) (.exit 0, wdE a s w s.size)) 60 Try.f47 [aA a, .c (.v (.string s))] []).eval =
      bif yes (was 54 (bodyOf Try.f47 0) (wdS a s 0 0)) then some (I64 w, []) else none := by kernel_rfl
noncomputable def wdF (d : Spec) : Spec := fun args h => match args, h with
  | [.arr 256 f, .c (.v (.string s))], [] => .need (yes (s.size ≤ 2 ^ 40 ∧ f = fun k => .int .i64 (dv (f k)))) (.ret (I64 (cs (fun k => dv (f k)) s.data.toList), []))
  | args, h => d args h
theorem wdF_ok : SpecOk Try.prog 47 (wdF fun _ _ => .fail) := by
  refine known' KG0_ok Try.func47 fun args h r he => ?_
  unfold wdF at he
  split at he
  · rename_i f s
    obtain ⟨⟨h0, h1⟩, he⟩ := Tr.eval_ask.1 he
    cases he
    have hl : LoopsOk (wdG (s.size + 1)) 0 _ := told_ok (wd_loop (a := fun k => dv (f k)) h0 (Nat.lt_succ_self _))
    have hw := wd_whole (L := s.size + 1) (a := fun k => dv (f k)) (s := s) (w := cs (fun k => dv (f k)) s.data.toList)
    rw [yes_of ⟨rfl, rfl, rfl⟩] at hw
    have hf := lfun_ok (h := []) hl hw
    rw [aA, ← h1] at hf
    exact ⟨_, _, _, hf⟩
  · cases he

/- awake. -/
noncomputable def KG1 : Known := [(47, afun (wdG 10) 60 Try.f47), (48, afun (GK [] (fun k => if k = 2 then [(6,none),(7,none)] else []) 300) 60 Try.f48), (51, afun (GK [] (fun _ => []) 0) 60 Try.f51)]
theorem KG1_ok : KnownOk KG1 := gKcons (known' KG0_ok Try.func47 fun _ _ _ h => ⟨_, _, _, h⟩) (by kernel_rfl) (gKcons (known' gKnil Try.func48 fun _ _ _ h => ⟨_, _, _, h⟩) (by kernel_rfl) (gKcons (known0 gKnil 60 Try.func51) (by kernel_rfl) gKnil))
noncomputable def sAwakeG : Spec := fun args h => match args, h with
  | [], [] => .ret (Bo true, [])
  | _, _ => .fail
end Go.Proofs.Ytcpahifgdppkbaa.QAI
end
section
/- Glyphs: a byte's, blanks, in the program and in the document. -/
set_option linter.unusedVariables false
set_option linter.unusedSimpArgs false
namespace Go.Proofs.Ytcpahifgdppkbaa.QAI
open Go Go.RowKit
set_option maxRecDepth 100000
def Mt (a : Nat → Int) : Int → Int := fun c => cl (a c.toNat)
abbrev U8 (c : Int) : AV := .c (.v (.int .u8 c))
noncomputable def KY : Known := [(166, afun (GK KI (fun _ => []) 0) 60 Try.f166), (114, sGOf)]
theorem KY_ok : KnownOk KY := consK (known0 KI_ok 60 Try.func166) (by kernel_rfl) (consK (known0 nilK 60 Try.func114) (by kernel_rfl) nilK)
noncomputable def gyG : Ctx2 := GT KY (fun _ => []) 0 []
noncomputable def KA1 : Known := [(150, afun (GK [] (fun _ => []) 0) 60 Try.f150)]
theorem KA1_ok : KnownOk KA1 := consK (known0 nilK 60 Try.func150) (by kernel_rfl) nilK
noncomputable def adG : Ctx2 := GT KA1 (fun _ => []) 0 []
noncomputable def niG : Ctx2 := GT [] (fun _ => []) 0 []
theorem gy_nf {a : Nat → Int} {v c : Int} : (lfun gyG nol 60 Try.f156 [.c (.ptr 0 0 0), I64 v, U8 c] [rowA a]).eval =
  bif v == (2 : Int) then
    bif c == (10 : Int) then
      some
        (AV.tup [I64 (4 : Int), I64 (0 : Int)],
          [some
              { t := 35, own := true,
                c := Cont.row 1 256 fun k => [Value.int IntKind.i64 (a k)] }])
    else
      bif v == (2 : Int) then
        bif decide ((0 : Int) ≤ c) then
          bif decide (c < ↑(256 : Nat)) then
            bif decide (c.toNat < 256) then
              some
                (AV.tup [I64 (1 : Int), I64 (mnI (65536 : Int) (mxI (0 : Int) (a c.toNat)))],
                  [some
                      { t := 35, own := true,
                        c := Cont.row 1 256 fun k => [Value.int IntKind.i64 (a k)] }])
            else none
          else none
        else none
      else
        bif
            decide
              (firstIdx { data := #[(32 : UInt8), (9 : UInt8), (10 : UInt8), (13 : UInt8)] } c.toNat.toUInt8 <
                (0 : Int)) then
          bif decide ((0 : Int) ≤ c) then
            bif decide (c < ↑(256 : Nat)) then
              bif decide (c.toNat < 256) then
                some
                  (AV.tup [I64 (1 : Int), I64 (mnI (65536 : Int) (mxI (0 : Int) (a c.toNat)))],
                    [some
                        { t := 35, own := true,
                          c := Cont.row 1 256 fun k => [Value.int IntKind.i64 (a k)] }])
              else none
            else none
          else none
        else
          bif v == (1 : Int) then
            some
              (AV.tup [I64 (3 : Int), I64 (mnI (65536 : Int) (mxI (0 : Int) (a 32)))],
                [some
                    { t := 35, own := true,
                      c := Cont.row 1 256 fun k => [Value.int IntKind.i64 (a k)] }])
          else
            some
              (AV.tup [I64 (2 : Int), I64 (mnI (65536 : Int) (mxI (0 : Int) (a 32)))],
                [some
                    { t := 35, own := true,
                      c := Cont.row 1 256 fun k => [Value.int IntKind.i64 (a k)] }])
  else
    bif v == (2 : Int) then
      bif decide ((0 : Int) ≤ c) then
        bif decide (c < ↑(256 : Nat)) then
          bif decide (c.toNat < 256) then
            some
              (AV.tup [I64 (1 : Int), I64 (mnI (65536 : Int) (mxI (0 : Int) (a c.toNat)))],
                [some
                    { t := 35, own := true,
                      c := Cont.row 1 256 fun k => [Value.int IntKind.i64 (a k)] }])
          else none
        else none
      else none
    else
      bif
          decide
            (firstIdx { data := #[(32 : UInt8), (9 : UInt8), (10 : UInt8), (13 : UInt8)] } c.toNat.toUInt8 <
              (0 : Int)) then
        bif decide ((0 : Int) ≤ c) then
          bif decide (c < ↑(256 : Nat)) then
            bif decide (c.toNat < 256) then
              some
                (AV.tup [I64 (1 : Int), I64 (mnI (65536 : Int) (mxI (0 : Int) (a c.toNat)))],
                  [some
                      { t := 35, own := true,
                        c := Cont.row 1 256 fun k => [Value.int IntKind.i64 (a k)] }])
            else none
          else none
        else none
      else
        bif v == (1 : Int) then
          some
            (AV.tup [I64 (3 : Int), I64 (mnI (65536 : Int) (mxI (0 : Int) (a 32)))],
              [some
                  { t := 35, own := true,
                    c := Cont.row 1 256 fun k => [Value.int IntKind.i64 (a k)] }])
        else
          some
            (AV.tup [I64 (2 : Int), I64 (mnI (65536 : Int) (mxI (0 : Int) (a 32)))],
              [some
                  { t := 35, own := true,
                    c := Cont.row 1 256 fun k => [Value.int IntKind.i64 (a k)] }]) := by kernel_rfl
theorem bk_nf {k r a w : Int} : (lfun niG nol 60 Try.f124 [.agg [i64 k, i64 r, i64 a, i64 w]] []).eval =
  bif k == (2 : Int) then some (Bo true, []) else some (Bo (k == (3 : Int)), []) := by kernel_rfl
theorem bk2_nf {k r a w : Int} : (lfun niG nol 60 Try.f126 [.agg [i64 k, i64 r, i64 a, i64 w]] []).eval =
  bif k == (2 : Int) then some (Bo true, []) else some (Bo (k == (3 : Int)), []) := by kernel_rfl
theorem wh_nf {c : Int} : (lfun niG nol 60 Try.f125 [U8 c] []).eval =
  bif c == (32 : Int) then some (Bo true, [])
  else
    bif c == (9 : Int) then some (Bo true, [])
    else bif c == (10 : Int) then some (Bo true, []) else some (Bo (c == (13 : Int)), []) := by kernel_rfl
theorem ad_nf {a : Nat → Int} {c : Int} : (lfun adG nol 60 Try.f115 [aA a, U8 c] []).eval =
  bif decide ((0 : Int) ≤ c) then
    bif decide (c < ↑(256 : Nat)) then
      bif decide (c.toNat < 256) then some (I64 (mnI (65536 : Int) (mxI (0 : Int) (a c.toNat))), []) else none
    else none
  else none := by kernel_rfl
def vd : List Value → Int
  | [.int _ x] => x
  | _ => 0
noncomputable def gyF : Spec := fun args h => match args, h with
  | [.c (.ptr 0 0 0), .c (.v (.int .i64 v)), .c (.v (.int .u8 c))], [some ⟨35, true, .row 1 256 f⟩] =>
    .need (yes (0 ≤ c ∧ c < 256 ∧ f = fun k => v1 (vd (f k)))) (.ret (.tup [I64 (gk v c), I64 (ga (Mt fun k => vd (f k)) v c)], [some ⟨35, true, .row 1 256 f⟩]))
  | _, _ => .fail
theorem gyF_ok : SpecOk Try.prog 156 gyF := by
  refine knownS KY_ok Try.func156 fun args h r he => ?_
  unfold gyF at he
  split at he
  · rename_i v c f
    obtain ⟨⟨h0, h1, h3⟩, he⟩ := Tr.eval_ask.1 he
    cases he
    refine ⟨fun _ => [], [], 60, nol, noLoopsS, ?_⟩
    have hw := gy_nf (a := fun k => vd (f k)) (v := v) (c := c)
    rw [show [some ⟨35, true, .row 1 256 f⟩] = [rowA fun k => vd (f k)] by rw [rowA, ← h3]]
    refine hw.trans ?_
    have c1 : c < ((256 : Nat) : Int) := h1
    have c2 : c.toNat < 256 := by omega
    have hwh := white_ix c h0 h1
    simp only [hwh, h0, c1, c2, decide_true, cond_true]
    rw [rowA]
    unfold gk ga
    by_cases e1 : v = 2
    · subst e1
      by_cases e2 : c = 10
      · subst e2; rfl
      · have : (c == 10) = false := by simpa using e2
        simp only [this, if_neg e2]
        rfl
    · have e1' : (v == 2) = false := by simpa using e1
      simp only [e1', if_neg e1]
      have hw2 : wht c = (c == 32 || c == 9 || c == 10 || c == 13) := rfl
      rw [← hw2]
      cases wht c
      · rfl
      · by_cases e3 : v = 1
        · subst e3; rfl
        · have : (v == 1) = false := by simpa using e3
          simp only [this, if_neg e3]
          rfl
  · cases he
noncomputable def bkF : Spec := fun args h => match args, h with
  | [.agg [.v (.int .i64 k), .v (.int .i64 r), .v (.int .i64 a), .v (.int .i64 w)]], [] => .ret (Bo (blk ⟨k, r, a, w⟩), [])
  | _, _ => .fail
theorem bkF_ok : SpecOk Try.prog 124 bkF := by
  refine knownS nilK Try.func124 fun args h r he => ?_
  unfold bkF at he
  split at he
  · cases he
    refine ⟨fun _ => [], [], 60, nol, noLoopsS, bk_nf.trans ?_⟩
    unfold blk
    rename_i k r a w
    cases (k == 2) <;> rfl
  · cases he
theorem bkF_ok2 : SpecOk Try.prog 126 bkF := by
  refine knownS nilK Try.func126 fun args h r he => ?_
  unfold bkF at he
  split at he
  · cases he
    refine ⟨fun _ => [], [], 60, nol, noLoopsS, bk2_nf.trans ?_⟩
    unfold blk
    rename_i k r a w
    cases (k == 2) <;> rfl
  · cases he
noncomputable def whF : Spec := fun args h => match args, h with
  | [.c (.v (.int .u8 c))], [] => .ret (Bo (wht c), [])
  | _, _ => .fail
theorem whF_ok : SpecOk Try.prog 125 whF := by
  refine knownS nilK Try.func125 fun args h r he => ?_
  unfold whF at he
  split at he
  · cases he
    refine ⟨fun _ => [], [], 60, nol, noLoopsS, wh_nf.trans ?_⟩
    unfold wht
    rename_i c
    cases (c == 32) <;> cases (c == 9) <;> cases (c == 10) <;> rfl
  · cases he
noncomputable def adF : Spec := fun args h => match args, h with
  | [.arr 256 f, .c (.v (.int .u8 c))], [] => .need (yes (0 ≤ c ∧ c < 256 ∧ f = fun k => .int .i64 (dv (f k)))) (.ret (I64 (Mt (fun k => dv (f k)) c), []))
  | _, _ => .fail
theorem adF_ok : SpecOk Try.prog 115 adF := by
  refine knownS KA1_ok Try.func115 fun args h r he => ?_
  unfold adF at he
  split at he
  · rename_i f c
    obtain ⟨⟨h0, h1, h3⟩, he⟩ := Tr.eval_ask.1 he
    cases he
    refine ⟨fun _ => [], [], 60, nol, noLoopsS, ?_⟩
    have hw := ad_nf (a := fun k => dv (f k)) (c := c)
    rw [show AV.arr 256 f = aA fun k => dv (f k) by rw [aA, ← h3]]
    refine hw.trans ?_
    have c1 : c < ((256 : Nat) : Int) := h1
    have c2 : c.toNat < 256 := by omega
    simp only [h0, c1, c2, decide_true, cond_true]
    rfl
  · cases he
end Go.Proofs.Ytcpahifgdppkbaa.QAI
end
section
/- Glyphs: of runs, a row of blanks being one: the program's loops. -/
set_option linter.unusedVariables false
set_option linter.unusedSimpArgs false
namespace Go.Proofs.Ytcpahifgdppkbaa.QAI
open Go Go.RowKit
set_option maxRecDepth 100000
abbrev allK : List (Nat × Option TypeId) := [(0,none),(5,some 87),(10,none),(11,none),(12,none)]
abbrev allKi : List (Nat × Option TypeId) := [(0,none),(5,some 87),(6,none),(7,none),(10,none),(11,none),(12,none),(19,none),(20,none)]
noncomputable def KA2 : Known := [(156, gyF), (124, bkF)]
theorem KA2_ok : KnownOk KA2 := consK gyF_ok (by kernel_rfl) (consK bkF_ok (by kernel_rfl) nilK)
noncomputable def allG : Ctx2 := GT KA2 (fun k => if k = 3 then allK else if k = 6 then allKi else []) 0 []
theorem allG_ok : XOk allG := GT_ok KA2_ok _ _ _
def rowGl (n : Nat) (L : Nat → Gl) : Option ABlk := some ⟨87, true, .row 4 n fun j => encG (L j)⟩
def rowRn (own : Bool) (n : Nat) (R : Nat → Rn) : Option ABlk := some ⟨83, own, .row 4 n fun j => encN (R j)⟩
def oneRn (r : Rn) : Option ABlk := some ⟨83, true, .one [i64 r.n, .v (.string r.s), i64 r.v, i64 r.l]⟩
def wiS (a : Nat → Int) (own : Bool) (o k n : Nat) (R : Nat → Rn) (na : Nat) (L : Nat → Gl) (r : Rn) (i at' : Int) : St :=
  ⟨slots 62 [(0, .c (.ptr 0 0 0)), (5, .c (.sl 2 0 na)), (6, I64 i), (7, .c (.ptr 3 0 0)), (10, .c (.sl 1 o k)), (11, I64 k), (12, I64 i), (19, I64 r.s.size), (20, I64 at')], [rowA a, rowRn own n R, rowGl na L, oneRn r]⟩
def woS (a : Nat → Int) (own : Bool) (o k n : Nat) (R : Nat → Rn) (na : Nat) (L : Nat → Gl) (i : Int) : St :=
  ⟨slots 62 [(0, .c (.ptr 0 0 0)), (5, .c (.sl 2 0 na)), (10, .c (.sl 1 o k)), (11, I64 k), (12, I64 i)], [rowA a, rowRn own n R, rowGl na L]⟩
noncomputable def wiT (a : Nat → Int) (own : Bool) (o k n : Nat) (R : Nat → Rn) (na : Nat) (L : Nat → Gl) (r : Rn) (i at' : Int) : Tr (Ex × St) := rT allG nol 2 46 (bodyOf Try.f123 1) allKi allKi (wiS a own o k n R na L r i at')
theorem wi_ex {a : Nat → Int} {own : Bool} {o k n : Nat} {R : Nat → Rn} {na : Nat} {L : Nat → Gl} {r : Rn} {i at' : Int} : (wiT a own o k n R na L r i at').go [false] =
  some
    ([!decide (at' < ((r.s.size : Nat) : Int))], Ex.exit 2,
      {
        sl :=
          slots 62
            [(0, AV.c (AC.ptr 0 0 0)), (5, AV.c (AC.sl 2 0 na)),
              (6, I64 i), (7, AV.c (AC.ptr 3 0 0)),
              (10, AV.c (AC.sl 1 o k)), (11, I64 ((k : Nat) : Int)), (12, I64 i),
              (19, I64 ((r.s.size : Nat) : Int)), (20, I64 at')],
        h :=
          [some
              { t := 35, own := true,
                c := Cont.row 1 256 fun k => [Value.int IntKind.i64 (a k)] },
            some
              { t := 83, own := own,
                c :=
                  Cont.row 4 n fun j =>
                    [Value.int IntKind.i64 (R j).n, Value.string (R j).s, Value.int IntKind.i64 (R j).v,
                      Value.int IntKind.i64 (R j).l] },
            some
              { t := 87, own := true,
                c :=
                  Cont.row 4 na fun j =>
                    [Value.int IntKind.i64 (L j).k, Value.int IntKind.i64 (L j).r, Value.int IntKind.i64 (L j).a,
                      Value.int IntKind.i64 (L j).w] },
            some
              { t := 83, own := true, c := Cont.one [i64 r.n, AC.v (Value.string r.s), i64 r.v, i64 r.l] }] }) := by kernel_rfl
theorem wi_ttt {a : Nat → Int} {own : Bool} {o k n : Nat} {R : Nat → Rn} {na : Nat} {L : Nat → Gl} {r : Rn} {i at' : Int} : (wiT a own o k n R na L r i at').go [] =
  some
    ([decide (at' < ((r.s.size : Nat) : Int)), decide ((0 : Int) ≤ at'), decide (at' < ((r.s.size : Nat) : Int)),
        yes ((0 : Int) ≤ bt r.s at' ∧ bt r.s at' < (256 : Int) ∧ (fun k => v1 (a k)) = fun k => v1 (vd (v1 (a k)))),
        blk { k := gk r.v (bt r.s at'), r := i, a := at', w := ga (Mt fun k => vd (v1 (a k))) r.v (bt r.s at') }, true,
        true, true, decide (((na : Nat) : Int) > (0 : Int)), true, true, true, true, decide ((0 : Int) ≤ w64 (((na : Nat) : Int) - (1 : Int))),
        decide (w64 (((na : Nat) : Int) - (1 : Int)) < ((na : Nat) : Int)), true, decide (0 + (w64 (((na : Nat) : Int) - (1 : Int))).toNat < na), true, true,
        blk
          { k := (L (0 + (w64 (((na : Nat) : Int) - (1 : Int))).toNat)).k,
            r := (L (0 + (w64 (((na : Nat) : Int) - (1 : Int))).toNat)).r,
            a := (L (0 + (w64 (((na : Nat) : Int) - (1 : Int))).toNat)).a,
            w := (L (0 + (w64 (((na : Nat) : Int) - (1 : Int))).toNat)).w }],
      Ex.normal,
      {
        sl :=
          slots 62
            [(0, AV.c (AC.ptr 0 0 0)), (5, AV.c (AC.sl 2 0 na)),
              (6, I64 i), (7, AV.c (AC.ptr 3 0 0)),
              (10, AV.c (AC.sl 1 o k)), (11, I64 ((k : Nat) : Int)), (12, I64 i),
              (19, I64 ((r.s.size : Nat) : Int)), (20, I64 (w64 (at' + (1 : Int))))],
        h :=
          [some
              { t := 35, own := true,
                c := Cont.row 1 256 fun k => [Value.int IntKind.i64 (a k)] },
            some
              { t := 83, own := own,
                c :=
                  Cont.row 4 n fun j =>
                    [Value.int IntKind.i64 (R j).n, Value.string (R j).s, Value.int IntKind.i64 (R j).v,
                      Value.int IntKind.i64 (R j).l] },
            some
              { t := 87, own := true,
                c :=
                  Cont.row 4 na fun j =>
                    [Value.int IntKind.i64 (L j).k, Value.int IntKind.i64 (L j).r, Value.int IntKind.i64 (L j).a,
                      Value.int IntKind.i64 (L j).w] },
            some
              { t := 83, own := true, c := Cont.one [i64 r.n, AC.v (Value.string r.s), i64 r.v, i64 r.l] }] }) := by kernel_rfl
theorem wi_ttf {a : Nat → Int} {own : Bool} {o k n : Nat} {R : Nat → Rn} {na : Nat} {L : Nat → Gl} {r : Rn} {i at' : Int} : (wiT a own o k n R na L r i at').go [true, true, true, true, true, true, true, true, true, true, true, true, true, true, true, true, true, true, true, false] =
  some
    ([decide (at' < ((r.s.size : Nat) : Int)), decide ((0 : Int) ≤ at'), decide (at' < ((r.s.size : Nat) : Int)),
        yes ((0 : Int) ≤ bt r.s at' ∧ bt r.s at' < (256 : Int) ∧ (fun k => v1 (a k)) = fun k => v1 (vd (v1 (a k)))),
        blk { k := gk r.v (bt r.s at'), r := i, a := at', w := ga (Mt fun k => vd (v1 (a k))) r.v (bt r.s at') }, true,
        true, true, decide (((na : Nat) : Int) > (0 : Int)), true, true, true, true, decide ((0 : Int) ≤ w64 (((na : Nat) : Int) - (1 : Int))),
        decide (w64 (((na : Nat) : Int) - (1 : Int)) < ((na : Nat) : Int)), true, decide (0 + (w64 (((na : Nat) : Int) - (1 : Int))).toNat < na), true, true,
        !blk
            { k := (L (0 + (w64 (((na : Nat) : Int) - (1 : Int))).toNat)).k,
              r := (L (0 + (w64 (((na : Nat) : Int) - (1 : Int))).toNat)).r,
              a := (L (0 + (w64 (((na : Nat) : Int) - (1 : Int))).toNat)).a,
              w := (L (0 + (w64 (((na : Nat) : Int) - (1 : Int))).toNat)).w },
        decide (na = na), true, decide ((na + 1) * 32 ≤ maxCells)],
      Ex.normal,
      {
        sl :=
          slots 62
            [(0, AV.c (AC.ptr 0 0 0)),
              (5, AV.c (AC.sl 2 0 (na + 1))), (6, I64 i),
              (7, AV.c (AC.ptr 3 0 0)), (10, AV.c (AC.sl 1 o k)),
              (11, I64 ((k : Nat) : Int)), (12, I64 i), (19, I64 ((r.s.size : Nat) : Int)),
              (20, I64 (w64 (at' + (1 : Int))))],
        h :=
          [some
              { t := 35, own := true,
                c := Cont.row 1 256 fun k => [Value.int IntKind.i64 (a k)] },
            some
              { t := 83, own := own,
                c :=
                  Cont.row 4 n fun j =>
                    [Value.int IntKind.i64 (R j).n, Value.string (R j).s, Value.int IntKind.i64 (R j).v,
                      Value.int IntKind.i64 (R j).l] },
            some
              { t := 87, own := true,
                c :=
                  Cont.row 4 (na + 1) fun k =>
                    [Value.int IntKind.i64 (bif decide (k = na) then gk r.v (bt r.s at') else (L k).k),
                      Value.int IntKind.i64 (bif decide (k = na) then i else (L k).r),
                      Value.int IntKind.i64 (bif decide (k = na) then at' else (L k).a),
                      Value.int IntKind.i64
                        (bif decide (k = na) then ga (Mt fun k => vd (v1 (a k))) r.v (bt r.s at') else (L k).w)] },
            some
              { t := 83, own := true, c := Cont.one [i64 r.n, AC.v (Value.string r.s), i64 r.v, i64 r.l] }] }) := by kernel_rfl
theorem wi_tf {a : Nat → Int} {own : Bool} {o k n : Nat} {R : Nat → Rn} {na : Nat} {L : Nat → Gl} {r : Rn} {i at' : Int} : (wiT a own o k n R na L r i at').go [true, true, true, true, true, true, true, true, false, false, false, false, false, false, false, false, false] =
  some
    ([decide (at' < ((r.s.size : Nat) : Int)), decide ((0 : Int) ≤ at'), decide (at' < ((r.s.size : Nat) : Int)),
        yes ((0 : Int) ≤ bt r.s at' ∧ bt r.s at' < (256 : Int) ∧ (fun k => v1 (a k)) = fun k => v1 (vd (v1 (a k)))),
        blk { k := gk r.v (bt r.s at'), r := i, a := at', w := ga (Mt fun k => vd (v1 (a k))) r.v (bt r.s at') }, true,
        true, true, !decide (((na : Nat) : Int) > (0 : Int)), true, true, true, true, true, true, true, true, decide (na = na), true,
        decide ((na + 1) * 32 ≤ maxCells)],
      Ex.normal,
      {
        sl :=
          slots 62
            [(0, AV.c (AC.ptr 0 0 0)),
              (5, AV.c (AC.sl 2 0 (na + 1))), (6, I64 i),
              (7, AV.c (AC.ptr 3 0 0)), (10, AV.c (AC.sl 1 o k)),
              (11, I64 ((k : Nat) : Int)), (12, I64 i), (19, I64 ((r.s.size : Nat) : Int)),
              (20, I64 (w64 (at' + (1 : Int))))],
        h :=
          [some
              { t := 35, own := true,
                c := Cont.row 1 256 fun k => [Value.int IntKind.i64 (a k)] },
            some
              { t := 83, own := own,
                c :=
                  Cont.row 4 n fun j =>
                    [Value.int IntKind.i64 (R j).n, Value.string (R j).s, Value.int IntKind.i64 (R j).v,
                      Value.int IntKind.i64 (R j).l] },
            some
              { t := 87, own := true,
                c :=
                  Cont.row 4 (na + 1) fun k =>
                    [Value.int IntKind.i64 (bif decide (k = na) then gk r.v (bt r.s at') else (L k).k),
                      Value.int IntKind.i64 (bif decide (k = na) then i else (L k).r),
                      Value.int IntKind.i64 (bif decide (k = na) then at' else (L k).a),
                      Value.int IntKind.i64
                        (bif decide (k = na) then ga (Mt fun k => vd (v1 (a k))) r.v (bt r.s at') else (L k).w)] },
            some
              { t := 83, own := true, c := Cont.one [i64 r.n, AC.v (Value.string r.s), i64 r.v, i64 r.l] }] }) := by kernel_rfl
theorem wi_f {a : Nat → Int} {own : Bool} {o k n : Nat} {R : Nat → Rn} {na : Nat} {L : Nat → Gl} {r : Rn} {i at' : Int} : (wiT a own o k n R na L r i at').go [true, true, true, true, false, false, false, false, false, false, false, false, false, false, false, false, false] =
  some
    ([decide (at' < ((r.s.size : Nat) : Int)), decide ((0 : Int) ≤ at'), decide (at' < ((r.s.size : Nat) : Int)),
        yes ((0 : Int) ≤ bt r.s at' ∧ bt r.s at' < (256 : Int) ∧ (fun k => v1 (a k)) = fun k => v1 (vd (v1 (a k)))),
        !blk { k := gk r.v (bt r.s at'), r := i, a := at', w := ga (Mt fun k => vd (v1 (a k))) r.v (bt r.s at') }, true,
        true, true, true, true, true, true, true, true, true, true, true, decide (na = na), true,
        decide ((na + 1) * 32 ≤ maxCells)],
      Ex.normal,
      {
        sl :=
          slots 62
            [(0, AV.c (AC.ptr 0 0 0)),
              (5, AV.c (AC.sl 2 0 (na + 1))), (6, I64 i),
              (7, AV.c (AC.ptr 3 0 0)), (10, AV.c (AC.sl 1 o k)),
              (11, I64 ((k : Nat) : Int)), (12, I64 i), (19, I64 ((r.s.size : Nat) : Int)),
              (20, I64 (w64 (at' + (1 : Int))))],
        h :=
          [some
              { t := 35, own := true,
                c := Cont.row 1 256 fun k => [Value.int IntKind.i64 (a k)] },
            some
              { t := 83, own := own,
                c :=
                  Cont.row 4 n fun j =>
                    [Value.int IntKind.i64 (R j).n, Value.string (R j).s, Value.int IntKind.i64 (R j).v,
                      Value.int IntKind.i64 (R j).l] },
            some
              { t := 87, own := true,
                c :=
                  Cont.row 4 (na + 1) fun k =>
                    [Value.int IntKind.i64 (bif decide (k = na) then gk r.v (bt r.s at') else (L k).k),
                      Value.int IntKind.i64 (bif decide (k = na) then i else (L k).r),
                      Value.int IntKind.i64 (bif decide (k = na) then at' else (L k).a),
                      Value.int IntKind.i64
                        (bif decide (k = na) then ga (Mt fun k => vd (v1 (a k))) r.v (bt r.s at') else (L k).w)] },
            some
              { t := 83, own := true, c := Cont.one [i64 r.n, AC.v (Value.string r.s), i64 r.v, i64 r.l] }] }) := by kernel_rfl
noncomputable def woT (a : Nat → Int) (own : Bool) (o k n : Nat) (R : Nat → Rn) (na : Nat) (L : Nat → Gl) (na' : Nat) (L' : Nat → Gl) (i z : Int) : Tr (Ex × St) :=
  rT allG (tell (bodyOf Try.f123 1) (wiS a own o k n R na L (R (o + i.toNat)) i 0) (.exit 2, wiS a own o k n R na' L' (R (o + i.toNat)) i z)) 2 54 (bodyOf Try.f123 0) allK allK (woS a own o k n R na L i)
theorem wo_go {a : Nat → Int} {own : Bool} {o k n : Nat} {R : Nat → Rn} {na : Nat} {L : Nat → Gl} {na' : Nat} {L' : Nat → Gl} {i z : Int} : (woT a own o k n R na L na' L' i z).go [] =
  some
    ([decide (i < ((k : Nat) : Int)), decide ((0 : Int) ≤ i), decide (i < ((k : Nat) : Int)), decide (o + i.toNat < n), yes (wasS (bodyOf Try.f123 1) (wiS a own o k n R na L (R (o + i.toNat)) i 0))], Ex.normal,
      {
        sl :=
          slots 62
            [(0, AV.c (AC.ptr 0 0 0)),
              (5, AV.c (AC.sl 2 0 na')), (10, AV.c (AC.sl 1 o k)),
              (11, I64 ((k : Nat) : Int)), (12, I64 (w64 (i + (1 : Int))))],
        h :=
          [some
              { t := 35, own := true,
                c := Cont.row 1 256 fun k => [Value.int IntKind.i64 (a k)] },
            some
              { t := 83, own := own,
                c :=
                  Cont.row 4 n fun j =>
                    [Value.int IntKind.i64 (R j).n, Value.string (R j).s, Value.int IntKind.i64 (R j).v,
                      Value.int IntKind.i64 (R j).l] },
            some
              { t := 87, own := true,
                c :=
                  Cont.row 4 na' fun j =>
                    [Value.int IntKind.i64 (L' j).k, Value.int IntKind.i64 (L' j).r, Value.int IntKind.i64 (L' j).a,
                      Value.int IntKind.i64 (L' j).w] }] }) := by kernel_rfl
theorem wo_ex {a : Nat → Int} {own : Bool} {o k n : Nat} {R : Nat → Rn} {na : Nat} {L : Nat → Gl} {i : Int} : (rT allG nol 2 54 (bodyOf Try.f123 0) allK allK (woS a own o k n R na L i)).go [false] =
  some
    ([!decide (i < ((k : Nat) : Int))], Ex.exit 0,
      {
        sl :=
          slots 62
            [(0, AV.c (AC.ptr 0 0 0)), (5, AV.c (AC.sl 2 0 na)),
              (10, AV.c (AC.sl 1 o k)), (11, I64 ((k : Nat) : Int)), (12, I64 i)],
        h :=
          [some
              { t := 35, own := true,
                c := Cont.row 1 256 fun k => [Value.int IntKind.i64 (a k)] },
            some
              { t := 83, own := own,
                c :=
                  Cont.row 4 n fun j =>
                    [Value.int IntKind.i64 (R j).n, Value.string (R j).s, Value.int IntKind.i64 (R j).v,
                      Value.int IntKind.i64 (R j).l] },
            some
              { t := 87, own := true,
                c :=
                  Cont.row 4 na fun j =>
                    [Value.int IntKind.i64 (L j).k, Value.int IntKind.i64 (L j).r, Value.int IntKind.i64 (L j).a,
                      Value.int IntKind.i64 (L j).w] }] }) := by kernel_rfl
theorem all_w {a : Nat → Int} {own : Bool} {o k n : Nat} {R : Nat → Rn} {na : Nat} {L : Nat → Gl} {z : Int} : (lfun allG (tell (bodyOf Try.f123 0) (woS a own o k n R 0 (fun _ => zGl) 0) (.exit 0, woS a own o k n R na L z)) 60 Try.f123 [.c (.ptr 0 0 0), .c (.sl 1 o k)] [rowA a, rowRn own n R]).go [] =
  some
    ([yes (wasS (bodyOf Try.f123 0) (woS a own o k n R 0 (fun _ => zGl) 0))], AV.c (AC.sl 2 0 na),
      [some
          { t := 35, own := true, c := Cont.row 1 256 fun k => [Value.int IntKind.i64 (a k)] },
        some
          { t := 83, own := own,
            c :=
              Cont.row 4 n fun j =>
                [Value.int IntKind.i64 (R j).n, Value.string (R j).s, Value.int IntKind.i64 (R j).v,
                  Value.int IntKind.i64 (R j).l] },
        some
          { t := 87, own := true,
            c :=
              Cont.row 4 na fun j =>
                [Value.int IntKind.i64 (L j).k, Value.int IntKind.i64 (L j).r, Value.int IntKind.i64 (L j).a,
                  Value.int IntKind.i64 (L j).w] }]) := by kernel_rfl
end Go.Proofs.Ytcpahifgdppkbaa.QAI
end
section
/- Glyphs: of runs, a row of blanks being one: what the program's loops come to. -/
set_option linter.unusedVariables false
set_option linter.unusedSimpArgs false
namespace Go.Proofs.Ytcpahifgdppkbaa.QAI
open Go Go.RowKit
set_option maxRecDepth 100000
theorem cells32 {n : Nat} (h : n ≤ 2 ^ 40) : decide (n * 32 ≤ maxCells) = true := decide_eq_true (by unfold maxCells; omega)
theorem lastB_at {acc : List Gl} (h : 0 < acc.length) : lastB blk acc = blk (at_ acc (acc.length - 1)) := by
  unfold lastB
  rw [List.getLast?_eq_getElem?, List.getElem?_eq_getElem (by omega), at_get (by omega)]
theorem upd_at (acc : List Gl) (g : Gl) : upd (fun j => encG (at_ acc j)) acc.length (encG g) = fun j => encG (at_ (acc ++ [g]) j) := upd_lrow encG zGl acc g
theorem bt_lt (s : ByteArray) (i : Int) : 0 ≤ bt s i ∧ bt s i < 256 := by
  unfold bt
  have := UInt8.toNat_lt (s.data.toList.getD i.toNat 0)
  omega
theorem succ64 {j : Nat} (h : j < 2 ^ 60) : w64 ((j : Int) + 1) = ((j + 1 : Nat) : Int) := by rw [w64_id (by omega) (by omega)]; omega
theorem put_f {b : Gl → Bool} {acc : List Gl} {g : Gl} (h : b g = false) : put b acc g = acc ++ [g] := by simp [put, h]
theorem put_tf {b : Gl → Bool} {acc : List Gl} {g : Gl} (h : lastB b acc = false) : put b acc g = acc ++ [g] := by simp [put, h]
theorem put_tt {b : Gl → Bool} {acc : List Gl} {g : Gl} (h : b g = true) (h' : lastB b acc = true) : put b acc g = acc := by simp [put, h, h']
def decN : List Value → Rn
  | [.int _ a, .string s, .int _ b, .int _ c] => ⟨a, s, b, c⟩
  | _ => zRn
def decG : List Value → Gl
  | [.int _ a, .int _ b, .int _ c, .int _ d] => ⟨a, b, c, d⟩
  | _ => zGl
def wiI (a : Nat → Int) (own : Bool) (o k n : Nat) (R : Nat → Rn) (acc : List Gl) (r : Rn) (i : Nat) (j : Nat) : St :=
  wiS a own o k n R (goB (Mt a) r.v i r.s acc j).length (at_ (goB (Mt a) r.v i r.s acc j)) r i j
theorem wi_step {a : Nat → Int} {own : Bool} {o k n : Nat} {R : Nat → Rn} {acc : List Gl} {r : Rn} {i j : Nat} (hj : j < r.s.size) (hb : acc.length + r.s.size < 2 ^ 40) :
    (rT allG nol 2 46 (bodyOf Try.f123 1) allKi allKi (wiI a own o k n R acc r i j)).eval = some (.normal, wiI a own o k n R acc r i (j + 1)) := by
  have hl := goB_len (M := Mt a) (v := r.v) (r := i) (s := r.s) (acc := acc) j
  obtain ⟨b0, b1⟩ := bt_lt r.s j
  have h3 := succ64 (j := j) (by omega)
  have hy : yes ((0 : Int) ≤ bt r.s j ∧ bt r.s j < (256 : Int) ∧ (fun k => v1 (a k)) = fun k => v1 (vd (v1 (a k)))) = true := yes_of ⟨b0, b1, rfl⟩
  have e1 : goB (Mt a) r.v i r.s acc (j + 1) = put blk (goB (Mt a) r.v i r.s acc j) (gl (Mt a) r.v i j (bt r.s j)) := rfl
  have app : ∀ A : List Gl, A.length ≤ acc.length + j → put blk A (gl (Mt a) r.v i j (bt r.s j)) = A ++ [gl (Mt a) r.v i j (bt r.s j)] →
      some (Ex.normal, wiS a own o k n R (A.length + 1) (at_ (A ++ [gl (Mt a) r.v i j (bt r.s j)])) r i ((j + 1 : Nat) : Int)) = some (Ex.normal, wiS a own o k n R (put blk A (gl (Mt a) r.v i j (bt r.s j))).length (at_ (put blk A (gl (Mt a) r.v i j (bt r.s j)))) r i ((j + 1 : Nat) : Int)) := by
    intro A _ h
    rw [h]
    simp
  have fin : ∀ A : List Gl, (⟨slots 62 [(0, .c (.ptr 0 0 0)), (5, .c (.sl 2 0 (A.length + 1))), (6, I64 i), (7, .c (.ptr 3 0 0)), (10, .c (.sl 1 o k)), (11, I64 k), (12, I64 i), (19, I64 r.s.size), (20, I64 ((j + 1 : Nat) : Int))],
      [rowA a, rowRn own n R, some ⟨87, true, .row 4 (A.length + 1) (upd (fun j => encG (at_ A j)) A.length (encG (gl (Mt a) r.v i j (bt r.s j))))⟩, oneRn r]⟩ : St) = wiS a own o k n R (A.length + 1) (at_ (A ++ [gl (Mt a) r.v i j (bt r.s j)])) r i ((j + 1 : Nat) : Int) := by
    intro A
    rw [upd_at]
    rfl
  unfold wiI
  rw [e1]
  generalize goB (Mt a) r.v i r.s acc j = A at hl ⊢
  have hc := cells32 (n := A.length + 1) (by omega)
  have hnn : decide (A.length = A.length) = true := decide_eq_true rfl
  have p1 : decide ((j : Int) < (r.s.size : Int)) = true := decide_eq_true (by omega)
  have p2 : decide ((0 : Int) ≤ (j : Int)) = true := decide_eq_true (by omega)
  by_cases hbl : blk (gl (Mt a) r.v i j (bt r.s j)) = true
  · by_cases h0 : 0 < A.length
    · have hw : w64 ((A.length : Int) - 1) = ((A.length - 1 : Nat) : Int) := by rw [w64_id (by omega) (by omega)]; omega
      have p3 : decide ((A.length : Int) > (0 : Int)) = true := decide_eq_true (by omega)
      have p4 : decide ((0 : Int) ≤ w64 ((A.length : Int) - 1)) = true := decide_eq_true (by omega)
      have p5 : decide (w64 ((A.length : Int) - 1) < (A.length : Int)) = true := decide_eq_true (by omega)
      have p6 : decide (0 + (w64 ((A.length : Int) - 1)).toNat < A.length) = true := decide_eq_true (by omega)
      have el : 0 + (w64 ((A.length : Int) - 1)).toNat = A.length - 1 := by omega
      by_cases hla : lastB blk A = true
      · have p7 : blk (at_ A (0 + (w64 ((A.length : Int) - 1)).toNat)) = true := by rw [el, ← lastB_at h0]; exact hla
        refine (rT_go wi_ttt ?_).trans ?_
        · repeat' (first | exact AllT.nil | refine AllT.cons ?_ ?_)
          all_goals first | (with_reducible rfl) | assumption
        · rw [h3, put_tt hbl hla]
          rfl
      · have hla' : lastB blk A = false := by simpa using hla
        have p7 : (!blk (at_ A (0 + (w64 ((A.length : Int) - 1)).toNat))) = true := by rw [el, ← lastB_at h0, hla']; rfl
        refine (rT_go wi_ttf ?_).trans ?_
        · repeat' (first | exact AllT.nil | refine AllT.cons ?_ ?_)
          all_goals first | (with_reducible rfl) | assumption
        · rw [h3]
          refine Eq.trans ?_ (app A (by omega) (put_tf hla'))
          rw [← fin A]
          rfl
    · have hA : A = [] := List.length_eq_zero_iff.1 (by omega)
      have p3 : (!decide ((A.length : Int) > (0 : Int))) = true := by simp; omega
      refine (rT_go wi_tf ?_).trans ?_
      · repeat' (first | exact AllT.nil | refine AllT.cons ?_ ?_)
        all_goals first | (with_reducible rfl) | assumption
      · rw [h3]
        refine Eq.trans ?_ (app A (by omega) (put_tf (by rw [hA]; rfl)))
        rw [← fin A]
        rfl
  · have hbl' : blk (gl (Mt a) r.v i j (bt r.s j)) = false := by simpa using hbl
    have p3 : (!blk (gl (Mt a) r.v i j (bt r.s j))) = true := by rw [hbl']; rfl
    refine (rT_go wi_f ?_).trans ?_
    · repeat' (first | exact AllT.nil | refine AllT.cons ?_ ?_)
      all_goals first | (with_reducible rfl) | assumption
    · rw [h3]
      refine Eq.trans ?_ (app A (by omega) (put_f hbl'))
      rw [← fin A]
      rfl
theorem lenR_le {R : Nat → Rn} {k : Nat} : ∀ i, i < k → lenR R i + (R i).s.size ≤ lenR R k := by
  intro i hi
  have : ∀ m, i + 1 ≤ m → lenR R (i + 1) ≤ lenR R m := by
    intro m
    induction m with
    | zero => omega
    | succ m ih =>
      intro h
      have e : lenR R (m + 1) = lenR R m + (R m).s.size := rfl
      rcases Nat.lt_or_ge i m with h' | h'
      · have := ih (by omega)
        omega
      · have : i = m := by omega
        subst this
        exact Nat.le_refl _
  have e : lenR R (i + 1) = lenR R i + (R i).s.size := rfl
  have := this k (by omega)
  omega
theorem wi_loop {a : Nat → Int} {own : Bool} {o k n : Nat} {R : Nat → Rn} {acc : List Gl} {r : Rn} {i : Nat} (hb : acc.length + r.s.size < 2 ^ 40) :
    CodeSem allG 2 (.loop (bodyOf Try.f123 1)) (wiS a own o k n R acc.length (at_ acc) r i 0) (.exit 2, wiS a own o k n R (goB (Mt a) r.v i r.s acc r.s.size).length (at_ (goB (Mt a) r.v i r.s acc r.s.size)) r i r.s.size) := by
  refine loop_sem allG_ok (ℓ := nol) (d := 46) (k := allKi) (ka := allKi) noLoopsS (fun j => wiI a own o k n R acc r i j) r.s.size (by simp) ?_ fun j hj => wi_step hj hb
  exact rT_go wi_ex ⟨by simp, trivial⟩
theorem wo_loop {a : Nat → Int} {own : Bool} {o k n : Nat} {R : Nat → Rn} (hn : o + k ≤ n) (hk : k < 2 ^ 40) (hb : lenR (fun i => R (o + i)) k < 2 ^ 39) :
    CodeSem allG 2 (.loop (bodyOf Try.f123 0)) (woS a own o k n R 0 (fun _ => zGl) 0) (.exit 0, woS a own o k n R (goR (Mt a) (fun i => R (o + i)) k).length (at_ (goR (Mt a) (fun i => R (o + i)) k)) k) := by
  have hmono := lenR_le (R := fun i => R (o + i)) (k := k)
  let st : Nat → St := fun i => woS a own o k n R (goR (Mt a) (fun i => R (o + i)) i).length (at_ (goR (Mt a) (fun i => R (o + i)) i)) i
  have step : ∀ j, j < k → CodeSem allG 2 (bodyOf Try.f123 0) (st j) (.normal, st (j + 1)) := by
    intro j hj
    have h1 := hmono j hj
    have h2 := goR_len (M := Mt a) (R := fun i => R (o + i)) j
    have hin := wi_loop (a := a) (own := own) (o := o) (k := k) (n := n) (R := R) (acc := goR (Mt a) (fun i => R (o + i)) j) (r := R (o + j)) (i := j) (by omega)
    have h3 := succ64 (j := j) (by omega)
    have hgo := wo_go (a := a) (own := own) (o := o) (k := k) (n := n) (R := R) (na := (goR (Mt a) (fun i => R (o + i)) j).length) (L := at_ (goR (Mt a) (fun i => R (o + i)) j))
      (na' := (goR (Mt a) (fun i => R (o + i)) (j + 1)).length) (L' := at_ (goR (Mt a) (fun i => R (o + i)) (j + 1))) (i := j) (z := (R (o + j)).s.size)
    refine rT_sem allG_ok (tell_ok hin) ((rT_go hgo ?_).trans ?_)
    · simp only [Int.toNat_natCast]
      repeat' (first | exact AllT.nil | refine AllT.cons ?_ ?_)
      all_goals first | (with_reducible rfl) | exact decide_eq_true (by omega) | exact yes_of ⟨rfl, rfl⟩
    · rw [h3]
      rfl
  have stop : CodeSem allG 2 (bodyOf Try.f123 0) (st k) (.exit 0, st k) := rT_sem allG_ok noLoopsS (rT_go wo_ex ⟨by simp, trivial⟩)
  exact loop_of st k (by simp) stop step
noncomputable def allF : Spec := fun args h => match args, h with
  | [.c (.ptr 0 0 0), .c (.sl 1 o k)], [some ⟨35, true, .row 1 256 f⟩, some ⟨83, own, .row 4 n q⟩] =>
    .need (yes (o + k ≤ n ∧ k < 2 ^ 40 ∧ lenR (fun i => decN (q (o + i))) k < 2 ^ 39 ∧ (f = fun k => v1 (vd (f k))) ∧ q = fun j => encN (decN (q j))))
      (.ret (.c (.sl 2 0 (goR (Mt fun k => vd (f k)) (fun i => decN (q (o + i))) k).length), [some ⟨35, true, .row 1 256 f⟩, some ⟨83, own, .row 4 n q⟩,
        rowGl (goR (Mt fun k => vd (f k)) (fun i => decN (q (o + i))) k).length (at_ (goR (Mt fun k => vd (f k)) (fun i => decN (q (o + i))) k))]))
  | _, _ => .fail
theorem allF_ok : SpecOk Try.prog 123 allF := by
  refine knownS KA2_ok Try.func123 fun args h r he => ?_
  unfold allF at he
  split at he
  · rename_i o k f own n q
    obtain ⟨⟨h1, h2, h3, h4, h5⟩, he⟩ := Tr.eval_ask.1 he
    cases he
    have hl := wo_loop (a := fun k => vd (f k)) (own := own) (R := fun j => decN (q j)) h1 h2 h3
    refine ⟨_, [], 60, _, tell_ok hl, ?_⟩
    have e1 : some ⟨35, true, .row 1 256 f⟩ = rowA fun k => vd (f k) := by rw [rowA, ← h4]
    have e2 : some ⟨83, own, .row 4 n q⟩ = rowRn own n fun j => decN (q j) := by rw [rowRn, ← h5]
    rw [e1, e2]
    exact Tr.go_eval all_w ⟨yes_of ⟨rfl, rfl⟩, trivial⟩
  · cases he
end Go.Proofs.Ytcpahifgdppkbaa.QAI
end
section
/- Glyphs: what is shown; the program's last loop. -/
set_option linter.unusedVariables false
set_option linter.unusedSimpArgs false
namespace Go.Proofs.Ytcpahifgdppkbaa.QAI
open Go Go.RowKit
set_option maxRecDepth 100000
abbrev glK : List (Nat × Option TypeId) := [(5,none),(6,some 87),(13,none),(14,none),(15,none)]
noncomputable def KA3 : Known := [(123, allF), (124, bkF)]
theorem KA3_ok : KnownOk KA3 := consK allF_ok (by kernel_rfl) (consK bkF_ok (by kernel_rfl) nilK)
noncomputable def glG : Ctx2 := GT KA3 (fun k => if k = 4 then glK else []) 0 []
theorem glG_ok : XOk glG := GT_ok KA3_ok _ _ _
def glS (own : Bool) (n : Nat) (R : Nat → Rn) (m : Nat) (A : Nat → Gl) (na : Nat) (L : Nat → Gl) (i : Int) : St :=
  ⟨slots 59 [(5, .c (.sl 1 0 m)), (6, .c (.sl 2 0 na)), (13, .c (.sl 1 0 m)), (14, I64 m), (15, I64 i)], [rowRn own n R, rowGl m A, rowGl na L]⟩
noncomputable def glT (own : Bool) (n : Nat) (R : Nat → Rn) (m : Nat) (A : Nat → Gl) (na : Nat) (L : Nat → Gl) (i : Int) : Tr (Ex × St) := rT glG nol 1 53 (bodyOf Try.f82 0) glK glK (glS own n R m A na L i)
theorem gl_ex {own : Bool} {n : Nat} {R : Nat → Rn} {m : Nat} {A : Nat → Gl} {na : Nat} {L : Nat → Gl} {i : Int} : (glT own n R m A na L i).go [false] =
  some
    ([!decide (i < ((m : Nat) : Int))], Ex.exit 0,
      {
        sl :=
          slots 59
            [(5, AV.c (AC.sl 1 0 m)), (6, AV.c (AC.sl 2 0 na)),
              (13, AV.c (AC.sl 1 0 m)), (14, I64 ((m : Nat) : Int)), (15, I64 i)],
        h :=
          [some
              { t := 83, own := own,
                c :=
                  Cont.row 4 n fun j =>
                    [Value.int IntKind.i64 (R j).n, Value.string (R j).s, Value.int IntKind.i64 (R j).v,
                      Value.int IntKind.i64 (R j).l] },
            some
              { t := 87, own := true,
                c :=
                  Cont.row 4 m fun j =>
                    [Value.int IntKind.i64 (A j).k, Value.int IntKind.i64 (A j).r, Value.int IntKind.i64 (A j).a,
                      Value.int IntKind.i64 (A j).w] },
            some
              { t := 87, own := true,
                c :=
                  Cont.row 4 na fun j =>
                    [Value.int IntKind.i64 (L j).k, Value.int IntKind.i64 (L j).r, Value.int IntKind.i64 (L j).a,
                      Value.int IntKind.i64 (L j).w] }] }) := by kernel_rfl
theorem gl_tt_f {own : Bool} {n : Nat} {R : Nat → Rn} {m : Nat} {A : Nat → Gl} {na : Nat} {L : Nat → Gl} {i : Int} : (glT own n R m A na L i).go [true, true, true, true, true, true, true, true, true, true, true, true, true, true, true, true, true, true, true, true, false, false, false, false, false] =
  some
    ([decide (i < ((m : Nat) : Int)), decide ((0 : Int) ≤ i), decide (i < ((m : Nat) : Int)), decide (0 + i.toNat < m), i == (0 : Int), true,
        true, true, true, true, true, true, i == w64 (((m : Nat) : Int) - (1 : Int)), true, true, true, true, true, true, true,
        !blk
            { k := (A (0 + i.toNat)).k, r := (A (0 + i.toNat)).r, a := (A (0 + i.toNat)).a,
              w := (A (0 + i.toNat)).w },
        true, true, true, true, decide (na = na), true, decide ((na + 1) * 32 ≤ maxCells)],
      Ex.normal,
      {
        sl :=
          slots 59
            [(5, AV.c (AC.sl 1 0 m)),
              (6, AV.c (AC.sl 2 0 (na + 1))),
              (13, AV.c (AC.sl 1 0 m)), (14, I64 ((m : Nat) : Int)),
              (15, I64 (w64 (i + (1 : Int))))],
        h :=
          [some
              { t := 83, own := own,
                c :=
                  Cont.row 4 n fun j =>
                    [Value.int IntKind.i64 (R j).n, Value.string (R j).s, Value.int IntKind.i64 (R j).v,
                      Value.int IntKind.i64 (R j).l] },
            some
              { t := 87, own := true,
                c :=
                  Cont.row 4 m fun j =>
                    [Value.int IntKind.i64 (A j).k, Value.int IntKind.i64 (A j).r, Value.int IntKind.i64 (A j).a,
                      Value.int IntKind.i64 (A j).w] },
            some
              { t := 87, own := true,
                c :=
                  Cont.row 4 (na + 1) fun k =>
                    [Value.int IntKind.i64 (bif decide (k = na) then (A (0 + i.toNat)).k else (L k).k),
                      Value.int IntKind.i64 (bif decide (k = na) then (A (0 + i.toNat)).r else (L k).r),
                      Value.int IntKind.i64 (bif decide (k = na) then (A (0 + i.toNat)).a else (L k).a),
                      Value.int IntKind.i64 (bif decide (k = na) then (A (0 + i.toNat)).w else (L k).w)] }] }) := by kernel_rfl
theorem gl_tt_t {own : Bool} {n : Nat} {R : Nat → Rn} {m : Nat} {A : Nat → Gl} {na : Nat} {L : Nat → Gl} {i : Int} : (glT own n R m A na L i).go [] =
  some
    ([decide (i < ((m : Nat) : Int)), decide ((0 : Int) ≤ i), decide (i < ((m : Nat) : Int)), decide (0 + i.toNat < m), i == (0 : Int), true,
        true, true, true, true, true, true, i == w64 (((m : Nat) : Int) - (1 : Int)), true, true, true, true, true, true, true,
        blk
          { k := (A (0 + i.toNat)).k, r := (A (0 + i.toNat)).r, a := (A (0 + i.toNat)).a,
            w := (A (0 + i.toNat)).w },
        true, true, true, true, true, true],
      Ex.normal,
      {
        sl :=
          slots 59
            [(5, AV.c (AC.sl 1 0 m)), (6, AV.c (AC.sl 2 0 na)),
              (13, AV.c (AC.sl 1 0 m)), (14, I64 ((m : Nat) : Int)),
              (15, I64 (w64 (i + (1 : Int))))],
        h :=
          [some
              { t := 83, own := own,
                c :=
                  Cont.row 4 n fun j =>
                    [Value.int IntKind.i64 (R j).n, Value.string (R j).s, Value.int IntKind.i64 (R j).v,
                      Value.int IntKind.i64 (R j).l] },
            some
              { t := 87, own := true,
                c :=
                  Cont.row 4 m fun j =>
                    [Value.int IntKind.i64 (A j).k, Value.int IntKind.i64 (A j).r, Value.int IntKind.i64 (A j).a,
                      Value.int IntKind.i64 (A j).w] },
            some
              { t := 87, own := true,
                c :=
                  Cont.row 4 na fun j =>
                    [Value.int IntKind.i64 (L j).k, Value.int IntKind.i64 (L j).r, Value.int IntKind.i64 (L j).a,
                      Value.int IntKind.i64 (L j).w] }] }) := by kernel_rfl
theorem gl_tf_f {own : Bool} {n : Nat} {R : Nat → Rn} {m : Nat} {A : Nat → Gl} {na : Nat} {L : Nat → Gl} {i : Int} : (glT own n R m A na L i).go [true, true, true, true, true, true, true, true, true, true, true, true, false, false, false, false, true, true, false, false, true, false, false, false, false, false, false, false] =
  some
    ([decide (i < ((m : Nat) : Int)), decide ((0 : Int) ≤ i), decide (i < ((m : Nat) : Int)), decide (0 + i.toNat < m), i == (0 : Int), true,
        true, true, true, true, true, true, !i == w64 (((m : Nat) : Int) - (1 : Int)), true, true, true,
        decide ((0 : Int) ≤ w64 (i + (1 : Int))), decide (w64 (i + (1 : Int)) < ((m : Nat) : Int)), true, true,
        decide (0 + (w64 (i + (1 : Int))).toNat < m), true, true,
        !blk
            { k := (A (0 + i.toNat)).k, r := (A (0 + i.toNat)).r, a := (A (0 + i.toNat)).a,
              w := (A (0 + i.toNat)).w },
        true, true, true, true, decide (na = na), true, decide ((na + 1) * 32 ≤ maxCells)],
      Ex.normal,
      {
        sl :=
          slots 59
            [(5, AV.c (AC.sl 1 0 m)),
              (6, AV.c (AC.sl 2 0 (na + 1))),
              (13, AV.c (AC.sl 1 0 m)), (14, I64 ((m : Nat) : Int)),
              (15, I64 (w64 (i + (1 : Int))))],
        h :=
          [some
              { t := 83, own := own,
                c :=
                  Cont.row 4 n fun j =>
                    [Value.int IntKind.i64 (R j).n, Value.string (R j).s, Value.int IntKind.i64 (R j).v,
                      Value.int IntKind.i64 (R j).l] },
            some
              { t := 87, own := true,
                c :=
                  Cont.row 4 m fun j =>
                    [Value.int IntKind.i64 (A j).k, Value.int IntKind.i64 (A j).r, Value.int IntKind.i64 (A j).a,
                      Value.int IntKind.i64 (A j).w] },
            some
              { t := 87, own := true,
                c :=
                  Cont.row 4 (na + 1) fun k =>
                    [Value.int IntKind.i64 (bif decide (k = na) then (A (0 + i.toNat)).k else (L k).k),
                      Value.int IntKind.i64 (bif decide (k = na) then (A (0 + i.toNat)).r else (L k).r),
                      Value.int IntKind.i64 (bif decide (k = na) then (A (0 + i.toNat)).a else (L k).a),
                      Value.int IntKind.i64 (bif decide (k = na) then (A (0 + i.toNat)).w else (L k).w)] }] }) := by kernel_rfl
theorem gl_tf_t {own : Bool} {n : Nat} {R : Nat → Rn} {m : Nat} {A : Nat → Gl} {na : Nat} {L : Nat → Gl} {i : Int} : (glT own n R m A na L i).go [true, true, true, true, true, true, true, true, true, true, true, true, false, false, false, false, true, true, false, false, true, false, false] =
  some
    ([decide (i < ((m : Nat) : Int)), decide ((0 : Int) ≤ i), decide (i < ((m : Nat) : Int)), decide (0 + i.toNat < m), i == (0 : Int), true,
        true, true, true, true, true, true, !i == w64 (((m : Nat) : Int) - (1 : Int)), true, true, true,
        decide ((0 : Int) ≤ w64 (i + (1 : Int))), decide (w64 (i + (1 : Int)) < ((m : Nat) : Int)), true, true,
        decide (0 + (w64 (i + (1 : Int))).toNat < m), true, true,
        blk
          { k := (A (0 + i.toNat)).k, r := (A (0 + i.toNat)).r, a := (A (0 + i.toNat)).a,
            w := (A (0 + i.toNat)).w },
        true, true, true, true, true, true],
      Ex.normal,
      {
        sl :=
          slots 59
            [(5, AV.c (AC.sl 1 0 m)), (6, AV.c (AC.sl 2 0 na)),
              (13, AV.c (AC.sl 1 0 m)), (14, I64 ((m : Nat) : Int)),
              (15, I64 (w64 (i + (1 : Int))))],
        h :=
          [some
              { t := 83, own := own,
                c :=
                  Cont.row 4 n fun j =>
                    [Value.int IntKind.i64 (R j).n, Value.string (R j).s, Value.int IntKind.i64 (R j).v,
                      Value.int IntKind.i64 (R j).l] },
            some
              { t := 87, own := true,
                c :=
                  Cont.row 4 m fun j =>
                    [Value.int IntKind.i64 (A j).k, Value.int IntKind.i64 (A j).r, Value.int IntKind.i64 (A j).a,
                      Value.int IntKind.i64 (A j).w] },
            some
              { t := 87, own := true,
                c :=
                  Cont.row 4 na fun j =>
                    [Value.int IntKind.i64 (L j).k, Value.int IntKind.i64 (L j).r, Value.int IntKind.i64 (L j).a,
                      Value.int IntKind.i64 (L j).w] }] }) := by kernel_rfl
theorem gl_ft_f {own : Bool} {n : Nat} {R : Nat → Rn} {m : Nat} {A : Nat → Gl} {na : Nat} {L : Nat → Gl} {i : Int} : (glT own n R m A na L i).go [true, true, true, true, false, false, false, false, true, true, false, false, true, false, false, true, true, true, true, true, true, true, true, false, false, false, false, false] =
  some
    ([decide (i < ((m : Nat) : Int)), decide ((0 : Int) ≤ i), decide (i < ((m : Nat) : Int)), decide (0 + i.toNat < m), !i == (0 : Int), true,
        true, true, decide ((0 : Int) ≤ w64 (i - (1 : Int))), decide (w64 (i - (1 : Int)) < ((m : Nat) : Int)), true, true,
        decide (0 + (w64 (i - (1 : Int))).toNat < m), true, true, i == w64 (((m : Nat) : Int) - (1 : Int)), true, true, true,
        true, true, true, true,
        !blk
            { k := (A (0 + i.toNat)).k, r := (A (0 + i.toNat)).r, a := (A (0 + i.toNat)).a,
              w := (A (0 + i.toNat)).w },
        true, true, true, true, decide (na = na), true, decide ((na + 1) * 32 ≤ maxCells)],
      Ex.normal,
      {
        sl :=
          slots 59
            [(5, AV.c (AC.sl 1 0 m)),
              (6, AV.c (AC.sl 2 0 (na + 1))),
              (13, AV.c (AC.sl 1 0 m)), (14, I64 ((m : Nat) : Int)),
              (15, I64 (w64 (i + (1 : Int))))],
        h :=
          [some
              { t := 83, own := own,
                c :=
                  Cont.row 4 n fun j =>
                    [Value.int IntKind.i64 (R j).n, Value.string (R j).s, Value.int IntKind.i64 (R j).v,
                      Value.int IntKind.i64 (R j).l] },
            some
              { t := 87, own := true,
                c :=
                  Cont.row 4 m fun j =>
                    [Value.int IntKind.i64 (A j).k, Value.int IntKind.i64 (A j).r, Value.int IntKind.i64 (A j).a,
                      Value.int IntKind.i64 (A j).w] },
            some
              { t := 87, own := true,
                c :=
                  Cont.row 4 (na + 1) fun k =>
                    [Value.int IntKind.i64 (bif decide (k = na) then (A (0 + i.toNat)).k else (L k).k),
                      Value.int IntKind.i64 (bif decide (k = na) then (A (0 + i.toNat)).r else (L k).r),
                      Value.int IntKind.i64 (bif decide (k = na) then (A (0 + i.toNat)).a else (L k).a),
                      Value.int IntKind.i64 (bif decide (k = na) then (A (0 + i.toNat)).w else (L k).w)] }] }) := by kernel_rfl
theorem gl_ft_tt {own : Bool} {n : Nat} {R : Nat → Rn} {m : Nat} {A : Nat → Gl} {na : Nat} {L : Nat → Gl} {i : Int} : (glT own n R m A na L i).go [true, true, true, true, false, false, false, false, true, true, false, false, true, false, false] =
  some
    ([decide (i < ((m : Nat) : Int)), decide ((0 : Int) ≤ i), decide (i < ((m : Nat) : Int)), decide (0 + i.toNat < m), !i == (0 : Int), true,
        true, true, decide ((0 : Int) ≤ w64 (i - (1 : Int))), decide (w64 (i - (1 : Int)) < ((m : Nat) : Int)), true, true,
        decide (0 + (w64 (i - (1 : Int))).toNat < m), true, true, i == w64 (((m : Nat) : Int) - (1 : Int)), true, true, true,
        true, true, true, true,
        blk
          { k := (A (0 + i.toNat)).k, r := (A (0 + i.toNat)).r, a := (A (0 + i.toNat)).a,
            w := (A (0 + i.toNat)).w },
        true, (A (0 + (w64 (i - (1 : Int))).toNat)).k == (4 : Int), true, true, true, true],
      Ex.normal,
      {
        sl :=
          slots 59
            [(5, AV.c (AC.sl 1 0 m)), (6, AV.c (AC.sl 2 0 na)),
              (13, AV.c (AC.sl 1 0 m)), (14, I64 ((m : Nat) : Int)),
              (15, I64 (w64 (i + (1 : Int))))],
        h :=
          [some
              { t := 83, own := own,
                c :=
                  Cont.row 4 n fun j =>
                    [Value.int IntKind.i64 (R j).n, Value.string (R j).s, Value.int IntKind.i64 (R j).v,
                      Value.int IntKind.i64 (R j).l] },
            some
              { t := 87, own := true,
                c :=
                  Cont.row 4 m fun j =>
                    [Value.int IntKind.i64 (A j).k, Value.int IntKind.i64 (A j).r, Value.int IntKind.i64 (A j).a,
                      Value.int IntKind.i64 (A j).w] },
            some
              { t := 87, own := true,
                c :=
                  Cont.row 4 na fun j =>
                    [Value.int IntKind.i64 (L j).k, Value.int IntKind.i64 (L j).r, Value.int IntKind.i64 (L j).a,
                      Value.int IntKind.i64 (L j).w] }] }) := by kernel_rfl
theorem gl_ft_tf {own : Bool} {n : Nat} {R : Nat → Rn} {m : Nat} {A : Nat → Gl} {na : Nat} {L : Nat → Gl} {i : Int} : (glT own n R m A na L i).go [true, true, true, true, false, false, false, false, true, true, false, false, true, false, false, true, true, true, true, true, true, true, true, true, true, false, true, false] =
  some
    ([decide (i < ((m : Nat) : Int)), decide ((0 : Int) ≤ i), decide (i < ((m : Nat) : Int)), decide (0 + i.toNat < m), !i == (0 : Int), true,
        true, true, decide ((0 : Int) ≤ w64 (i - (1 : Int))), decide (w64 (i - (1 : Int)) < ((m : Nat) : Int)), true, true,
        decide (0 + (w64 (i - (1 : Int))).toNat < m), true, true, i == w64 (((m : Nat) : Int) - (1 : Int)), true, true, true,
        true, true, true, true,
        blk
          { k := (A (0 + i.toNat)).k, r := (A (0 + i.toNat)).r, a := (A (0 + i.toNat)).a,
            w := (A (0 + i.toNat)).w },
        true, !(A (0 + (w64 (i - (1 : Int))).toNat)).k == (4 : Int), true, true, true, true],
      Ex.normal,
      {
        sl :=
          slots 59
            [(5, AV.c (AC.sl 1 0 m)), (6, AV.c (AC.sl 2 0 na)),
              (13, AV.c (AC.sl 1 0 m)), (14, I64 ((m : Nat) : Int)),
              (15, I64 (w64 (i + (1 : Int))))],
        h :=
          [some
              { t := 83, own := own,
                c :=
                  Cont.row 4 n fun j =>
                    [Value.int IntKind.i64 (R j).n, Value.string (R j).s, Value.int IntKind.i64 (R j).v,
                      Value.int IntKind.i64 (R j).l] },
            some
              { t := 87, own := true,
                c :=
                  Cont.row 4 m fun j =>
                    [Value.int IntKind.i64 (A j).k, Value.int IntKind.i64 (A j).r, Value.int IntKind.i64 (A j).a,
                      Value.int IntKind.i64 (A j).w] },
            some
              { t := 87, own := true,
                c :=
                  Cont.row 4 na fun j =>
                    [Value.int IntKind.i64 (L j).k, Value.int IntKind.i64 (L j).r, Value.int IntKind.i64 (L j).a,
                      Value.int IntKind.i64 (L j).w] }] }) := by kernel_rfl
theorem gl_ff_f {own : Bool} {n : Nat} {R : Nat → Rn} {m : Nat} {A : Nat → Gl} {na : Nat} {L : Nat → Gl} {i : Int} : (glT own n R m A na L i).go [true, true, true, true, false, false, false, false, true, true, false, false, true, false, false, false, false, false, false, true, true, false, false, true, false, false, false, false, false, false, false] =
  some
    ([decide (i < ((m : Nat) : Int)), decide ((0 : Int) ≤ i), decide (i < ((m : Nat) : Int)), decide (0 + i.toNat < m), !i == (0 : Int), true,
        true, true, decide ((0 : Int) ≤ w64 (i - (1 : Int))), decide (w64 (i - (1 : Int)) < ((m : Nat) : Int)), true, true,
        decide (0 + (w64 (i - (1 : Int))).toNat < m), true, true, !i == w64 (((m : Nat) : Int) - (1 : Int)), true, true, true,
        decide ((0 : Int) ≤ w64 (i + (1 : Int))), decide (w64 (i + (1 : Int)) < ((m : Nat) : Int)), true, true,
        decide (0 + (w64 (i + (1 : Int))).toNat < m), true, true,
        !blk
            { k := (A (0 + i.toNat)).k, r := (A (0 + i.toNat)).r, a := (A (0 + i.toNat)).a,
              w := (A (0 + i.toNat)).w },
        true, true, true, true, decide (na = na), true, decide ((na + 1) * 32 ≤ maxCells)],
      Ex.normal,
      {
        sl :=
          slots 59
            [(5, AV.c (AC.sl 1 0 m)),
              (6, AV.c (AC.sl 2 0 (na + 1))),
              (13, AV.c (AC.sl 1 0 m)), (14, I64 ((m : Nat) : Int)),
              (15, I64 (w64 (i + (1 : Int))))],
        h :=
          [some
              { t := 83, own := own,
                c :=
                  Cont.row 4 n fun j =>
                    [Value.int IntKind.i64 (R j).n, Value.string (R j).s, Value.int IntKind.i64 (R j).v,
                      Value.int IntKind.i64 (R j).l] },
            some
              { t := 87, own := true,
                c :=
                  Cont.row 4 m fun j =>
                    [Value.int IntKind.i64 (A j).k, Value.int IntKind.i64 (A j).r, Value.int IntKind.i64 (A j).a,
                      Value.int IntKind.i64 (A j).w] },
            some
              { t := 87, own := true,
                c :=
                  Cont.row 4 (na + 1) fun k =>
                    [Value.int IntKind.i64 (bif decide (k = na) then (A (0 + i.toNat)).k else (L k).k),
                      Value.int IntKind.i64 (bif decide (k = na) then (A (0 + i.toNat)).r else (L k).r),
                      Value.int IntKind.i64 (bif decide (k = na) then (A (0 + i.toNat)).a else (L k).a),
                      Value.int IntKind.i64 (bif decide (k = na) then (A (0 + i.toNat)).w else (L k).w)] }] }) := by kernel_rfl
theorem gl_ff_tt {own : Bool} {n : Nat} {R : Nat → Rn} {m : Nat} {A : Nat → Gl} {na : Nat} {L : Nat → Gl} {i : Int} : (glT own n R m A na L i).go [true, true, true, true, false, false, false, false, true, true, false, false, true, false, false, false, false, false, false, true, true, false, false, true, false, false] =
  some
    ([decide (i < ((m : Nat) : Int)), decide ((0 : Int) ≤ i), decide (i < ((m : Nat) : Int)), decide (0 + i.toNat < m), !i == (0 : Int), true,
        true, true, decide ((0 : Int) ≤ w64 (i - (1 : Int))), decide (w64 (i - (1 : Int)) < ((m : Nat) : Int)), true, true,
        decide (0 + (w64 (i - (1 : Int))).toNat < m), true, true, !i == w64 (((m : Nat) : Int) - (1 : Int)), true, true, true,
        decide ((0 : Int) ≤ w64 (i + (1 : Int))), decide (w64 (i + (1 : Int)) < ((m : Nat) : Int)), true, true,
        decide (0 + (w64 (i + (1 : Int))).toNat < m), true, true,
        blk
          { k := (A (0 + i.toNat)).k, r := (A (0 + i.toNat)).r, a := (A (0 + i.toNat)).a,
            w := (A (0 + i.toNat)).w },
        true, (A (0 + (w64 (i - (1 : Int))).toNat)).k == (4 : Int), true, true, true, true],
      Ex.normal,
      {
        sl :=
          slots 59
            [(5, AV.c (AC.sl 1 0 m)), (6, AV.c (AC.sl 2 0 na)),
              (13, AV.c (AC.sl 1 0 m)), (14, I64 ((m : Nat) : Int)),
              (15, I64 (w64 (i + (1 : Int))))],
        h :=
          [some
              { t := 83, own := own,
                c :=
                  Cont.row 4 n fun j =>
                    [Value.int IntKind.i64 (R j).n, Value.string (R j).s, Value.int IntKind.i64 (R j).v,
                      Value.int IntKind.i64 (R j).l] },
            some
              { t := 87, own := true,
                c :=
                  Cont.row 4 m fun j =>
                    [Value.int IntKind.i64 (A j).k, Value.int IntKind.i64 (A j).r, Value.int IntKind.i64 (A j).a,
                      Value.int IntKind.i64 (A j).w] },
            some
              { t := 87, own := true,
                c :=
                  Cont.row 4 na fun j =>
                    [Value.int IntKind.i64 (L j).k, Value.int IntKind.i64 (L j).r, Value.int IntKind.i64 (L j).a,
                      Value.int IntKind.i64 (L j).w] }] }) := by kernel_rfl
theorem gl_ff_tft {own : Bool} {n : Nat} {R : Nat → Rn} {m : Nat} {A : Nat → Gl} {na : Nat} {L : Nat → Gl} {i : Int} : (glT own n R m A na L i).go [true, true, true, true, false, false, false, false, true, true, false, false, true, false, false, false, false, false, false, true, true, false, false, true, false, false, true, true, false, true, false] =
  some
    ([decide (i < ((m : Nat) : Int)), decide ((0 : Int) ≤ i), decide (i < ((m : Nat) : Int)), decide (0 + i.toNat < m), !i == (0 : Int), true,
        true, true, decide ((0 : Int) ≤ w64 (i - (1 : Int))), decide (w64 (i - (1 : Int)) < ((m : Nat) : Int)), true, true,
        decide (0 + (w64 (i - (1 : Int))).toNat < m), true, true, !i == w64 (((m : Nat) : Int) - (1 : Int)), true, true, true,
        decide ((0 : Int) ≤ w64 (i + (1 : Int))), decide (w64 (i + (1 : Int)) < ((m : Nat) : Int)), true, true,
        decide (0 + (w64 (i + (1 : Int))).toNat < m), true, true,
        blk
          { k := (A (0 + i.toNat)).k, r := (A (0 + i.toNat)).r, a := (A (0 + i.toNat)).a,
            w := (A (0 + i.toNat)).w },
        true, !(A (0 + (w64 (i - (1 : Int))).toNat)).k == (4 : Int), true, true, true,
        (A (0 + (w64 (i + (1 : Int))).toNat)).k == (4 : Int)],
      Ex.normal,
      {
        sl :=
          slots 59
            [(5, AV.c (AC.sl 1 0 m)), (6, AV.c (AC.sl 2 0 na)),
              (13, AV.c (AC.sl 1 0 m)), (14, I64 ((m : Nat) : Int)),
              (15, I64 (w64 (i + (1 : Int))))],
        h :=
          [some
              { t := 83, own := own,
                c :=
                  Cont.row 4 n fun j =>
                    [Value.int IntKind.i64 (R j).n, Value.string (R j).s, Value.int IntKind.i64 (R j).v,
                      Value.int IntKind.i64 (R j).l] },
            some
              { t := 87, own := true,
                c :=
                  Cont.row 4 m fun j =>
                    [Value.int IntKind.i64 (A j).k, Value.int IntKind.i64 (A j).r, Value.int IntKind.i64 (A j).a,
                      Value.int IntKind.i64 (A j).w] },
            some
              { t := 87, own := true,
                c :=
                  Cont.row 4 na fun j =>
                    [Value.int IntKind.i64 (L j).k, Value.int IntKind.i64 (L j).r, Value.int IntKind.i64 (L j).a,
                      Value.int IntKind.i64 (L j).w] }] }) := by kernel_rfl
theorem gl_ff_tff {own : Bool} {n : Nat} {R : Nat → Rn} {m : Nat} {A : Nat → Gl} {na : Nat} {L : Nat → Gl} {i : Int} : (glT own n R m A na L i).go [true, true, true, true, false, false, false, false, true, true, false, false, true, false, false, false, false, false, false, true, true, false, false, true, false, false, true, true, false, true, false, true, false] =
  some
    ([decide (i < ((m : Nat) : Int)), decide ((0 : Int) ≤ i), decide (i < ((m : Nat) : Int)), decide (0 + i.toNat < m), !i == (0 : Int), true,
        true, true, decide ((0 : Int) ≤ w64 (i - (1 : Int))), decide (w64 (i - (1 : Int)) < ((m : Nat) : Int)), true, true,
        decide (0 + (w64 (i - (1 : Int))).toNat < m), true, true, !i == w64 (((m : Nat) : Int) - (1 : Int)), true, true, true,
        decide ((0 : Int) ≤ w64 (i + (1 : Int))), decide (w64 (i + (1 : Int)) < ((m : Nat) : Int)), true, true,
        decide (0 + (w64 (i + (1 : Int))).toNat < m), true, true,
        blk
          { k := (A (0 + i.toNat)).k, r := (A (0 + i.toNat)).r, a := (A (0 + i.toNat)).a,
            w := (A (0 + i.toNat)).w },
        true, !(A (0 + (w64 (i - (1 : Int))).toNat)).k == (4 : Int), true, true, true,
        !(A (0 + (w64 (i + (1 : Int))).toNat)).k == (4 : Int), decide (na = na), true,
        decide ((na + 1) * 32 ≤ maxCells)],
      Ex.normal,
      {
        sl :=
          slots 59
            [(5, AV.c (AC.sl 1 0 m)),
              (6, AV.c (AC.sl 2 0 (na + 1))),
              (13, AV.c (AC.sl 1 0 m)), (14, I64 ((m : Nat) : Int)),
              (15, I64 (w64 (i + (1 : Int))))],
        h :=
          [some
              { t := 83, own := own,
                c :=
                  Cont.row 4 n fun j =>
                    [Value.int IntKind.i64 (R j).n, Value.string (R j).s, Value.int IntKind.i64 (R j).v,
                      Value.int IntKind.i64 (R j).l] },
            some
              { t := 87, own := true,
                c :=
                  Cont.row 4 m fun j =>
                    [Value.int IntKind.i64 (A j).k, Value.int IntKind.i64 (A j).r, Value.int IntKind.i64 (A j).a,
                      Value.int IntKind.i64 (A j).w] },
            some
              { t := 87, own := true,
                c :=
                  Cont.row 4 (na + 1) fun k =>
                    [Value.int IntKind.i64 (bif decide (k = na) then (A (0 + i.toNat)).k else (L k).k),
                      Value.int IntKind.i64 (bif decide (k = na) then (A (0 + i.toNat)).r else (L k).r),
                      Value.int IntKind.i64 (bif decide (k = na) then (A (0 + i.toNat)).a else (L k).a),
                      Value.int IntKind.i64 (bif decide (k = na) then (A (0 + i.toNat)).w else (L k).w)] }] }) := by kernel_rfl
theorem gl_w {own : Bool} {o k n : Nat} {R : Nat → Rn} {a : Nat → Int} {na : Nat} {L : Nat → Gl} {z : Int} : (lfun glG (tell (bodyOf Try.f82 0) (glS own n R (goR (Mt a) (fun i => R (o + i)) k).length (at_ (goR (Mt a) (fun i => R (o + i)) k)) 0 (fun _ => zGl) 0) (.exit 0, glS own n R (goR (Mt a) (fun i => R (o + i)) k).length (at_ (goR (Mt a) (fun i => R (o + i)) k)) na L z)) 60 Try.f82 [aA a, .c (.sl 0 o k)] [rowRn own n R]).go [] =
  some
    ([yes
          (o + k ≤ n ∧
            k < 2 ^ 40 ∧
              lenR (fun i => decN (encN (R (o + i)))) k < 2 ^ 39 ∧
                ((fun k => [Value.int IntKind.i64 (a k)]) = fun k => v1 (vd [Value.int IntKind.i64 (a k)])) ∧
                  (fun j => encN (R j)) = fun j => encN (decN (encN (R j)))),
        yes (wasS (bodyOf Try.f82 0) (glS own n R (goR (Mt a) (fun i => R (o + i)) k).length (at_ (goR (Mt a) (fun i => R (o + i)) k)) 0 (fun _ => zGl) 0))],
      AV.c (AC.sl 1 0 na),
      [some
          { t := 83, own := own,
            c :=
              Cont.row 4 n fun j =>
                [Value.int IntKind.i64 (R j).n, Value.string (R j).s, Value.int IntKind.i64 (R j).v,
                  Value.int IntKind.i64 (R j).l] },
        some
          { t := 87, own := true,
            c :=
              Cont.row 4 na fun j =>
                [Value.int IntKind.i64 (L j).k, Value.int IntKind.i64 (L j).r, Value.int IntKind.i64 (L j).a,
                  Value.int IntKind.i64 (L j).w] }]) := by kernel_rfl
end Go.Proofs.Ytcpahifgdppkbaa.QAI
end
