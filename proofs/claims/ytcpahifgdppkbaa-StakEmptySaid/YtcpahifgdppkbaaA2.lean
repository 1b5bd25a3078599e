/- The operations that turn nothing: the abstract machine's answer is the model's. -/
import Derived.Test.YtcpahifgdppkbaaA1
set_option linter.unusedVariables false
set_option linter.unusedSimpArgs false
namespace Go.Proofs.Ytcpahifgdppkbaa.QAI
open Go Go.RowKit

theorem Tr.eval_bind {α β : Type} (t : Tr α) (f : α → Tr β) : (t.bind f).eval = t.eval.bind fun a => (f a).eval := by
  induction t with
  | ret a => rfl
  | ite b t e ih1 ih2 => cases b <;> simp [Tr.bind, Tr.eval, ih1, ih2]
  | fail => rfl
theorem Tr.eval_need {α : Type} {b : Bool} {t : Tr α} {v : α} : (Tr.need b t).eval = some v ↔ b = true ∧ t.eval = some v := by
  cases b <;> simp [Tr.need, Tr.eval]
theorem Tr.eval_opt {α : Type} (x : Option α) : (Tr.opt x).eval = x := by cases x <;> rfl
theorem Tr.eval_fail {α : Type} : (Tr.fail : Tr α).eval = none := rfl
theorem Tr.eval_ret {α : Type} (a : α) : (Tr.ret a).eval = some a := rfl
theorem Tr.eval_ite {α : Type} (b : Bool) (t e : Tr α) : (Tr.ite b t e).eval = if b = true then t.eval else e.eval := by cases b <;> rfl

theorem pureRun_ok {P : Program} {α : Type} {w : World} : ∀ (s : Sem α) {n : α}, pureRun P s = some n → s.run P w = .ok n w
  | .pure a, n, h => by simp [pureRun] at h; simp [Sem.run, h]
  | .program k, n, h => by simp only [pureRun] at h; simp only [Sem.run]; exact pureRun_ok _ h
  | .load .., n, h => by simp [pureRun] at h
  | .store .., n, h => by simp [pureRun] at h
  | .new .., n, h => by simp [pureRun] at h
  | .shape .., n, h => by simp [pureRun] at h
  | .freeze .., n, h => by simp [pureRun] at h
  | .frozen .., n, h => by simp [pureRun] at h
  | .getObj .., n, h => by simp [pureRun] at h
  | .setObj .., n, h => by simp [pureRun] at h
  | .choose .., n, h => by simp [pureRun] at h
  | .sys .., n, h => by simp [pureRun] at h
  | .mark .., n, h => by simp [pureRun] at h
  | .halt .., n, h => by simp [pureRun] at h

theorem scal_some {m : List Pl} {a : AV} {x y : Value} (h : scal a = some x) (hv : VR m a y) : y = x := by
  cases a with
  | c c =>
    cases c with
    | v u => simp only [scal, Option.some.injEq] at h; subst h; simpa [VR, CR] using hv
    | _ => simp [scal] at h
  | _ => simp [scal] at h
theorem isInt_some {m : List Pl} {a : AV} {k : IntKind} {n : Int} {y : Value} (h : isInt a = some (k, n)) (hv : VR m a y) : y = .int k n := by
  unfold isInt at h
  split at h
  · simp only [Option.some.injEq, Prod.mk.injEq] at h; obtain ⟨rfl, rfl⟩ := h; simpa [VR, CR] using hv
  · cases h

theorem F2_ofCells (m : List Pl) (l : List Value) : F2 (CR m) (ofCells l) l := by
  induction l with
  | nil => exact .nil
  | cons a l ih => exact .cons rfl ih
theorem VR_ofConst (m : List Pl) (v : Value) : VR m (ofConst v) v := by
  unfold ofConst
  split
  · exact ⟨_, rfl, F2_ofCells _ _⟩
  · exact rfl

section
variable {G : Ctx} {o : Oper} {ρ : Operand → AV} {ρ' : Operand → Value} {h : AHeap} {w : World} {B : Nat} {m : List Pl} {v : AV}

/-- What the operands say of each other. -/
def OpsOk (m : List Pl) (ρ : Operand → AV) (ρ' : Operand → Value) : Prop := ∀ x, VR m (ρ x) (ρ' x)

def LOk (P : Program) (m : List Pl) (w : World) (ρ' : Operand → Value) (o : Oper) (v : AV) : Prop := ∃ x, (execOp ρ' o).run P w = .ok (.value x) w ∧ VR m v x

theorem apure_ok (hs : ∀ cs b, o.op ≠ .select cs b) (hρ : OpsOk m ρ ρ') (he : (apure G.P o ρ).eval = some v) : LOk G.P m w ρ' o v := by
  unfold apure at he
  split at he
  · rename_i hall
    split at he
    · rename_i x hx
      simp only [Tr.eval, Option.some.injEq] at he
      subst he
      refine ⟨x, ?_, VR_ofConst _ _⟩
      have hc : execOp (fun x => (scal (ρ x)).getD undef) o = execOp ρ' o := execOp_congr o hs fun y hy => by
        have hy' := List.all_eq_true.1 hall y (Array.mem_toList_iff.2 hy)
        obtain ⟨u, hu⟩ := Option.isSome_iff_exists.1 hy'
        rw [hu, Option.getD_some]
        exact (scal_some hu (hρ y)).symm
      rw [← hc]
      exact pureRun_ok _ hx
    · cases he
  · cases he

theorem cut_ok {T : List TI} {t : TypeId} {ti : TI} (hT : TOk G.P T) (ht : lookT T t = some ti) {l : List AC} {cs : List Value} (hl : F2 (CR m) l cs) {j : Nat} (hc : cut ti l j = some v) (h1 : ti.agg = false → ti.size = 1) :
    ((cs.drop j).take ti.size).length = ti.size ∧ VR m v (if ti.agg then .agg ((cs.drop j).take ti.size).toArray else ((cs.drop j).take ti.size).headD undef) := by
  unfold cut at hc
  split at hc
  · rename_i ha
    split at hc
    · cases hc
    · rename_i hlt
      simp only [Option.some.injEq] at hc
      subst hc
      have hlen := (hl.drop j).length
      rw [if_pos ha]
      refine ⟨by simp only [List.length_take]; omega, ⟨_, rfl, ?_⟩⟩
      simpa using (hl.drop j).take ti.size
  · rename_i ha
    have ha' : ti.agg = false := by simpa using ha
    have hs := h1 ha'
    rw [if_neg ha]
    cases e : l[j]? with
    | none => simp [e] at hc
    | some a =>
      rw [e] at hc
      simp only [Option.map_some, Option.some.injEq] at hc
      subst hc
      obtain ⟨x, hx, hr⟩ := hl.get j a e
      have hd : cs.drop j = x :: cs.drop (j + 1) := by
        obtain ⟨hlt, hx'⟩ := List.getElem?_eq_some_iff.1 hx
        rw [List.drop_eq_getElem_cons hlt, hx']
      rw [hs, hd]
      exact ⟨by simp, by simpa [VR] using hr⟩

/-- The cells of one element, as they lie. -/
theorem BR.cells {b : ABlk} {p : Pl} (hb : BR B m b p w) {i : Nat} (hi : i < b.c.n) (hp : 0 < p.sz) :
    ∃ A cs, p.A = some A ∧ A.spot = none ∧ cs.length = p.sz ∧ F2 (CR m) (b.c.el i) cs ∧ ∀ (j : Nat) x, cs[j]? = some x → w.cell? ⟨A.block, A.off + (i * p.sz + j), none⟩ = some x := by
  have hlen := hb.len i hi
  obtain ⟨A, x0, hA, hsp, _, _, _⟩ := hb.cell i 0 ((b.c.el i)[0]'(by omega)) hi (by simp)
  have hex : ∀ k, k ≤ (b.c.el i).length → ∃ cs : List Value, cs.length = k ∧ F2 (CR m) ((b.c.el i).take k) cs ∧ ∀ (j : Nat) x, cs[j]? = some x → w.cell? ⟨A.block, A.off + (i * p.sz + j), none⟩ = some x := by
    intro k
    induction k with
    | zero => intro _; exact ⟨[], rfl, by simpa using F2.nil, fun j x hx => by simp at hx⟩
    | succ k ih =>
      intro hk
      obtain ⟨cs, hc, hf, hg⟩ := ih (by omega)
      obtain ⟨A', x, hA', _, hx, hr, _⟩ := hb.cell i k ((b.c.el i)[k]'(by omega)) hi (by simp)
      have hAA : A' = A := by rw [hA] at hA'; cases hA'; rfl
      subst hAA
      refine ⟨cs ++ [x], by simp [hc], ?_, ?_⟩
      · rw [List.take_succ_eq_append_getElem (by omega)]
        exact hf.append (.cons hr .nil)
      · intro j y hy
        rcases Nat.lt_or_ge j cs.length with hj | hj
        · exact hg j y (by rwa [List.getElem?_append_left hj] at hy)
        · rw [List.getElem?_append_right hj] at hy
          have : j - cs.length = 0 := by
            rcases Nat.eq_zero_or_pos (j - cs.length) with h0 | h0
            · exact h0
            · rw [List.getElem?_eq_none (by simp; omega)] at hy; cases hy
          rw [this] at hy
          simp only [List.getElem?_cons_zero, Option.some.injEq] at hy
          subst hy
          have : j = k := by omega
          subst this
          exact hx
  obtain ⟨cs, hc, hf, hg⟩ := hex _ (Nat.le_refl _)
  exact ⟨A, cs, hA, hsp, by omega, by simpa using hf, hg⟩

theorem load_one (hT : TOk G.P G.T) (h1 : ∀ t ti, lookT G.T t = some ti → 0 < ti.size ∧ (ti.agg = false → ti.size = 1)) {t : TypeId} {ti : TI} (ht : lookT G.T t = some ti) {b : ABlk} {p : Pl} (hb : BR B m b p w) {i j : Nat} (hi : i < b.c.n)
    (hc : cut ti (b.c.el i) j = some v) : ∃ A x, p.A = some A ∧ A.spot = none ∧ (loadVar t ⟨A.block, A.off + (i * p.sz + j), none⟩).run G.P w = .ok x w ∧ VR m v x := by
  have hpos : 0 < p.sz := by
    rw [← hb.len i hi]
    rcases Nat.eq_zero_or_pos (b.c.el i).length with h0 | h0
    · have : b.c.el i = [] := List.length_eq_zero_iff.1 h0
      rw [this] at hc
      unfold cut at hc
      have := (h1 t ti ht).1
      split at hc
      · rw [if_pos (by simpa using this)] at hc; cases hc
      · simp at hc
    · exact h0
  obtain ⟨A, cs, hA, hsp, hlen, hf, hg⟩ := hb.cells hi hpos
  obtain ⟨hl, hv⟩ := cut_ok hT ht hf hc (h1 t ti ht).2
  refine ⟨A, _, hA, hsp, run_loadVar' hT ht hl ?_ (h1 t ti ht).2, hv⟩
  intro k x hx
  have hx' : cs[j + k]? = some x := by
    rw [List.getElem?_take] at hx
    split at hx
    · rwa [List.getElem?_drop] at hx
    · cases hx
  have := hg (j + k) x hx'
  rw [add_none rfl]
  simpa [Nat.add_assoc] using this

structure COk (G : Ctx) : Prop where
  t : TOk G.P G.T
  one : ∀ t ti, lookT G.T t = some ti → 0 < ti.size ∧ (ti.agg = false → ti.size = 1)
  bytes : ∀ t ti, lookT G.T t = some ti → 0 < ti.bytes

theorem aload0_ok (hG : COk G) {t : TypeId} {a : AV} {a' : Value} (ha : VR m a a') (H : HR B m h w) (he : (aload0 G.T h t a).eval = some v) :
    ∃ x, (Instr.loadAt t a').run G.P w = .ok x w ∧ VR m v x := by
  unfold aload0 at he
  split at he
  · rename_i id i j
    split at he
    · rename_i ti b hti hb
      obtain ⟨q, hq, hbr⟩ := H.at_ hb
      obtain ⟨p, A, hp, hA, hsp, rfl⟩ := ha
      have hpq : p = q := by rw [hp] at hq; cases hq; rfl
      subst hpq
      have key : ∀ {i j : Nat}, i < b.c.n → cut ti (b.c.el i) j = some v → ∃ x, (Instr.loadAt t (.pointer (some ⟨A.block, A.off + (i * p.sz + j), none⟩))).run G.P w = .ok x w ∧ VR m v x := by
        intro i j hi hc
        obtain ⟨A', x, hA', _, hr, hv⟩ := load_one hG.t hG.one hti hbr hi hc
        have : A' = A := by rw [hA] at hA'; cases hA'; rfl
        subst this
        exact ⟨x, by simp [Instr.loadAt, Instr.sureAddr, Sem.run_bind, hr], hv⟩
      split at he
      · rename_i n f mm hbc hsh
        split at he
        · rename_i hij
          obtain ⟨rfl, rfl⟩ := hij
          obtain ⟨hn, hv⟩ := Tr.eval_need.1 he
          simp only [Tr.eval, Option.some.injEq] at hv
          subst hv
          have hn' : n = mm := by simpa using hn
          subst hn'
          obtain ⟨_, hag, hsz, _, hpos⟩ := hG.t.shape t ti n 1 hti hsh
          obtain ⟨bt, own, c⟩ := b
          simp only at hbc
          subst hbc
          have hsz1 : p.sz = 1 := hbr.sz
          have hlen : ∀ k, k < n → (f k).length = 1 := fun k hk => by
            have := hbr.len k hk
            simpa [Cont.el, ofCells, hsz1] using this
          have hcell : ∀ k, k < n → w.cell? ⟨A.block, A.off + k, none⟩ = some ((f k).headD undef) ∧ oneV ((f k).headD undef) = true := fun k hk => by
            match e : f k, hlen k hk with
            | [x], _ =>
              obtain ⟨A', y, hA', _, hy, hr, h1y⟩ := hbr.cell k 0 (.v x) hk (by simp [Cont.el, ofCells, e])
              have : A' = A := by rw [hA] at hA'; cases hA'; rfl
              subst this
              simp only [CR] at hr
              subst hr
              exact ⟨by simpa [hsz1] using hy, h1y⟩
          have hrun := run_loadVar' (P := G.P) (w := w) (a := ⟨A.block, A.off + (0 * p.sz + 0), none⟩) hG.t hti (xs := (List.range n).map fun k => (f k).headD undef) (by simp [hsz]) (fun k x hk => by
            rw [List.getElem?_map] at hk
            rcases Nat.lt_or_ge k n with hkn | hkn
            · rw [List.getElem?_range hkn] at hk
              simp only [Option.map_some, Option.some.injEq] at hk
              subst hk
              rw [add_none rfl]
              simpa using (hcell k hkn).1
            · rw [List.getElem?_eq_none (by simpa using hkn)] at hk; cases hk) (hG.one t ti hti).2
          rw [hag] at hrun
          refine ⟨_, by simp only [Instr.loadAt, Instr.sureAddr, Sem.run_bind, Sem.run_pure, Result.andThen_ok]; exact hrun, ?_⟩
          exact ⟨rfl, fun k hk => (hcell k hk).2⟩
        · cases he
      · rename_i l _ hbc
        split at he
        · rename_i hi
          subst hi
          rw [Tr.eval_opt] at he
          exact key (by rw [hbc]; exact Nat.zero_lt_one) (by rw [hbc]; exact he)
        · cases he
      · rename_i c _ _ _
        obtain ⟨hn, hv⟩ := Tr.eval_need.1 he
        rw [Tr.eval_opt] at hv
        exact key (by simpa using hn) hv
    · cases he
  · cases he

theorem strsOf_get : ∀ {l : List (List AC)} {ss : List ByteArray}, strsOf l = some ss → l = ss.map fun s => [.v (.string s)]
  | [], ss, h => by simp [strsOf] at h; subst h; rfl
  | x :: l, ss, h => by
    unfold strsOf at h
    split at h
    · cases ‹x :: l = []›
    · rename_i s l' e
      cases e
      simp only [Option.map_eq_some_iff] at h
      obtain ⟨r, hr, rfl⟩ := h
      rw [List.map_cons, ← strsOf_get hr]
    · cases h
theorem intsOf_get {k : IntKind} : ∀ {l : List (List AC)} {xs : List Int}, intsOf k l = some xs → l = xs.map fun x => [.v (.int k x)]
  | [], xs, h => by simp [intsOf] at h; subst h; rfl
  | x :: l, xs, h => by
    unfold intsOf at h
    split at h
    · cases ‹x :: l = []›
    · rename_i k' a l' e
      cases e
      split at h
      · rename_i e'
        subst e'
        simp only [Option.map_eq_some_iff] at h
        obtain ⟨r, hr, rfl⟩ := h
        rw [List.map_cons, ← intsOf_get hr]
      · cases h
    · cases h
theorem tblOf_get {l : List (List AC)} {f : Nat → Value} (h : tblOf l = some f) {i : Nat} (hi : i < l.length) : l[i]? = some [.v (f i)] := by
  unfold tblOf at h
  split at h
  · simp only [Option.map_eq_some_iff] at h
    obtain ⟨ss, hs, rfl⟩ := h
    have := strsOf_get hs
    rw [this] at hi ⊢
    rw [List.length_map] at hi
    simp [hi]
  · simp only [Option.map_eq_some_iff] at h
    obtain ⟨ss, hs, rfl⟩ := h
    have := intsOf_get hs
    rw [this] at hi ⊢
    rw [List.length_map] at hi
    simp [hi]
  · cases h
theorem tblIn_get {T : List TI} {t : TypeId} {id n i : Nat} {f : Nat → Value} (h1 : tblIn T h t id = some (n, f)) (hi : i < n) : (aload0 T h t (.c (.ptr id i 0))).eval = some (.c (.v (f i))) := by
  unfold tblIn at h1
  split at h1
  · rename_i ti _ _ l z hti hat
    split at h1
    · cases h1
    · rename_i hag
      simp only [Option.map_eq_some_iff, Prod.mk.injEq] at h1
      obtain ⟨g, hg, rfl, rfl⟩ := h1
      have := tblOf_get hg hi
      unfold aload0
      simp only [hti, hat]
      refine Tr.eval_need.2 ⟨decide_eq_true hi, ?_⟩
      rw [Tr.eval_opt]
      unfold cut
      rw [if_neg hag]
      simp [Cont.el, List.getD_eq_getElem?_getD, this]
  · cases h1
theorem aload_sub {T : List TI} {t : TypeId} {a : AV} (he : (aload T h t a).eval = some v) : (aload0 T h t a).eval = some v := by
  unfold aload at he
  split at he
  · split at he
    · rename_i n f htb
      obtain ⟨h1, he⟩ := Tr.eval_need.1 he
      simp only [Tr.eval, Option.some.injEq] at he
      subst he
      exact tblIn_get htb (by simpa using h1)
    · exact he
  · exact he
theorem aload_ok (hG : COk G) {t : TypeId} {a : AV} {a' : Value} (ha : VR m a a') (H : HR B m h w) (he : (aload G.T h t a).eval = some v) :
    ∃ x, (Instr.loadAt t a').run G.P w = .ok x w ∧ VR m v x := aload0_ok hG ha H (aload_sub he)
end
end Go.Proofs.Ytcpahifgdppkbaa.QAI
