/- The operations that turn nothing, all of them. -/
import Derived.Test.YtcpahifgdppkbaaA2
set_option linter.unusedVariables false
set_option linter.unusedSimpArgs false
namespace Go.Proofs.Ytcpahifgdppkbaa.QAI
open Go Go.RowKit

section
variable {G : Ctx} {o : Oper} {ρ : Operand → AV} {ρ' : Operand → Value} {h : AHeap} {w : World} {B : Nat} {m : List Pl} {v : AV}

/-- Of the structs whose equality is told: it is that of the cells. -/
structure EOk (G : Ctx) : Prop where
  g : ∀ t n, (t, n) ∈ G.eqs → G.P.eqGuardType G.P.depth t = false
  e : ∀ t n, (t, n) ∈ G.eqs → ∀ (m : List Pl) l k (xs ys : Array Value) r (w : World), l.map kindAC = n → ceqs l k = some r → F2 (CR m) l xs.toList → F2 (CR m) k ys.toList →
    (Op.equalIn 10000 t (.agg xs) (.agg ys)).run G.P w = .ok r w

structure GOk (G : Ctx) : Prop where
  c : COk G
  e : EOk G

theorem fieldOf_some {T : List TI} {P : Program} (hT : TOk P T) {t : TypeId} {k : Nat} {f : Field} (hf : fieldOf T t k = some f) : ∃ fs, P.underlying t = some (.struct fs) ∧ fs[k]? = some f := by
  unfold fieldOf at hf
  split at hf
  · rename_i fs _ _ _ _ _ _ ht
    exact ⟨fs, hT.u t _ ht, by simpa using hf⟩
  · cases hf

theorem run_field' {P : Program} {T : List TI} (hT : TOk P T) {t : TypeId} {ti : TI} (ht : lookT T t = some ti) {cs : Array Value} {off : Nat} {x : Value}
    (hl : ((cs.toList.drop off).take ti.size).length = ti.size) (hx : x = if ti.agg then .agg ((cs.toList.drop off).take ti.size).toArray else ((cs.toList.drop off).take ti.size).headD undef)
    (h1 : ti.agg = false → ti.size = 1) : (part t cs off).run P w = .ok x w := by
  obtain ⟨i, z, hi, hs, _, _, _⟩ := hT.i t ti ht
  have hu := hT.u t ti ht
  have ha := hT.agg t ti ht
  have hia : (isAgg t).run P w = .ok ti.agg w := by rw [ha]; exact run_isAgg' hu
  simp only [part, Sem.run_bind, hia, Result.andThen_ok]
  cases e : ti.agg with
  | true =>
    simp only [e, if_true] at hx
    simp only [if_true, Sem.run_bind, run_sizeOf' hi, Result.andThen_ok, Sem.run_pure, hx]
    congr 2
    apply Array.ext'
    simp [hs, List.take_drop]
  | false =>
    simp only [e, Bool.false_eq_true, if_false] at hx
    have := h1 e
    rw [this] at hl hx
    cases hd : cs.toList.drop off with
    | nil => rw [hd] at hl; simp at hl
    | cons y ys =>
      rw [hd] at hx
      simp at hx
      have hget : cs[off]? = some y := by
        have : (cs.toList.drop off)[0]? = some y := by rw [hd]; rfl
        rw [List.getElem?_drop] at this
        simpa using this
      simp [hget, hx]

theorem need2 {α : Type} {b c : Bool} {t : Tr α} {v : α} (h : (Tr.need b (Tr.need c t)).eval = some v) : b = true ∧ c = true ∧ t.eval = some v := by
  obtain ⟨h1, h2⟩ := Tr.eval_need.1 h
  exact ⟨h1, Tr.eval_need.1 h2⟩

theorem exec_val {P : Program} {s : Sem Value} {x : Value} (hr : s.run P w = .ok x w) : (do pure (Next.value (← s)) : Sem Next).run P w = .ok (.value x) w := by
  simp [Sem.run_bind, hr]

theorem l_move (hρ : OpsOk m ρ ρ') {x : Operand} (ho : o.op = .move x ∨ o.op = .assign x) (he : v = ρ x) : LOk G.P m w ρ' o v := by
  refine ⟨ρ' x, ?_, he ▸ hρ x⟩
  rcases ho with ho | ho <;> simp [execOp, ho]

theorem l_load (hG : GOk G) (hρ : OpsOk m ρ ρ') (H : HR B m h w) {t : TypeId} {a : Operand} (ho : o.op = .load t a) (he : (aload G.T h t (ρ a)).eval = some v) : LOk G.P m w ρ' o v := by
  obtain ⟨x, hr, hv⟩ := aload_ok hG.c (hρ a) H he
  exact ⟨x, by simp only [execOp, ho]; exact exec_val hr, hv⟩

theorem l_fieldAddr (hG : GOk G) (hρ : OpsOk m ρ ρ') {s : TypeId} {x : Operand} {k : Nat} (ho : o.op = .fieldAddr s x k) {id i j : Nat} {f : Field} {ti : TI} (hx : ρ x = .c (.ptr id i j)) (hf : fieldOf G.T s k = some f)
    (hti : lookT G.T f.type = some ti) : LOk G.P m w ρ' o (.c (.ptr id i (j + f.offset))) := by
  have hxv := hρ x
  rw [hx] at hxv
  obtain ⟨p, A, hp, hA, hsp, hxe⟩ := hxv
  obtain ⟨fs, hu, hfk⟩ := fieldOf_some hG.c.t hf
  obtain ⟨inf, z, hi, hs, _, _, _⟩ := hG.c.t.i _ _ hti
  have hne : inf.size ≠ 0 := by have := (hG.c.one _ _ hti).1; omega
  refine ⟨.pointer (some ⟨A.block, A.off + (i * p.sz + (j + f.offset)), none⟩), ?_, ⟨p, A, hp, hA, hsp, rfl⟩⟩
  simp only [execOp, ho]
  refine exec_val ?_
  rw [hxe]
  simp only [Instr.fieldAt, Sem.run_bind, run_underlying' hu, Result.andThen_ok, hfk, Instr.sureAddr, Sem.run_pure, fieldPlace, run_sizeOf' hi, hne, if_false]
  rw [add_none rfl]
  simp [Nat.add_assoc]

theorem l_field (hG : GOk G) (hρ : OpsOk m ρ ρ') {t : TypeId} {x : Operand} {k : Nat} (ho : o.op = .field t x k) {l : List AC} {f : Field} {ti : TI} (hx : ρ x = .agg l) (hf : fieldOf G.T t k = some f)
    (hti : lookT G.T f.type = some ti) (hc : cut ti l f.offset = some v) : LOk G.P m w ρ' o v := by
  have hxv := hρ x
  rw [hx] at hxv
  obtain ⟨cs, hxe, hF⟩ := hxv
  obtain ⟨fs, hu, hfk⟩ := fieldOf_some hG.c.t hf
  obtain ⟨hl, hv⟩ := cut_ok hG.c.t hti hF hc (hG.c.one _ _ hti).2
  refine ⟨_, ?_, hv⟩
  simp only [execOp, ho]
  refine exec_val ?_
  rw [hxe]
  simp only [Instr.field, Sem.run_bind, run_underlying' hu, Result.andThen_ok, hfk, asAgg, Sem.run_pure]
  exact run_field' hG.c.t hti hl rfl (hG.c.one _ _ hti).2

theorem l_indexAddr (hG : GOk G) (hρ : OpsOk m ρ ρ') (H : HR B m h w) {t e : TypeId} {x ix : Operand} (ho : o.op = .indexAddr t x ix) {id i n : Nat} {q : IntKind} {k : Int} {ti te : TI} {b : ABlk} (ht : lookT G.T t = some ti) (hu : ti.u = .slice e)
    (hx : ρ x = .c (.sl id i n)) (hk : isInt (ρ ix) = some (q, k)) (hte : lookT G.T e = some te) (hb : h.at id = some b) (hsz : b.c.sz = te.size) (h0 : 0 ≤ k) (h1 : k < (n : Int)) :
    LOk G.P m w ρ' o (.c (.ptr id (i + k.toNat) 0)) := by
  have hxv := hρ x
  rw [hx] at hxv
  obtain ⟨p, A', c', hp, hxe, hn, _, hpos⟩ := hxv
  obtain ⟨A, hA, hsp, hA'⟩ := hpos (by omega)
  have hkv := isInt_some hk (hρ ix)
  obtain ⟨p', hp', hbr⟩ := H.at_ hb
  have : p' = p := by rw [hp] at hp'; cases hp'; rfl
  subst this
  have hut := hG.c.t.u t ti ht
  rw [hu] at hut
  obtain ⟨inf, z, hi, hs, _, _, _⟩ := hG.c.t.i _ _ hte
  refine ⟨_, ?_, ⟨p', A, hp, hA, hsp, rfl⟩⟩
  simp only [execOp, ho]
  refine exec_val ?_
  rw [hxe, hkv, hA']
  simp only [Instr.indexAt, asIntOf, Sem.run_bind, Sem.run_pure, Result.andThen_ok, run_underlying' hut]
  have hc : 0 ≤ k ∧ k < (n : Int) := ⟨h0, h1⟩
  simp only [Bool.and_false, Sem.run_pure, Sem.run_bind, Result.andThen_ok, if_pos hc, run_sizeOf' hi]
  rw [add_none rfl, hs, ← hsz, ← hbr.sz, Nat.add_mul]
  simp [Nat.add_assoc]

theorem l_indexArr (hG : GOk G) (hρ : OpsOk m ρ ρ') {t e : TypeId} {x ix : Operand} (ho : o.op = .indexAddr t x ix) {id i j len : Nat} {q : IntKind} {k : Int} {ti te : TI} (ht : lookT G.T t = some ti) (hu : ti.u = .array len e)
    (hx : ρ x = .c (.ptr id i j)) (hk : isInt (ρ ix) = some (q, k)) (hte : lookT G.T e = some te) (h0 : 0 ≤ k) (h1 : k < (len : Int)) :
    LOk G.P m w ρ' o (.c (.ptr id i (j + k.toNat * te.size))) := by
  have hxv := hρ x
  rw [hx] at hxv
  obtain ⟨p, A, hp, hA, hsp, hxe⟩ := hxv
  have hkv := isInt_some hk (hρ ix)
  have hut := hG.c.t.u t ti ht
  rw [hu] at hut
  obtain ⟨inf, z, hi, hs, _, _, _⟩ := hG.c.t.i _ _ hte
  refine ⟨_, ?_, ⟨p, A, hp, hA, hsp, rfl⟩⟩
  simp only [execOp, ho]
  refine exec_val ?_
  rw [hxe, hkv]
  simp only [Instr.indexAt, asIntOf, Sem.run_bind, Sem.run_pure, Result.andThen_ok, run_underlying' hut, Instr.sureAddr]
  have hc : 0 ≤ k ∧ k < (len : Int) := ⟨h0, h1⟩
  simp only [Sem.run_pure, Sem.run_bind, Result.andThen_ok, if_pos hc, run_sizeOf' hi]
  rw [add_none rfl, hs]
  simp [Nat.add_assoc]
end
end Go.Proofs.Ytcpahifgdppkbaa.QAI
