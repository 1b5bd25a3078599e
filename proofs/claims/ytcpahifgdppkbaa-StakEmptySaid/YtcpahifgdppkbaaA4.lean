/- The operations that turn nothing, second half. -/
import Derived.Test.YtcpahifgdppkbaaA3
set_option linter.unusedVariables false
set_option linter.unusedSimpArgs false
namespace Go.Proofs.Ytcpahifgdppkbaa.QAI
open Go Go.RowKit

section
variable {G : Ctx} {o : Oper} {ρ : Operand → AV} {ρ' : Operand → Value} {h : AHeap} {w : World} {B : Nat} {m : List Pl} {v : AV}

theorem bt_get {s : ByteArray} {k : Int} (h0 : 0 ≤ k) (h1 : k < (s.size : Int)) : ∃ b : UInt8, s[k.toNat]? = some b ∧ (b.toNat : Int) = bt s k := by
  have hlt : k.toNat < s.size := by omega
  have hl : k.toNat < s.data.toList.length := by simpa using hlt
  refine ⟨s[k.toNat], by simp [hlt], ?_⟩
  unfold bt
  rw [List.getD_eq_getElem?_getD, List.getElem?_eq_getElem hl]
  rfl

theorem l_indexStr (hG : GOk G) (hρ : OpsOk m ρ ρ') {t : TypeId} {x ix : Operand} (ho : o.op = .index t x ix) {s : ByteArray} {q : IntKind} {k : Int} {ti : TI} (ht : lookT G.T t = some ti) (hu : ti.u = .string)
    (hx : ρ x = .c (.v (.string s))) (hk : isInt (ρ ix) = some (q, k)) (h0 : 0 ≤ k) (h1 : k < (s.size : Int)) : LOk G.P m w ρ' o (.c (.v (.int .u8 (bt s k)))) := by
  have hxv := hρ x
  rw [hx] at hxv
  have hxe : ρ' x = .string s := hxv
  have hkv := isInt_some hk (hρ ix)
  have hut := hG.c.t.u t ti ht
  rw [hu] at hut
  obtain ⟨b, hb, hbt⟩ := bt_get h0 h1
  refine ⟨_, ?_, (rfl : CR m (.v (.int .u8 (bt s k))) (.int .u8 (bt s k)))⟩
  simp only [execOp, ho]
  refine exec_val ?_
  rw [hxe, hkv]
  simp only [Instr.index, asIntOf, Sem.run_bind, Sem.run_pure, Result.andThen_ok, run_underlying' hut, if_pos h0, hb, hbt]

theorem l_indexArrV (hG : GOk G) (hρ : OpsOk m ρ ρ') {t e : TypeId} {x ix : Operand} (ho : o.op = .index t x ix) {n len : Nat} {f : Nat → Value} {q : IntKind} {k : Int} {ti te : TI} (ht : lookT G.T t = some ti) (hu : ti.u = .array len e)
    (hx : ρ x = .arr n f) (hk : isInt (ρ ix) = some (q, k)) (hte : lookT G.T e = some te) (hs1 : te.size = 1) (hag : te.agg = false) (hn : n = len) (h0 : 0 ≤ k) (h1 : k < (len : Int)) : LOk G.P m w ρ' o (.c (.v (f k.toNat))) := by
  have hxv := hρ x
  rw [hx] at hxv
  simp only [VR] at hxv
  have hxe : ρ' x = .agg ⟨(List.range n).map f⟩ := hxv.1
  have hkv := isInt_some hk (hρ ix)
  have hut := hG.c.t.u t ti ht
  rw [hu] at hut
  obtain ⟨inf, z, hi, hs, _, _, _⟩ := hG.c.t.i _ _ hte
  subst hn
  have hlt : k.toNat < n := by omega
  refine ⟨_, ?_, (rfl : CR m (.v (f k.toNat)) (f k.toNat))⟩
  simp only [execOp, ho]
  refine exec_val ?_
  rw [hxe, hkv]
  have hc : 0 ≤ k ∧ k < (n : Int) := ⟨h0, h1⟩
  simp only [Instr.index, asIntOf, Sem.run_bind, Sem.run_pure, Result.andThen_ok, run_underlying' hut, if_pos hc, run_sizeOf' hi]
  refine run_field' hG.c.t hte ?_ ?_ (hG.c.one _ _ hte).2
  · rw [hs1, hs, hs1]
    simp only [Nat.mul_one, List.length_take, List.length_drop, List.length_map, List.length_range]
    omega
  · rw [hag, hs, hs1]
    have hg : ((List.range n).map f)[k.toNat]? = some (f k.toNat) := by simp [hlt]
    obtain ⟨hlt', hge⟩ := List.getElem?_eq_some_iff.1 hg
    simp only [Nat.mul_one, Bool.false_eq_true, if_false]
    rw [List.drop_eq_getElem_cons hlt', hge]
    rfl

theorem decInt_iff {a b : Int} {n : Nat} (h : decInt a b n = true) : 0 ≤ a ∧ a ≤ b ∧ b ≤ (n : Int) := by
  unfold decInt at h
  simpa [and_assoc] using h

def loOf (ρ : Operand → AV) : Option Operand → Option (IntKind × Int) := fun lo => match lo with | some x => isInt (ρ x) | none => some (.i64, 0)
def hiOf (ρ : Operand → AV) (n : Nat) : Option Operand → Option (IntKind × Int) := fun hi => match hi with | some x => isInt (ρ x) | none => some (.i64, (n : Int))

theorem run_bound {P : Program} {i : Int} {q : IntKind} {y : Nat} {c : BoundsCode} (h0 : 0 ≤ i) (h1 : i ≤ (y : Int)) : (Instr.sliceBound (.int q i) y c).run P w = .ok i.toNat w := by
  have hc : 0 ≤ i ∧ i ≤ (y : Int) := ⟨h0, h1⟩
  simp only [Instr.sliceBound, asIntOf, Sem.run_bind, Sem.run_pure, Result.andThen_ok, if_pos hc]

theorem run_bounds' {P : Program} (hρ : OpsOk m ρ ρ') {isS : Bool} {len cap : Nat} {lo hi : Option Operand} {a b : Int} {q q' : IntKind} (hlo : loOf ρ lo = some (q, a)) (hhi : hiOf ρ len hi = some (q', b)) (h0 : 0 ≤ a) (h1 : a ≤ b) (h2 : b ≤ (len : Int)) (hc : len ≤ cap) :
    (Instr.sliceBounds isS len cap (lo.map ρ') (hi.map ρ') none).run P w = .ok (a.toNat, b.toNat, cap) w := by
  have hbb : ((b.toNat : Nat) : Int) = b := by omega
  cases lo with
  | none =>
    simp only [loOf, Option.some.injEq, Prod.mk.injEq] at hlo
    obtain ⟨_, rfl⟩ := hlo
    cases hi with
    | none =>
      simp only [hiOf, Option.some.injEq, Prod.mk.injEq] at hhi
      obtain ⟨_, rfl⟩ := hhi
      simp [Instr.sliceBounds, Sem.run_bind]
    | some y =>
      have hy := isInt_some (show isInt (ρ y) = some (q', b) from hhi) (hρ y)
      simp [Instr.sliceBounds, Sem.run_bind, hy, run_bound (w := w) (P := P) (q := q') (show 0 ≤ b by omega) (show b ≤ (cap : Int) by omega)]
  | some x =>
    have hx := isInt_some (show isInt (ρ x) = some (q, a) from hlo) (hρ x)
    cases hi with
    | none =>
      simp only [hiOf, Option.some.injEq, Prod.mk.injEq] at hhi
      obtain ⟨_, rfl⟩ := hhi
      simp [Instr.sliceBounds, Sem.run_bind, hx, run_bound (w := w) (P := P) (q := q) h0 h1]
    | some y =>
      have hy := isInt_some (show isInt (ρ y) = some (q', b) from hhi) (hρ y)
      simp [Instr.sliceBounds, Sem.run_bind, hx, hy, run_bound (w := w) (P := P) (q := q') (show 0 ≤ b by omega) (show b ≤ (cap : Int) by omega), run_bound (w := w) (P := P) (q := q) (y := b.toNat) h0 (by omega)]

theorem l_sliceStr (hG : GOk G) (hρ : OpsOk m ρ ρ') {t : TypeId} {x : Operand} {lo hi : Option Operand} (ho : o.op = .slice t x lo hi none) {s : ByteArray} {a b : Int} {q q' : IntKind} {ti : TI} (ht : lookT G.T t = some ti) (hu : ti.u = .string)
    (hx : ρ x = .c (.v (.string s))) (hlo : loOf ρ lo = some (q, a)) (hhi : hiOf ρ s.size hi = some (q', b)) (hb : decInt a b s.size = true) : LOk G.P m w ρ' o (.c (.v (.string (s.extract a.toNat b.toNat)))) := by
  have hxv := hρ x
  rw [hx] at hxv
  have hxe : ρ' x = .string s := hxv
  have hut := hG.c.t.u t ti ht
  rw [hu] at hut
  obtain ⟨h0, h1, h2⟩ := decInt_iff hb
  refine ⟨_, ?_, (rfl : CR m (.v (.string (s.extract a.toNat b.toNat))) (.string (s.extract a.toNat b.toNat)))⟩
  simp only [execOp, ho]
  refine exec_val ?_
  rw [hxe]
  simp only [Instr.sliceAt, Instr.slice, Sem.run_bind, Sem.run_pure, Result.andThen_ok, run_underlying' hut, Option.map_none, Option.isSome_none, Bool.false_eq_true, if_false]
  rw [run_bounds' hρ hlo hhi h0 h1 h2 (Nat.le_refl _)]
  simp

theorem l_slice (hG : GOk G) (hρ : OpsOk m ρ ρ') (H : HR B m h w) {t e : TypeId} {x : Operand} {lo hi : Option Operand} (ho : o.op = .slice t x lo hi none) {id i n : Nat} {a b : Int} {q q' : IntKind} {ti te : TI} {bb : ABlk} (ht : lookT G.T t = some ti) (hu : ti.u = .slice e)
    (hx : ρ x = .c (.sl id i n)) (hte : lookT G.T e = some te) (hbb : h.at id = some bb) (hsz : bb.c.sz = te.size) (hlo : loOf ρ lo = some (q, a)) (hhi : hiOf ρ n hi = some (q', b)) (hb : decInt a b n = true) :
    LOk G.P m w ρ' o (.c (.sl id (i + a.toNat) (b.toNat - a.toNat))) := by
  have hxv := hρ x
  rw [hx] at hxv
  obtain ⟨p, A', c', hp, hxe, ⟨hn, hnil⟩, hz, hpos⟩ := hxv
  obtain ⟨p', hp', hbr⟩ := H.at_ hbb
  have : p' = p := by rw [hp] at hp'; cases hp'; rfl
  subst this
  have hut := hG.c.t.u t ti ht
  rw [hu] at hut
  obtain ⟨inf, z, hi', hs, _, _, _⟩ := hG.c.t.i _ _ hte
  obtain ⟨h0, h1, h2⟩ := decInt_iff hb
  have hps : p'.sz = te.size := by rw [hbr.sz, hsz]
  refine ⟨.slice (if c' = a.toNat then A' else A'.map (·.add (a.toNat * te.size))) (b.toNat - a.toNat) (c' - a.toNat), ?_, ⟨p', _, _, hp, rfl, ⟨by omega, fun e => ?_⟩, ?_, ?_⟩⟩
  rotate_left
  · have h0' : A' = none := by
      split at e
      · exact e
      · simpa using e
    have := hnil h0'
    omega
  rotate_left 2
  · simp only [execOp, ho]
    refine exec_val ?_
    rw [hxe]
    simp only [Instr.sliceAt, Instr.slice, Sem.run_bind, Sem.run_pure, Result.andThen_ok, run_underlying' hut, Option.map_none]
    rw [run_bounds' hρ hlo hhi h0 h1 h2 hn]
    simp only [Result.andThen_ok, run_sizeOf' hi', Sem.run_bind, Sem.run_pure, hs]
  · intro hia
    have hi0 : i = 0 := by omega
    have ha0 : a.toNat = 0 := by omega
    obtain ⟨hA, hc⟩ := hz hi0
    rw [ha0]
    constructor
    · split
      · exact hA
      · rw [Nat.zero_mul, hA]
        cases p'.A with
        | none => rfl
        | some A => simp [Addr.add]
    · omega
  · intro hlt
    obtain ⟨A, hA, hsp, hA'⟩ := hpos (by omega)
    refine ⟨A, hA, hsp, ?_⟩
    rw [if_neg (by omega), hA', hps, Nat.add_mul]
    simp only [Option.map_some]
    rw [add_none rfl]
    simp [Nat.add_assoc]

theorem l_extract (hρ : OpsOk m ρ ρ') {x : Operand} {k : Nat} (ho : o.op = .extract x k) {l : List AV} (hx : ρ x = .tup l) (hk : l[k]? = some v) : LOk G.P m w ρ' o v := by
  have hxv := hρ x
  rw [hx] at hxv
  simp only [VR] at hxv
  obtain ⟨vs, hxe, hF⟩ := hxv
  obtain ⟨y, hy, hr⟩ := hF.get k v hk
  refine ⟨y, ?_, hr⟩
  simp only [execOp, ho]
  refine exec_val ?_
  rw [hxe]
  have : vs[k]? = some y := by simpa using hy
  simp [Instr.extract, this]

theorem l_len (hG : GOk G) (hρ : OpsOk m ρ ρ') {x : Operand} {t : TypeId} {args : Array Operand} {ts : Array TypeId} (ho : o.op = .call ⟨.builtin .len, args, ts⟩) (ha : args.toList = [x]) (hts : ts.toList = [t]) {ti : TI} (ht : lookT G.T t = some ti)
    (hc : (∃ e id i n, ti.u = .slice e ∧ ρ x = .c (.sl id i n) ∧ v = .c (.v (.int .i64 (n : Int)))) ∨ (∃ s : ByteArray, ti.u = .string ∧ ρ x = .c (.v (.string s)) ∧ v = .c (.v (.int .i64 (s.size : Int))))) : LOk G.P m w ρ' o v := by
  have hargs : args = #[x] := by apply Array.ext'; simpa using ha
  have htss : ts = #[t] := by apply Array.ext'; simpa using hts
  subst hargs; subst htss
  have hut := hG.c.t.u t ti ht
  rcases hc with ⟨e, id, i, n, hu, hx, rfl⟩ | ⟨s, hu, hx, rfl⟩
  · have hxv := hρ x
    rw [hx] at hxv
    obtain ⟨p, A', c', hp, hxe, _⟩ := hxv
    rw [hu] at hut
    refine ⟨_, ?_, (rfl : CR m (.v (.int .i64 (n : Int))) (.int .i64 (n : Int)))⟩
    simp only [execOp, ho, resolve, invoke, builtin, Sem.run_bind, Sem.run_pure, Result.andThen_ok, List.map_toArray, List.map_cons, List.map_nil, hxe]
    simp [Builtin.len_, Sem.run_bind, run_underlying' hut, goInt]
  · have hxv := hρ x
    rw [hx] at hxv
    have hxe : ρ' x = .string s := hxv
    rw [hu] at hut
    refine ⟨_, ?_, (rfl : CR m (.v (.int .i64 (s.size : Int))) (.int .i64 (s.size : Int)))⟩
    simp only [execOp, ho, resolve, invoke, builtin, Sem.run_bind, Sem.run_pure, Result.andThen_ok, List.map_toArray, List.map_cons, List.map_nil, hxe]
    simp [Builtin.len_, Sem.run_bind, run_underlying' hut, goInt]

theorem VR_int {k : IntKind} {n : Int} {y : Value} (hv : VR m (.c (.v (.int k n))) y) : y = .int k n := hv
theorem VR_str {s : ByteArray} {y : Value} (hv : VR m (.c (.v (.string s))) y) : y = .string s := hv

theorem eqGuard_int {P : Program} {op : BinOp} {t : TypeId} {x y : Operand} {k k' : IntKind} {a b : Int} : (eqGuard op t x y (.int k a) (.int k' b)).run P w = .ok () w := by
  unfold eqGuard
  split <;> simp
theorem eqGuard_str {P : Program} {op : BinOp} {t : TypeId} {x y : Operand} {a b : ByteArray} : (eqGuard op t x y (.string a) (.string b)).run P w = .ok () w := by
  unfold eqGuard
  split <;> simp

theorem l_bin {op : BinOp} {t t' : TypeId} {x y : Operand} (ho : o.op = .binOp op t x y t') {r : Value} (hg : (eqGuard op t x y (ρ' x) (ρ' y)).run G.P w = .ok () w) (hr : (binOp op t (ρ' x) (ρ' y)).run G.P w = .ok r w) (hv : VR m v r) : LOk G.P m w ρ' o v := by
  refine ⟨r, ?_, hv⟩
  simp only [execOp, ho]
  refine exec_val ?_
  simp [Sem.run_bind, hg, hr]

theorem l_arith (hρ : OpsOk m ρ ρ') {op : BinOp} {t t' : TypeId} {x y : Operand} (ho : o.op = .binOp op t x y t') {k k' : IntKind} {a b r : Int} (hx : ρ x = .c (.v (.int k a))) (hy : ρ y = .c (.v (.int k' b)))
    (hr : (binOp op t (.int k a) (.int k' b)).run G.P w = .ok (.int k r) w) : LOk G.P m w ρ' o (.c (.v (.int k r))) := by
  have h1 := hρ x
  have h2 := hρ y
  rw [hx] at h1
  rw [hy] at h2
  refine l_bin ho ?_ ?_ (rfl : CR m (.v (.int k r)) (.int k r))
  · rw [VR_int h1, VR_int h2]; exact eqGuard_int
  · rw [VR_int h1, VR_int h2]; exact hr

theorem run_rem {P : Program} {t : TypeId} {k : IntKind} {a b : Int} (hb : b ≠ 0) : (binOp .rem t (.int k a) (.int k b)).run P w = .ok (.int k (a.tmod b)) w := by
  simp [binOp, Op.intDiv, hb]
theorem run_quo {P : Program} {t : TypeId} {k : IntKind} {a b : Int} (hb : b ≠ 0) : (binOp .quo t (.int k a) (.int k b)).run P w = .ok (.int k (k.wrap (a.tdiv b))) w := by
  simp [binOp, Op.intDiv, hb]
theorem run_shl {P : Program} {t : TypeId} {k k' : IntKind} {a b : Int} (hb : 0 ≤ b) : (binOp .shl t (.int k a) (.int k' b)).run P w = .ok (.int k (k.wrap (a * 2 ^ (min b.toNat k.bits)))) w := by
  simp [binOp, Op.shift, show ¬ b < 0 by omega]
theorem run_shr {P : Program} {t : TypeId} {k k' : IntKind} {a b : Int} (hb : 0 ≤ b) : (binOp .shr t (.int k a) (.int k' b)).run P w = .ok (.int k (a.fdiv (2 ^ (min b.toNat k.bits)))) w := by
  simp [binOp, Op.shift, show ¬ b < 0 by omega]

theorem l_eqs (hG : GOk G) (hρ : OpsOk m ρ ρ') {op : BinOp} {t t' : TypeId} {x y : Operand} (ho : o.op = .binOp op t x y t') {l k : List AC} {r : Bool} (hx : ρ x = .agg l) (hy : ρ y = .agg k) (ht : G.eqs.contains (t, l.map kindAC) = true) (hr : ceqs l k = some r)
    (hop : (op = .eql ∧ v = .c (.v (.bool r))) ∨ (op = .neq ∧ v = .c (.v (.bool !r)))) : LOk G.P m w ρ' o v := by
  have h1 := hρ x
  have h2 := hρ y
  rw [hx] at h1
  rw [hy] at h2
  simp only [VR] at h1 h2
  obtain ⟨xs, hxe, hf1⟩ := h1
  obtain ⟨ys, hye, hf2⟩ := h2
  have htm : (t, l.map kindAC) ∈ G.eqs := by simpa using ht
  have he := hG.e.e t _ htm m l k xs ys r w rfl hr hf1 hf2
  rcases hop with ⟨rfl, rfl⟩ | ⟨rfl, rfl⟩
  · refine l_bin ho ?_ ?_ (rfl : CR m (.v (.bool r)) (.bool r))
    · rw [hxe, hye]; exact run_eqGuard_agg w _ _ _ _ _ _ (hG.e.g t _ htm)
    · rw [hxe, hye, run_eql_struct, he]; rfl
  · refine l_bin ho ?_ ?_ (rfl : CR m (.v (.bool !r)) (.bool !r))
    · rw [hxe, hye]; exact run_eqGuard_agg w _ _ _ _ _ _ (hG.e.g t _ htm)
    · rw [hxe, hye, run_neq_struct, he]; rfl
end
end Go.Proofs.Ytcpahifgdppkbaa.QAI
