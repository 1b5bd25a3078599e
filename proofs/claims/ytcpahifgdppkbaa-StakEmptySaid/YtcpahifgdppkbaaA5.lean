/- Structs built; all operations that turn nothing, in one theorem. -/
import Derived.Test.YtcpahifgdppkbaaA4
import Derived.Laws.BytesArg
import Derived.Laws.Tables
set_option linter.unusedVariables false
set_option linter.unusedSimpArgs false
namespace Go.Proofs.Ytcpahifgdppkbaa.QAI
open Go Go.RowKit

theorem fold_put (off : Nat) : ∀ (l : List Value) (k : Nat) (cs : Array Value), off + k + l.length ≤ cs.size →
    ((l.zipIdx k).foldl (fun cs (x : Value × Nat) => cs.setIfInBounds (off + x.2) x.1) cs).toList = cs.toList.take (off + k) ++ l ++ cs.toList.drop (off + k + l.length)
  | [], k, cs, _ => by simp
  | x :: l, k, cs, h => by
    simp only [List.zipIdx_cons, List.foldl_cons]
    have hlen : off + (k + 1) + l.length ≤ (cs.setIfInBounds (off + k) x).size := by simp at h ⊢; omega
    rw [fold_put off l (k + 1) (cs.setIfInBounds (off + k) x) hlen]
    have hlt : off + k < cs.toList.length := by simp at h ⊢; omega
    simp only [Array.toList_setIfInBounds, List.length_cons]
    rw [show off + (k + 1) + l.length = off + k + (l.length + 1) by omega, List.drop_set_of_lt (by omega), show off + (k + 1) = (off + k) + 1 by omega, List.take_succ_eq_append_getElem (by simpa using hlt),
      List.take_set_of_le (Nat.le_refl _), List.getElem_set_self]
    simp

theorem fill_put {off : Nat} {v : Value} {cs : Array Value} (h : off + v.cells.size ≤ cs.size) :
    (v.cells.zipIdx.foldl (fun cs (x : Value × Nat) => cs.setIfInBounds (off + x.2) x.1) cs).toList = cs.toList.take off ++ v.cells.toList ++ cs.toList.drop (off + v.cells.size) := by
  rw [← Array.foldl_toList, Array.toList_zipIdx]
  have := fold_put off v.cells.toList 0 cs (by simpa using h)
  simpa using this

section
variable {G : Ctx} {o : Oper} {ρ : Operand → AV} {ρ' : Operand → Value} {h : AHeap} {w : World} {B : Nat} {m : List Pl} {v : AV}

theorem acOk_one {c : AC} {y : Value} (h : acOk c = true) (hr : CR m c y) : oneV y = true := by
  cases c with
  | any => cases h
  | v x => simp only [CR] at hr; subst hr; exact h
  | ptr id i j => obtain ⟨_, _, _, _, _, rfl⟩ := hr; rfl
  | sl id i n => obtain ⟨_, _, _, _, rfl, _⟩ := hr; rfl
theorem oneV_cells {y : Value} (h : oneV y = true) : y.cells = #[y] := by
  cases y <;> simp_all [oneV, Value.cells]

theorem cellsOf_ok {a : AV} {l : List AC} {y : Value} (h : cellsOf a = some l) (hv : VR m a y) : F2 (CR m) l y.cells.toList ∧ ∀ x ∈ y.cells.toList, oneV x = true := by
  cases a with
  | c x =>
    simp only [cellsOf] at h
    split at h
    · rename_i ha
      simp only [Option.some.injEq] at h
      subst h
      have hr : CR m x y := by simpa [VR] using hv
      have h1 := acOk_one ha hr
      rw [oneV_cells h1]
      exact ⟨.cons hr .nil, by simpa using h1⟩
    · cases h
  | agg l' =>
    simp only [cellsOf] at h
    split at h
    · rename_i ha
      simp only [Option.some.injEq] at h
      subst h
      simp only [VR] at hv
      obtain ⟨cs, rfl, hF⟩ := hv
      refine ⟨hF, ?_⟩
      show ∀ x ∈ cs.toList, oneV x = true
      have ha' := List.all_eq_true.1 ha
      clear ha
      generalize cs.toList = k at hF
      induction hF with
      | nil => intro x hx; cases hx
      | cons hr _ ih =>
        intro x hx
        cases hx with
        | head => exact acOk_one (ha' _ (by simp)) hr
        | tail _ hx => exact ih (fun y hy => ha' y (by simp [hy])) x hx
    · cases h
  | arr n f => simp [cellsOf] at h
  | tup l => simp [cellsOf] at h

/-- The fields' types are told, too. -/
def FOk (G : Ctx) : Prop := ∀ t ti fs, lookT G.T t = some ti → ti.u = .struct fs → ∀ f ∈ fs.toList, (lookT G.T f.type).isSome

theorem fills_ok {T : List TI} {P : Program} (hT : TOk P T) (hρ : OpsOk m ρ ρ') {fs : List Field} {places : List (Nat × Nat)} (hpl : ∀ (k : Nat) f, fs[k]? = some f → ∀ ti, lookT T f.type = some ti → places[k]? = some (f.offset, ti.size)) :
    ∀ (ps : List (Nat × Operand)) (l : List (Nat × List AC)) (z r : List AC) (zc : Array Value), partsAt T fs (ps.map fun p => (p.1, ρ p.2)) = some l → fills z l = some r → F2 (CR m) z zc.toList →
      ∃ cells, Instr.fill (places.toArray[·]?) zc (ps.map fun p => (p.1, ρ' p.2)) = some cells ∧ F2 (CR m) r cells.toList
  | [], l, z, r, zc, hp, hf, hz => by
    simp only [List.map_nil, partsAt, Option.some.injEq] at hp
    subst hp
    simp only [fills, Option.some.injEq] at hf
    subst hf
    exact ⟨zc, rfl, hz⟩
  | (k, x) :: ps, l, z, r, zc, hp, hf, hz => by
    simp only [List.map_cons, partsAt] at hp
    split at hp
    · rename_i f lx r' hfk hcx hpr
      split at hp
      · rename_i ti hti
        split at hp
        · rename_i hlen
          simp only [Option.some.injEq] at hp
          subst hp
          simp only [fills] at hf
          split at hf
          · rename_i hle
            obtain ⟨hF, _⟩ := cellsOf_ok hcx (hρ x)
            have hl1 := hF.length
            have hl2 := hz.length
            have hle' : f.offset + (ρ' x).cells.size ≤ zc.size := by
              have : (ρ' x).cells.size = lx.length := by rw [hl1]; simp
              have : zc.size = z.length := by rw [hl2]; simp
              omega
            have hput := fill_put (off := f.offset) (v := ρ' x) (cs := zc) hle'
            have hsz : (ρ' x).cells.size = lx.length := by rw [hl1]; simp
            obtain ⟨cells, hc1, hc2⟩ := fills_ok hT hρ hpl ps r' _ r ((ρ' x).cells.zipIdx.foldl (fun cs (x : Value × Nat) => cs.setIfInBounds (f.offset + x.2) x.1) zc) hpr hf (by
              rw [hput, hsz]
              exact ((hz.take _).append hF).append (hz.drop _))
            refine ⟨cells, ?_, hc2⟩
            have hplk := hpl k f hfk ti hti
            have hplk' : (places.toArray)[k]? = some (f.offset, ti.size) := by simpa using hplk
            simp only [List.map_cons, Instr.fill, hplk']
            rw [if_neg (by simp; omega)]
            exact hc1
          · cases hf
        · cases hp
      · cases hp
    · cases hp

theorem l_build (hG : GOk G) (hF : FOk G) (hρ : OpsOk m ρ ρ') {t : TypeId} {ps : Array (Nat × Operand)} (ho : o.op = .build t ps) {ti : TI} {fs : Array Field} (ht : lookT G.T t = some ti) (hu : ti.u = .struct fs) {l : List (Nat × List AC)} {r : List AC}
    (hp : partsAt G.T fs.toList (ps.toList.map fun p => (p.1, ρ p.2)) = some l) (hr : fills (ofCells ti.zero) l = some r) : LOk G.P m w ρ' o (.agg r) := by
  have hut := hG.c.t.u t ti ht
  rw [hu] at hut
  obtain ⟨inf, z, hi, hs, hby, hz, hzc⟩ := hG.c.t.i _ _ ht
  have hpl : ∀ gs : List Field, (∀ f ∈ gs, (lookT G.T f.type).isSome) → ∃ places, gs.mapM (fun f => (G.P.info? f.type).map fun i => (f.offset, i.size)) = some places ∧
      ∀ (k : Nat) f, gs[k]? = some f → ∀ ti, lookT G.T f.type = some ti → places[k]? = some (f.offset, ti.size) := by
    intro gs
    induction gs with
    | nil => intro _; exact ⟨[], by simp, fun k f hk => by simp at hk⟩
    | cons g gs ih =>
      intro hg
      obtain ⟨tg, htg⟩ := Option.isSome_iff_exists.1 (hg g (by simp))
      obtain ⟨ig, zg, hig, hsg, _, _, _⟩ := hG.c.t.i _ _ htg
      obtain ⟨places, h1, h2⟩ := ih fun f hf => hg f (by simp [hf])
      refine ⟨(g.offset, ig.size) :: places, by simp [List.mapM_cons, hig, h1], ?_⟩
      intro k f hk tf htf
      cases k with
      | zero =>
        simp only [List.getElem?_cons_zero, Option.some.injEq] at hk
        subst hk
        rw [htg] at htf
        cases htf
        simp [hsg]
      | succ k => simpa using h2 k f (by simpa using hk) tf htf
  obtain ⟨places, h1, h2⟩ := hpl fs.toList (hF t ti fs ht hu)
  obtain ⟨cells, hc1, hc2⟩ := fills_ok hG.c.t hρ h2 ps.toList l (ofCells ti.zero) r z.cells hp hr (by rw [hzc]; exact F2_ofCells _ _)
  refine ⟨.agg cells, ?_, ⟨cells, rfl, hc2⟩⟩
  simp only [execOp, ho]
  refine exec_val (run_build w t _ cells ?_)
  unfold Program.built
  rw [hi, hut]
  simp only [hz, h1]
  rw [← hc1]
  congr 1
  simp

/-- All of them. -/
theorem valss_some' : ∀ {l : List (List AC)} {k : List (List Value)}, valss l = some k → l = k.map ofCells
  | [], k, h => by simp [valss] at h; subst h; rfl
  | a :: l, k, h => by
    simp only [valss] at h
    split at h
    · rename_i x r hx hr
      simp only [Option.some.injEq] at h
      subst h
      rw [List.map_cons, ← valss_some' hr]
      congr 1
      clear hr
      induction a generalizing x with
      | nil => simp [valsOf] at hx; subst hx; rfl
      | cons c a ih =>
        simp only [valsOf] at hx
        split at hx
        · rename_i y ys hy hys
          simp only [Option.some.injEq] at hx
          subst hx
          have : c = .v y := by
            cases c <;> simp [valOf] at hy
            rw [hy]
          rw [this]
          show _ = AC.v y :: ofCells ys
          rw [← ih _ hys]
        · cases hx
    · cases h
theorem valRow_el {c : Cont} {n : Nat} {f : Nat → List Value} (h : valRow c = some (n, f)) : c.n = n ∧ c.sz = 1 ∧ ∀ q, q < n → c.el q = ofCells (f q) := by
  unfold valRow at h
  split at h
  · simp only [Option.some.injEq, Prod.mk.injEq] at h
    obtain ⟨rfl, rfl⟩ := h
    exact ⟨rfl, rfl, fun _ _ => rfl⟩
  · rename_i l z
    simp only [Option.map_eq_some_iff, Prod.mk.injEq] at h
    obtain ⟨vs, hv, rfl, rfl⟩ := h
    have := valss_some' hv
    subst this
    refine ⟨rfl, rfl, fun q hq => ?_⟩
    rw [List.length_map] at hq
    simp [Cont.el, List.getD_eq_getElem?_getD, hq]
  · cases h
theorem l_convert (hG : GOk G) (hρ : OpsOk m ρ ρ') (H : HR B m h w) {s d e : TypeId} {x : Operand} (ho : o.op = .convert s d x) {id i n mm : Nat} {f : Nat → List Value} {ts td te : TI} (hx : ρ x = .c (.sl id i n)) (hts : lookT G.T s = some ts) (hus : ts.u = .slice e)
    (htd : lookT G.T d = some td) (hud : td.u = .string) (hte : lookT G.T e = some te) (hue : te.u = .int .u8) (hf : ((h.at id).bind fun b => valRow b.c) = some (mm, f)) (hle : i + n ≤ mm) (hall : allB n (fun k => isU8 (f (i + k))) = true) :
    LOk G.P m w ρ' o (.c (.v (.string (bytesOf f i n)))) := by
  have hxv := hρ x
  rw [hx] at hxv
  obtain ⟨p, A', c', hp, hxe, _, hz, hpos⟩ := hxv
  have us := hG.c.t.u s ts hts
  rw [hus] at us
  have ud := hG.c.t.u d td htd
  rw [hud] at ud
  have ue := hG.c.t.u e te hte
  rw [hue] at ue
  refine ⟨.string (bytesOf f i n), ?_, rfl⟩
  simp only [execOp, ho]
  refine exec_val ?_
  rw [hxe]
  obtain ⟨b, hb, hv⟩ := Option.bind_eq_some_iff.1 hf
  obtain ⟨hn, hsz, hel⟩ := valRow_el hv
  obtain ⟨p', hp', hbr⟩ := H.at_ hb
  have : p' = p := by rw [hp] at hp'; cases hp'; rfl
  subst this
  have hu8 : ∀ k, k < n → ∃ a : Int, f (i + k) = [.int .u8 a] := by
    intro k hk
    have := List.all_eq_true.1 hall k (List.mem_range.2 hk)
    unfold isU8 at this
    split at this
    · rename_i a e; exact ⟨a, e⟩
    · cases this
  rcases Nat.eq_zero_or_pos n with h0 | h0
  · subst h0
    have hbz : bytesOf f i 0 = ByteArray.empty := rfl
    rw [hbz]
    cases A' with
    | none => exact run_convert_bytes_nil w s e us ue 0 c' d ud
    | some a =>
      rw [run_convert_bytes_string w s d e _ 0 c' us ue ud, run_bytesToString w a 0 c' [] (by simp [loadCells, loadCellsFrom])]
      rfl
  · obtain ⟨A, hA, hsp, hA'⟩ := hpos h0
    rw [hA']
    have hps : p'.sz = 1 := by rw [hbr.sz, hsz]
    have hcell : ∀ k, k < n → w.cell? ⟨A.block, A.off + i * p'.sz + k, none⟩ = some (.int .u8 (((List.range n).map fun k => match f (i + k) with | [.int _ a] => a | _ => 0).getD k 0)) := by
      intro k hk
      obtain ⟨a, ha⟩ := hu8 k hk
      obtain ⟨A2, y, hA2, _, hy, hcr, _⟩ := hbr.cell (i + k) 0 (.v (.int .u8 a)) (by omega) (by rw [hel _ (by omega), ha]; rfl)
      have : A2 = A := by rw [hA] at hA2; cases hA2; rfl
      subst this
      have hye : y = .int .u8 a := hcr
      subst hye
      have : ((List.range n).map fun k => match f (i + k) with | [.int _ a] => a | _ => 0).getD k 0 = a := by simp [List.getD_eq_getElem?_getD, hk, ha]
      rw [this, ← hy, hps]
      congr 2
      omega
    rw [run_convert_bytes_arg w s e us ue _ _ n c' _ (by simp) hcell d ud]
    have hstr : strOfNums ((List.range n).map fun k => match f (i + k) with | [.int _ a] => a | _ => 0) = bytesOf f i n := by
      unfold strOfNums bytesOf
      congr 1
      apply congrArg
      rw [List.map_map]
      apply List.map_congr_left
      intro k hk
      obtain ⟨a, ha⟩ := hu8 k (List.mem_range.1 hk)
      simp [ha, u8Of]
    rw [hstr]

theorem light_ok (hG : GOk G) (hF : FOk G) (hρ : OpsOk m ρ ρ') (H : HR B m h w) (he : (alight G o ρ h).eval = some v) : LOk G.P m w ρ' o v := by
  unfold alight at he
  split at he
  · rename_i x ho
    exact l_move hρ (.inl ho) (by simpa [Tr.eval] using he.symm)
  · rename_i x ho
    exact l_move hρ (.inr ho) (by simpa [Tr.eval] using he.symm)
  · -- pick
    rename_i c a b ho
    split at he
    · rename_i t hc
      have hcv := hρ c
      rw [hc] at hcv
      have hcv' : ρ' c = .bool t := hcv
      rw [Tr.eval_ite] at he
      cases t with
      | true =>
        simp only [if_true, Tr.eval, Option.some.injEq] at he
        subst he
        exact ⟨ρ' a, by simp [execOp, ho, hcv', asBool, Sem.run_bind], hρ a⟩
      | false =>
        simp only [Bool.false_eq_true, if_false, Tr.eval, Option.some.injEq] at he
        subst he
        exact ⟨ρ' b, by simp [execOp, ho, hcv', asBool, Sem.run_bind], hρ b⟩
    · cases he
  · rename_i t a ho
    exact l_load hG hρ H ho he
  · -- nilCheck
    rename_i x ho
    split at he
    · rename_i id i j hx
      simp only [Tr.eval, Option.some.injEq] at he
      subst he
      have hxv := hρ x
      rw [hx] at hxv
      obtain ⟨p, A, hp, hA, hsp, hxe⟩ := hxv
      exact ⟨_, by simp [execOp, ho, hxe], ⟨p, A, hp, hA, hsp, rfl⟩⟩
    · exact apure_ok (by simp [ho]) hρ he
  · -- fieldAddr
    rename_i s x k ho
    split at he
    · rename_i id i j f hx hf
      split at he
      · rename_i ti hti
        simp only [Tr.eval, Option.some.injEq] at he
        subst he
        exact l_fieldAddr hG hρ ho hx hf hti
      · cases he
    · cases he
  · -- field
    rename_i t x k ho
    split at he
    · rename_i l f hx hf
      split at he
      · rename_i ti hti
        rw [Tr.eval_opt] at he
        exact l_field hG hρ ho hx hf hti he
      · cases he
    · cases he
  · -- indexAddr
    rename_i t x ix ho
    split at he
    · rename_i e _ _ _ _ _ _ id i n q k ht hx hk
      split at he
      · rename_i te b hte hb
        split at he
        · rename_i hsz
          obtain ⟨h0, h1, hv⟩ := need2 he
          simp only [Tr.eval, Option.some.injEq] at hv
          subst hv
          exact l_indexAddr hG hρ H ho ht rfl hx hk hte hb hsz (by simpa using h0) (by simpa using h1)
        · cases he
      · cases he
    · rename_i len e _ _ _ _ _ _ id i j q k ht hx hk
      split at he
      · rename_i te b hte hb
        obtain ⟨h0, h1, hv⟩ := need2 he
        have h0' : 0 ≤ k := by simpa using h0
        have h1' : k < (len : Int) := by simpa using h1
        have key := l_indexArr (w := w) (m := m) hG hρ ho ht rfl hx hk hte h0' h1'
        split at hv
        · rename_i sz nn ff hbc
          split at hv
          · rename_i hc
            obtain ⟨hsz, hi, hj⟩ := hc
            simp only [Tr.eval, Option.some.injEq] at hv
            subst hv
            obtain ⟨y, hy, hr⟩ := key
            refine ⟨y, hy, ?_⟩
            subst hi; subst hj
            obtain ⟨p, A, hp, hA, hsp, rfl⟩ := hr
            obtain ⟨p', hp', hbr⟩ := H.at_ hb
            have : p' = p := by rw [hp] at hp'; cases hp'; rfl
            subst this
            have hps : p'.sz = te.size := by rw [hbr.sz, hbc, ← hsz]; rfl
            refine ⟨p', A, hp, hA, hsp, ?_⟩
            rw [hps]
            simp
          · cases hv
        · simp only [Tr.eval, Option.some.injEq] at hv
          subst hv
          exact key
        · cases hv
      · cases he
    · cases he
  · -- index
    rename_i t x ix ho
    split at he
    · rename_i s q k ht hx hk
      obtain ⟨h0, h1, hv⟩ := need2 he
      simp only [Tr.eval, Option.some.injEq] at hv
      subst hv
      exact l_indexStr hG hρ ho ht rfl hx hk (by simpa using h0) (by simpa using h1)
    · rename_i len e _ _ _ _ _ _ n f q k ht hx hk
      split at he
      · rename_i te hte
        split at he
        · rename_i hc
          obtain ⟨hs1, hag, hn⟩ := hc
          obtain ⟨h0, h1, hv⟩ := need2 he
          simp only [Tr.eval, Option.some.injEq] at hv
          subst hv
          exact l_indexArrV hG hρ ho ht rfl hx hk hte hs1 hag hn (by simpa using h0) (by simpa using h1)
        · cases he
      · cases he
    · cases he
  · -- slice
    rename_i t x lo hi mx ho
    split at he
    · rename_i s ht hx
      split at he
      · rename_i q a q' b hlo hhi
        obtain ⟨hb, hv⟩ := Tr.eval_need.1 he
        simp only [Tr.eval, Option.some.injEq] at hv
        subst hv
        exact l_sliceStr hG hρ ho ht rfl hx (q := q) (q' := q') hlo hhi hb
      · cases he
    · rename_i e _ _ _ _ _ _ id i n ht hx
      split at he
      · rename_i te bb hte hbb
        split at he
        · rename_i hsz
          split at he
          · rename_i q a q' b hlo hhi
            obtain ⟨hb, hv⟩ := Tr.eval_need.1 he
            simp only [Tr.eval, Option.some.injEq] at hv
            subst hv
            exact l_slice hG hρ H ho ht rfl hx hte hbb hsz (q := q) (q' := q') hlo hhi hb
          · cases he
        · cases he
      · cases he
    · cases he
  · -- extract
    rename_i x k ho
    split at he
    · rename_i l hx
      rw [Tr.eval_opt] at he
      exact l_extract hρ ho hx he
    · cases he
  · -- build
    rename_i t ps ho
    split at he
    · rename_i fs _ _ zero _ _ sh ht
      split at he
      · rename_i hp
        split at he
        · rename_i n s0
          cases he
          have hf : fills (ofCells zero) [] = some (ofCells zero) := rfl
          obtain ⟨x, h1, cs, rfl, hF2⟩ := l_build hG hF hρ ho ht rfl hp hf
          obtain ⟨_, _, _, hz, _⟩ := hG.c.t.shape t _ n s0 ht rfl
          have hlist : cs.toList = zero := by
            have : ∀ (l : List Value) (k : List Value), F2 (CR m) (ofCells l) k → k = l := by
              intro l
              induction l with
              | nil => intro k h; cases k with
                | nil => rfl
                | cons a k => cases h
              | cons a l ih => intro k h; cases h with
                | cons h1 h2 => rw [ih _ h2, (show _ = a from h1)]
            exact this _ _ hF2
          refine ⟨_, h1, ?_, fun k hk => ?_⟩
          · have hz' : zero = List.replicate n (zero.headD undef) := hz
            have e : (List.range n).map (fun _ => zero.headD undef) = zero := by
              rw [hz']
              simp [List.map_const']
              cases n <;> simp [List.replicate_succ]
            rw [e, ← hlist]
          · have hz' : zero = List.replicate n (zero.headD undef) := hz
            refine hG.c.t.zone t _ ht _ ?_
            show zero.headD undef ∈ zero
            have hm : zero.headD undef ∈ List.replicate n (zero.headD undef) := List.mem_replicate.2 ⟨by omega, rfl⟩
            rw [← hz'] at hm
            exact hm
        · rw [Tr.eval_opt] at he
          cases hf : fills (ofCells zero) [] with
          | none => simp [hf] at he
          | some r =>
            rw [hf] at he
            simp only [Option.map_some, Option.some.injEq] at he
            subst he
            exact l_build hG hF hρ ho ht rfl hp hf
      · rename_i l _ hp
        rw [Tr.eval_opt] at he
        cases hf : fills (ofCells zero) l with
        | none => simp [hf] at he
        | some r =>
          rw [hf] at he
          simp only [Option.map_some, Option.some.injEq] at he
          subst he
          exact l_build hG hF hρ ho ht rfl hp hf
      · cases he
    · cases he
  · -- binOp
    rename_i op t x y t' ho
    have hsel : ∀ cs b, o.op ≠ .select cs b := by simp [ho]
    split at he
    · rename_i a b hx hy
      split at he
      · rename_i hc
        rw [Tr.eval_opt] at he
        cases hq : ceqs a b with
        | none => simp [hq] at he
        | some r =>
          rw [hq] at he
          simp only [Option.map_some, Option.some.injEq] at he
          exact l_eqs hG hρ ho hx hy hc hq (.inl ⟨rfl, he.symm⟩)
      · cases he
    · rename_i a b hx hy
      split at he
      · rename_i hc
        rw [Tr.eval_opt] at he
        cases hq : ceqs a b with
        | none => simp [hq] at he
        | some r =>
          rw [hq] at he
          simp only [Option.map_some, Option.some.injEq] at he
          exact l_eqs hG hρ ho hx hy hc hq (.inr ⟨rfl, he.symm⟩)
      · cases he
    · rename_i k a k' b hx hy
      split at he
      · rename_i hk
        subst hk
        obtain ⟨hb, hv⟩ := Tr.eval_need.1 he
        simp only [Tr.eval, Option.some.injEq] at hv
        subst hv
        exact l_arith hρ ho hx hy (run_rem (by simpa using hb))
      · cases he
    · rename_i k a k' b hx hy
      split at he
      · rename_i hk
        subst hk
        obtain ⟨hb, hv⟩ := Tr.eval_need.1 he
        simp only [Tr.eval, Option.some.injEq] at hv
        subst hv
        exact l_arith hρ ho hx hy (run_quo (by simpa using hb))
      · cases he
    · rename_i k a k' b hx hy
      obtain ⟨hb, hv⟩ := Tr.eval_need.1 he
      simp only [Tr.eval, Option.some.injEq] at hv
      subst hv
      exact l_arith hρ ho hx hy (run_shl (by simpa using hb))
    · rename_i k a k' b hx hy
      obtain ⟨hb, hv⟩ := Tr.eval_need.1 he
      simp only [Tr.eval, Option.some.injEq] at hv
      subst hv
      exact l_arith hρ ho hx hy (run_shr (by simpa using hb))
    · rename_i a b hx hy
      obtain ⟨hb, hv⟩ := Tr.eval_need.1 he
      simp only [Tr.eval, Option.some.injEq] at hv
      subst hv
      have h1 := hρ x
      have h2 := hρ y
      rw [hx] at h1
      rw [hy] at h2
      have hb' : ((a.size + b.size : Nat) : Int) ≤ IntKind.i64.max := by simpa using hb
      refine l_bin ho ?_ ?_ (rfl : CR m (.v (.string (a ++ b))) (.string (a ++ b)))
      · rw [VR_str h1, VR_str h2]; exact eqGuard_str
      · rw [VR_str h1, VR_str h2]
        simp only [binOp, Op.stringOp]
        rw [if_neg (by omega)]
        simp
    · exact apure_ok hsel hρ he
  · -- len
    rename_i args ts ho
    have hsel : ∀ cs b, o.op ≠ .select cs b := by simp [ho]
    split at he
    · rename_i x t ha hts
      split at he
      · rename_i id i n _ e _ _ _ _ _ _ hx ht
        simp only [Tr.eval, Option.some.injEq] at he
        exact l_len hG hρ ho ha hts ht (.inl ⟨e, id, i, n, rfl, hx, he.symm⟩)
      · rename_i s _ _ _ _ _ _ _ hx ht
        simp only [Tr.eval, Option.some.injEq] at he
        exact l_len hG hρ ho ha hts ht (.inr ⟨s, rfl, hx, he.symm⟩)
      · exact apure_ok hsel hρ he
    · cases he
  · -- a text of bytes
    rename_i ss d x ho
    split at he
    · rename_i id i n hx
      split at he
      · rename_i e _ _ _ _ _ _ _ _ _ _ _ _ _ hts htd
        split at he
        · rename_i mm f hte hf
          obtain ⟨h1, h2, hv⟩ := need2 he
          simp only [Tr.eval, Option.some.injEq] at hv
          subst hv
          exact l_convert hG hρ H ho hx hts rfl htd rfl hte rfl hf (by simpa using h1) h2
        · cases he
      · cases he
    · exact apure_ok (by simp [ho]) hρ he
  · rename_i ho; exact apure_ok (by simp [ho]) hρ he
  · rename_i ho; exact apure_ok (by simp [ho]) hρ he
  · rename_i ho; exact apure_ok (by simp [ho]) hρ he
  · rename_i ho; exact apure_ok (by simp [ho]) hρ he
  · cases he
end
end Go.Proofs.Ytcpahifgdppkbaa.QAI
