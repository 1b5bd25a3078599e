/- Structs built; all operations that turn nothing, in one theorem. -/
import Derived.Test.YtcpahifgdppkbaaQWireBack0
import Derived.Laws.BytesArg
import Derived.Laws.Tables
import Derived.Laws.MakeOwn
set_option linter.unusedVariables false
set_option linter.unusedSimpArgs false
set_option maxRecDepth 100000
namespace Go.Proofs.Ytcpahifgdppkbaa.QAI
section
open Go Go.RowKit

theorem fold_put (off : Nat) : ∀ (l : List Value) (k : Nat) (cs : Array Value), off + k + l.length ≤ cs.size →
    ((l.zipIdx k).foldl (fun cs (x : Value × Nat) => cs.setIfInBounds (off + x.2) x.1) cs).toList = cs.toList.take (off + k) ++ l ++ cs.toList.drop (off + k + l.length)
  | [], k, cs, _ => by simp
  | x :: l, k, cs, h => by
    simp only [List.zipIdx_cons, List.foldl_cons]
    have hlen : off + (k + 1) + l.length ≤ (cs.setIfInBounds (off + k) x).size := by simp at h ⊢; omega
    rw [fold_put off l (k + 1) (cs.setIfInBounds (off + k) x) hlen]
    have hlt : off + k < cs.toList.length := by simp at h ⊢; omega
    simp only [Array.toList_setIfInBounds, List.length_cons]
    rw [show off + (k + 1) + l.length = off + k + (l.length + 1) by omega, List.drop_set_of_lt (by omega), show off + (k + 1) = (off + k) + 1 by omega, List.take_succ_eq_append_getElem (by simpa using hlt),
      List.take_set_of_le (Nat.le_refl _), List.getElem_set_self]
    simp

theorem fill_put {off : Nat} {v : Value} {cs : Array Value} (h : off + v.cells.size ≤ cs.size) :
    (v.cells.zipIdx.foldl (fun cs (x : Value × Nat) => cs.setIfInBounds (off + x.2) x.1) cs).toList = cs.toList.take off ++ v.cells.toList ++ cs.toList.drop (off + v.cells.size) := by
  rw [← Array.foldl_toList, Array.toList_zipIdx]
  have := fold_put off v.cells.toList 0 cs (by simpa using h)
  simpa using this

section
variable {G : Ctx} {o : Oper} {ρ : Operand → AV} {ρ' : Operand → Value} {h : AHeap} {w : World} {B : Nat} {m : List Pl} {v : AV}

theorem acOk_one {c : AC} {y : Value} (h : acOk c = true) (hr : CR m c y) : oneV y = true := by
  cases c with
  | any => cases h
  | v x => simp only [CR] at hr; subst hr; exact h
  | ptr id i j => obtain ⟨_, _, _, _, _, rfl⟩ := hr; rfl
  | sl id i n => obtain ⟨_, _, _, _, rfl, _⟩ := hr; rfl
theorem oneV_cells {y : Value} (h : oneV y = true) : y.cells = #[y] := by
  cases y <;> simp_all [oneV, Value.cells]

theorem cellsOf_ok {a : AV} {l : List AC} {y : Value} (h : cellsOf a = some l) (hv : VR m a y) : F2 (CR m) l y.cells.toList ∧ ∀ x ∈ y.cells.toList, oneV x = true := by
  cases a with
  | c x =>
    simp only [cellsOf] at h
    split at h
    · rename_i ha
      simp only [Option.some.injEq] at h
      subst h
      have hr : CR m x y := by simpa [VR] using hv
      have h1 := acOk_one ha hr
      rw [oneV_cells h1]
      exact ⟨.cons hr .nil, by simpa using h1⟩
    · cases h
  | agg l' =>
    simp only [cellsOf] at h
    split at h
    · rename_i ha
      simp only [Option.some.injEq] at h
      subst h
      simp only [VR] at hv
      obtain ⟨cs, rfl, hF⟩ := hv
      refine ⟨hF, ?_⟩
      show ∀ x ∈ cs.toList, oneV x = true
      have ha' := List.all_eq_true.1 ha
      clear ha
      generalize cs.toList = k at hF
      induction hF with
      | nil => intro x hx; cases hx
      | cons hr _ ih =>
        intro x hx
        cases hx with
        | head => exact acOk_one (ha' _ (by simp)) hr
        | tail _ hx => exact ih (fun y hy => ha' y (by simp [hy])) x hx
    · cases h
  | arr n f => simp [cellsOf] at h
  | tup l => simp [cellsOf] at h

/-- The fields' types are told, too. -/
def FOk (G : Ctx) : Prop := ∀ t ti fs, lookT G.T t = some ti → ti.u = .struct fs → ∀ f ∈ fs.toList, (lookT G.T f.type).isSome

theorem fills_ok {T : List TI} {P : Program} (hT : TOk P T) (hρ : OpsOk m ρ ρ') {fs : List Field} {places : List (Nat × Nat)} (hpl : ∀ (k : Nat) f, fs[k]? = some f → ∀ ti, lookT T f.type = some ti → places[k]? = some (f.offset, ti.size)) :
    ∀ (ps : List (Nat × Operand)) (l : List (Nat × List AC)) (z r : List AC) (zc : Array Value), partsAt T fs (ps.map fun p => (p.1, ρ p.2)) = some l → fills z l = some r → F2 (CR m) z zc.toList →
      ∃ cells, Instr.fill (places.toArray[·]?) zc (ps.map fun p => (p.1, ρ' p.2)) = some cells ∧ F2 (CR m) r cells.toList
  | [], l, z, r, zc, hp, hf, hz => by
    simp only [List.map_nil, partsAt, Option.some.injEq] at hp
    subst hp
    simp only [fills, Option.some.injEq] at hf
    subst hf
    exact ⟨zc, rfl, hz⟩
  | (k, x) :: ps, l, z, r, zc, hp, hf, hz => by
    simp only [List.map_cons, partsAt] at hp
    split at hp
    · rename_i f lx r' hfk hcx hpr
      split at hp
      · rename_i ti hti
        split at hp
        · rename_i hlen
          simp only [Option.some.injEq] at hp
          subst hp
          simp only [fills] at hf
          split at hf
          · rename_i hle
            obtain ⟨hF, _⟩ := cellsOf_ok hcx (hρ x)
            have hl1 := hF.length
            have hl2 := hz.length
            have hle' : f.offset + (ρ' x).cells.size ≤ zc.size := by
              have : (ρ' x).cells.size = lx.length := by rw [hl1]; simp
              have : zc.size = z.length := by rw [hl2]; simp
              omega
            have hput := fill_put (off := f.offset) (v := ρ' x) (cs := zc) hle'
            have hsz : (ρ' x).cells.size = lx.length := by rw [hl1]; simp
            obtain ⟨cells, hc1, hc2⟩ := fills_ok hT hρ hpl ps r' _ r ((ρ' x).cells.zipIdx.foldl (fun cs (x : Value × Nat) => cs.setIfInBounds (f.offset + x.2) x.1) zc) hpr hf (by
              rw [hput, hsz]
              exact ((hz.take _).append hF).append (hz.drop _))
            refine ⟨cells, ?_, hc2⟩
            have hplk := hpl k f hfk ti hti
            have hplk' : (places.toArray)[k]? = some (f.offset, ti.size) := by simpa using hplk
            simp only [List.map_cons, Instr.fill, hplk']
            rw [if_neg (by simp; omega)]
            exact hc1
          · cases hf
        · cases hp
      · cases hp
    · cases hp

theorem l_build (hG : GOk G) (hF : FOk G) (hρ : OpsOk m ρ ρ') {t : TypeId} {ps : Array (Nat × Operand)} (ho : o.op = .build t ps) {ti : TI} {fs : Array Field} (ht : lookT G.T t = some ti) (hu : ti.u = .struct fs) {l : List (Nat × List AC)} {r : List AC}
    (hp : partsAt G.T fs.toList (ps.toList.map fun p => (p.1, ρ p.2)) = some l) (hr : fills (ofCells ti.zero) l = some r) : LOk G.P m w ρ' o (.agg r) := by
  have hut := hG.c.t.u t ti ht
  rw [hu] at hut
  obtain ⟨inf, z, hi, hs, hby, hz, hzc⟩ := hG.c.t.i _ _ ht
  have hpl : ∀ gs : List Field, (∀ f ∈ gs, (lookT G.T f.type).isSome) → ∃ places, gs.mapM (fun f => (G.P.info? f.type).map fun i => (f.offset, i.size)) = some places ∧
      ∀ (k : Nat) f, gs[k]? = some f → ∀ ti, lookT G.T f.type = some ti → places[k]? = some (f.offset, ti.size) := by
    intro gs
    induction gs with
    | nil => intro _; exact ⟨[], by simp, fun k f hk => by simp at hk⟩
    | cons g gs ih =>
      intro hg
      obtain ⟨tg, htg⟩ := Option.isSome_iff_exists.1 (hg g (by simp))
      obtain ⟨ig, zg, hig, hsg, _, _, _⟩ := hG.c.t.i _ _ htg
      obtain ⟨places, h1, h2⟩ := ih fun f hf => hg f (by simp [hf])
      refine ⟨(g.offset, ig.size) :: places, by simp [List.mapM_cons, hig, h1], ?_⟩
      intro k f hk tf htf
      cases k with
      | zero =>
        simp only [List.getElem?_cons_zero, Option.some.injEq] at hk
        subst hk
        rw [htg] at htf
        cases htf
        simp [hsg]
      | succ k => simpa using h2 k f (by simpa using hk) tf htf
  obtain ⟨places, h1, h2⟩ := hpl fs.toList (hF t ti fs ht hu)
  obtain ⟨cells, hc1, hc2⟩ := fills_ok hG.c.t hρ h2 ps.toList l (ofCells ti.zero) r z.cells hp hr (by rw [hzc]; exact F2_ofCells _ _)
  refine ⟨.agg cells, ?_, ⟨cells, rfl, hc2⟩⟩
  simp only [execOp, ho]
  refine exec_val (run_build w t _ cells ?_)
  unfold Program.built
  rw [hi, hut]
  simp only [hz, h1]
  rw [← hc1]
  congr 1
  simp

/-- An array's literal without parts. -/
theorem l_buildA (hG : GOk G) {t : TypeId} {ps : Array (Nat × Operand)} (ho : o.op = .build t ps) {ti te : TI} {k : Nat} {e : TypeId} (ht : lookT G.T t = some ti) (hu : ti.u = .array k e) (hte : lookT G.T e = some te) (hp : ps.toList = []) : LOk G.P m w ρ' o (.agg (ofCells ti.zero)) := by
  have hut := hG.c.t.u t ti ht
  rw [hu] at hut
  obtain ⟨inf, z, hi, hs, hby, hz, hzc⟩ := hG.c.t.i _ _ ht
  obtain ⟨ie, ze, hie, _, _, _, _⟩ := hG.c.t.i _ _ hte
  have hps : ps = #[] := by
    apply Array.toList_inj.1
    simpa using hp
  refine ⟨.agg z.cells, ?_, ⟨z.cells, rfl, by rw [hzc]; exact F2_ofCells _ _⟩⟩
  simp only [execOp, ho]
  refine exec_val (run_build w t _ z.cells ?_)
  unfold Program.built
  rw [hi, hut]
  simp [hz, hie, hps, Instr.fill]

/-- All of them. -/
theorem valss_some' : ∀ {l : List (List AC)} {k : List (List Value)}, valss l = some k → l = k.map ofCells
  | [], k, h => by simp [valss] at h; subst h; rfl
  | a :: l, k, h => by
    simp only [valss] at h
    split at h
    · rename_i x r hx hr
      simp only [Option.some.injEq] at h
      subst h
      rw [List.map_cons, ← valss_some' hr]
      congr 1
      clear hr
      induction a generalizing x with
      | nil => simp [valsOf] at hx; subst hx; rfl
      | cons c a ih =>
        simp only [valsOf] at hx
        split at hx
        · rename_i y ys hy hys
          simp only [Option.some.injEq] at hx
          subst hx
          have : c = .v y := by
            cases c <;> simp [valOf] at hy
            rw [hy]
          rw [this]
          show _ = AC.v y :: ofCells ys
          rw [← ih _ hys]
        · cases hx
    · cases h
theorem valRow_el {c : Cont} {n : Nat} {f : Nat → List Value} (h : valRow c = some (n, f)) : c.n = n ∧ c.sz = 1 ∧ ∀ q, q < n → c.el q = ofCells (f q) := by
  unfold valRow at h
  split at h
  · simp only [Option.some.injEq, Prod.mk.injEq] at h
    obtain ⟨rfl, rfl⟩ := h
    exact ⟨rfl, rfl, fun _ _ => rfl⟩
  · rename_i l z
    simp only [Option.map_eq_some_iff, Prod.mk.injEq] at h
    obtain ⟨vs, hv, rfl, rfl⟩ := h
    have := valss_some' hv
    subst this
    refine ⟨rfl, rfl, fun q hq => ?_⟩
    rw [List.length_map] at hq
    simp [Cont.el, List.getD_eq_getElem?_getD, hq]
  · cases h
theorem l_convert (hG : GOk G) (hρ : OpsOk m ρ ρ') (H : HR B m h w) {s d e : TypeId} {x : Operand} (ho : o.op = .convert s d x) {id i n mm : Nat} {f : Nat → List Value} {ts td te : TI} (hx : ρ x = .c (.sl id i n)) (hts : lookT G.T s = some ts) (hus : ts.u = .slice e)
    (htd : lookT G.T d = some td) (hud : td.u = .string) (hte : lookT G.T e = some te) (hue : te.u = .int .u8) (hf : ((h.at id).bind fun b => valRow b.c) = some (mm, f)) (hle : i + n ≤ mm) (hall : allB n (fun k => isU8 (f (i + k))) = true) :
    LOk G.P m w ρ' o (.c (.v (.string (bytesOf f i n)))) := by
  have hxv := hρ x
  rw [hx] at hxv
  obtain ⟨p, A', c', hp, hxe, _, hz, hpos⟩ := hxv
  have us := hG.c.t.u s ts hts
  rw [hus] at us
  have ud := hG.c.t.u d td htd
  rw [hud] at ud
  have ue := hG.c.t.u e te hte
  rw [hue] at ue
  refine ⟨.string (bytesOf f i n), ?_, rfl⟩
  simp only [execOp, ho]
  refine exec_val ?_
  rw [hxe]
  obtain ⟨b, hb, hv⟩ := Option.bind_eq_some_iff.1 hf
  obtain ⟨hn, hsz, hel⟩ := valRow_el hv
  obtain ⟨p', hp', hbr⟩ := H.at_ hb
  have : p' = p := by rw [hp] at hp'; cases hp'; rfl
  subst this
  have hu8 : ∀ k, k < n → ∃ a : Int, f (i + k) = [.int .u8 a] := by
    intro k hk
    have := List.all_eq_true.1 hall k (List.mem_range.2 hk)
    unfold isU8 at this
    split at this
    · rename_i a e; exact ⟨a, e⟩
    · cases this
  rcases Nat.eq_zero_or_pos n with h0 | h0
  · subst h0
    have hbz : bytesOf f i 0 = ByteArray.empty := rfl
    rw [hbz]
    cases A' with
    | none => exact run_convert_bytes_nil w s e us ue 0 c' d ud
    | some a =>
      rw [run_convert_bytes_string w s d e _ 0 c' us ue ud, run_bytesToString w a 0 c' [] (by simp [loadCells, loadCellsFrom])]
      rfl
  · obtain ⟨A, hA, hsp, hA'⟩ := hpos h0
    rw [hA']
    have hps : p'.sz = 1 := by rw [hbr.sz, hsz]
    have hcell : ∀ k, k < n → w.cell? ⟨A.block, A.off + i * p'.sz + k, none⟩ = some (.int .u8 (((List.range n).map fun k => match f (i + k) with | [.int _ a] => a | _ => 0).getD k 0)) := by
      intro k hk
      obtain ⟨a, ha⟩ := hu8 k hk
      obtain ⟨A2, y, hA2, _, hy, hcr, _⟩ := hbr.cell (i + k) 0 (.v (.int .u8 a)) (by omega) (by rw [hel _ (by omega), ha]; rfl)
      have : A2 = A := by rw [hA] at hA2; cases hA2; rfl
      subst this
      have hye : y = .int .u8 a := hcr
      subst hye
      have : ((List.range n).map fun k => match f (i + k) with | [.int _ a] => a | _ => 0).getD k 0 = a := by simp [List.getD_eq_getElem?_getD, hk, ha]
      rw [this, ← hy, hps]
      congr 2
      omega
    rw [run_convert_bytes_arg w s e us ue _ _ n c' _ (by simp) hcell d ud]
    have hstr : strOfNums ((List.range n).map fun k => match f (i + k) with | [.int _ a] => a | _ => 0) = bytesOf f i n := by
      unfold strOfNums bytesOf
      congr 1
      apply congrArg
      rw [List.map_map]
      apply List.map_congr_left
      intro k hk
      obtain ⟨a, ha⟩ := hu8 k (List.mem_range.1 hk)
      simp [ha, u8Of]
    rw [hstr]

theorem light_ok (hG : GOk G) (hF : FOk G) (hρ : OpsOk m ρ ρ') (H : HR B m h w) (he : (alight G o ρ h).eval = some v) : LOk G.P m w ρ' o v := by
  unfold alight at he
  split at he
  · rename_i x ho
    exact l_move hρ (.inl ho) (by simpa [Tr.eval] using he.symm)
  · rename_i x ho
    exact l_move hρ (.inr ho) (by simpa [Tr.eval] using he.symm)
  · -- pick
    rename_i c a b ho
    split at he
    · rename_i t hc
      have hcv := hρ c
      rw [hc] at hcv
      have hcv' : ρ' c = .bool t := hcv
      rw [Tr.eval_ite] at he
      cases t with
      | true =>
        simp only [if_true, Tr.eval, Option.some.injEq] at he
        subst he
        exact ⟨ρ' a, by simp [execOp, ho, hcv', asBool, Sem.run_bind], hρ a⟩
      | false =>
        simp only [Bool.false_eq_true, if_false, Tr.eval, Option.some.injEq] at he
        subst he
        exact ⟨ρ' b, by simp [execOp, ho, hcv', asBool, Sem.run_bind], hρ b⟩
    · cases he
  · rename_i t a ho
    exact l_load hG hρ H ho he
  · -- nilCheck
    rename_i x ho
    split at he
    · rename_i id i j hx
      simp only [Tr.eval, Option.some.injEq] at he
      subst he
      have hxv := hρ x
      rw [hx] at hxv
      obtain ⟨p, A, hp, hA, hsp, hxe⟩ := hxv
      exact ⟨_, by simp [execOp, ho, hxe], ⟨p, A, hp, hA, hsp, rfl⟩⟩
    · exact apure_ok (by simp [ho]) hρ he
  · -- fieldAddr
    rename_i s x k ho
    split at he
    · rename_i id i j f hx hf
      split at he
      · rename_i ti hti
        simp only [Tr.eval, Option.some.injEq] at he
        subst he
        exact l_fieldAddr hG hρ ho hx hf hti
      · cases he
    · cases he
  · -- field
    rename_i t x k ho
    split at he
    · rename_i l f hx hf
      split at he
      · rename_i ti hti
        rw [Tr.eval_opt] at he
        exact l_field hG hρ ho hx hf hti he
      · cases he
    · cases he
  · -- indexAddr
    rename_i t x ix ho
    split at he
    · rename_i e _ _ _ _ _ _ id i n q k ht hx hk
      split at he
      · rename_i te b hte hb
        split at he
        · rename_i hsz
          obtain ⟨h0, h1, hv⟩ := need2 he
          simp only [Tr.eval, Option.some.injEq] at hv
          subst hv
          exact l_indexAddr hG hρ H ho ht rfl hx hk hte hb hsz (by simpa using h0) (by simpa using h1)
        · cases he
      · cases he
    · rename_i len e _ _ _ _ _ _ id i j q k ht hx hk
      split at he
      · rename_i te b hte hb
        obtain ⟨h0, h1, hv⟩ := need2 he
        have h0' : 0 ≤ k := by simpa using h0
        have h1' : k < (len : Int) := by simpa using h1
        have key := l_indexArr (w := w) (m := m) hG hρ ho ht rfl hx hk hte h0' h1'
        split at hv
        · rename_i sz nn ff hbc
          split at hv
          · rename_i hc
            obtain ⟨hsz, hi, hj⟩ := hc
            simp only [Tr.eval, Option.some.injEq] at hv
            subst hv
            obtain ⟨y, hy, hr⟩ := key
            refine ⟨y, hy, ?_⟩
            subst hi; subst hj
            obtain ⟨p, A, hp, hA, hsp, rfl⟩ := hr
            obtain ⟨p', hp', hbr⟩ := H.at_ hb
            have : p' = p := by rw [hp] at hp'; cases hp'; rfl
            subst this
            have hps : p'.sz = te.size := by rw [hbr.sz, hbc, ← hsz]; rfl
            refine ⟨p', A, hp, hA, hsp, ?_⟩
            rw [hps]
            simp
          · cases hv
        · simp only [Tr.eval, Option.some.injEq] at hv
          subst hv
          exact key
        · cases hv
      · cases he
    · cases he
  · -- index
    rename_i t x ix ho
    split at he
    · rename_i s q k ht hx hk
      obtain ⟨h0, h1, hv⟩ := need2 he
      simp only [Tr.eval, Option.some.injEq] at hv
      subst hv
      exact l_indexStr hG hρ ho ht rfl hx hk (by simpa using h0) (by simpa using h1)
    · rename_i len e _ _ _ _ _ _ n f q k ht hx hk
      split at he
      · rename_i te hte
        split at he
        · rename_i hc
          obtain ⟨hs1, hag, hn⟩ := hc
          obtain ⟨h0, h1, hv⟩ := need2 he
          simp only [Tr.eval, Option.some.injEq] at hv
          subst hv
          exact l_indexArrV hG hρ ho ht rfl hx hk hte hs1 hag hn (by simpa using h0) (by simpa using h1)
        · cases he
      · cases he
    · cases he
  · -- slice
    rename_i t x lo hi mx ho
    split at he
    · rename_i s ht hx
      split at he
      · rename_i q a q' b hlo hhi
        obtain ⟨hb, hv⟩ := Tr.eval_need.1 he
        simp only [Tr.eval, Option.some.injEq] at hv
        subst hv
        exact l_sliceStr hG hρ ho ht rfl hx (q := q) (q' := q') hlo hhi hb
      · cases he
    · rename_i e _ _ _ _ _ _ id i n ht hx
      split at he
      · rename_i te bb hte hbb
        split at he
        · rename_i hsz
          split at he
          · rename_i q a q' b hlo hhi
            obtain ⟨hb, hv⟩ := Tr.eval_need.1 he
            simp only [Tr.eval, Option.some.injEq] at hv
            subst hv
            exact l_slice hG hρ H ho ht rfl hx hte hbb hsz (q := q) (q' := q') hlo hhi hb
          · cases he
        · cases he
      · cases he
    · cases he
  · -- extract
    rename_i x k ho
    split at he
    · rename_i l hx
      rw [Tr.eval_opt] at he
      exact l_extract hρ ho hx he
    · cases he
  · -- build
    rename_i t ps ho
    split at he
    · rename_i fs _ _ zero _ _ sh ht
      split at he
      · rename_i hp
        split at he
        · rename_i n s0
          cases he
          have hf : fills (ofCells zero) [] = some (ofCells zero) := rfl
          obtain ⟨x, h1, cs, rfl, hF2⟩ := l_build hG hF hρ ho ht rfl hp hf
          obtain ⟨_, _, _, hz, _⟩ := hG.c.t.shape t _ n s0 ht rfl
          have hlist : cs.toList = zero := by
            have : ∀ (l : List Value) (k : List Value), F2 (CR m) (ofCells l) k → k = l := by
              intro l
              induction l with
              | nil => intro k h; cases k with
                | nil => rfl
                | cons a k => cases h
              | cons a l ih => intro k h; cases h with
                | cons h1 h2 => rw [ih _ h2, (show _ = a from h1)]
            exact this _ _ hF2
          refine ⟨_, h1, ?_, fun k hk => ?_⟩
          · have hz' : zero = List.replicate n (zero.headD undef) := hz
            have e : (List.range n).map (fun _ => zero.headD undef) = zero := by
              rw [hz']
              simp [List.map_const']
              cases n <;> simp [List.replicate_succ]
            rw [e, ← hlist]
          · have hz' : zero = List.replicate n (zero.headD undef) := hz
            refine hG.c.t.zone t _ ht _ ?_
            show zero.headD undef ∈ zero
            have hm : zero.headD undef ∈ List.replicate n (zero.headD undef) := List.mem_replicate.2 ⟨by omega, rfl⟩
            rw [← hz'] at hm
            exact hm
        · rw [Tr.eval_opt] at he
          cases hf : fills (ofCells zero) [] with
          | none => simp [hf] at he
          | some r =>
            rw [hf] at he
            simp only [Option.map_some, Option.some.injEq] at he
            subst he
            exact l_build hG hF hρ ho ht rfl hp hf
      · rename_i l _ hp
        rw [Tr.eval_opt] at he
        cases hf : fills (ofCells zero) l with
        | none => simp [hf] at he
        | some r =>
          rw [hf] at he
          simp only [Option.map_some, Option.some.injEq] at he
          subst he
          exact l_build hG hF hρ ho ht rfl hp hf
      · cases he
    · rename_i k e _ _ zero _ _ n s0 ht
      split at he
      · rename_i te hp hte
        cases he
        obtain ⟨x, h1, cs, rfl, hF2⟩ := l_buildA (m := m) (w := w) (ρ' := ρ') hG ho ht rfl hte hp
        obtain ⟨_, _, _, hz, _⟩ := hG.c.t.shape t _ n s0 ht rfl
        have hlist : cs.toList = zero := by
          have : ∀ (l : List Value) (k : List Value), F2 (CR m) (ofCells l) k → k = l := by
            intro l
            induction l with
            | nil => intro k h; cases k with
              | nil => rfl
              | cons a k => cases h
            | cons a l ih => intro k h; cases h with
              | cons h1 h2 => rw [ih _ h2, (show _ = a from h1)]
          exact this _ _ hF2
        refine ⟨_, h1, ?_, fun k hk => ?_⟩
        · have hz' : zero = List.replicate n (zero.headD undef) := hz
          have e : (List.range n).map (fun _ => zero.headD undef) = zero := by
            rw [hz']
            simp [List.map_const']
            cases n <;> simp [List.replicate_succ]
          rw [e, ← hlist]
        · have hz' : zero = List.replicate n (zero.headD undef) := hz
          refine hG.c.t.zone t _ ht _ ?_
          show zero.headD undef ∈ zero
          have hm : zero.headD undef ∈ List.replicate n (zero.headD undef) := List.mem_replicate.2 ⟨by omega, rfl⟩
          rw [← hz'] at hm
          exact hm
      · cases he
    · cases he
  · -- binOp
    rename_i op t x y t' ho
    have hsel : ∀ cs b, o.op ≠ .select cs b := by simp [ho]
    split at he
    · rename_i a b hx hy
      split at he
      · rename_i hc
        rw [Tr.eval_opt] at he
        cases hq : ceqs a b with
        | none => simp [hq] at he
        | some r =>
          rw [hq] at he
          simp only [Option.map_some, Option.some.injEq] at he
          exact l_eqs hG hρ ho hx hy hc hq (.inl ⟨rfl, he.symm⟩)
      · cases he
    · rename_i a b hx hy
      split at he
      · rename_i hc
        rw [Tr.eval_opt] at he
        cases hq : ceqs a b with
        | none => simp [hq] at he
        | some r =>
          rw [hq] at he
          simp only [Option.map_some, Option.some.injEq] at he
          exact l_eqs hG hρ ho hx hy hc hq (.inr ⟨rfl, he.symm⟩)
      · cases he
    · rename_i k a k' b hx hy
      split at he
      · rename_i hk
        subst hk
        obtain ⟨hb, hv⟩ := Tr.eval_need.1 he
        simp only [Tr.eval, Option.some.injEq] at hv
        subst hv
        exact l_arith hρ ho hx hy (run_rem (by simpa using hb))
      · cases he
    · rename_i k a k' b hx hy
      split at he
      · rename_i hk
        subst hk
        obtain ⟨hb, hv⟩ := Tr.eval_need.1 he
        simp only [Tr.eval, Option.some.injEq] at hv
        subst hv
        exact l_arith hρ ho hx hy (run_quo (by simpa using hb))
      · cases he
    · rename_i k a k' b hx hy
      obtain ⟨hb, hv⟩ := Tr.eval_need.1 he
      simp only [Tr.eval, Option.some.injEq] at hv
      subst hv
      exact l_arith hρ ho hx hy (run_shl (by simpa using hb))
    · rename_i k a k' b hx hy
      obtain ⟨hb, hv⟩ := Tr.eval_need.1 he
      simp only [Tr.eval, Option.some.injEq] at hv
      subst hv
      exact l_arith hρ ho hx hy (run_shr (by simpa using hb))
    · rename_i a b hx hy
      obtain ⟨hb, hv⟩ := Tr.eval_need.1 he
      simp only [Tr.eval, Option.some.injEq] at hv
      subst hv
      have h1 := hρ x
      have h2 := hρ y
      rw [hx] at h1
      rw [hy] at h2
      have hb' : ((a.size + b.size : Nat) : Int) ≤ IntKind.i64.max := by simpa using hb
      refine l_bin ho ?_ ?_ (rfl : CR m (.v (.string (a ++ b))) (.string (a ++ b)))
      · rw [VR_str h1, VR_str h2]; exact eqGuard_str
      · rw [VR_str h1, VR_str h2]
        simp only [binOp, Op.stringOp]
        rw [if_neg (by omega)]
        simp
    · exact apure_ok hsel hρ he
  · -- len
    rename_i args ts ho
    have hsel : ∀ cs b, o.op ≠ .select cs b := by simp [ho]
    split at he
    · rename_i x t ha hts
      split at he
      · rename_i id i n _ e _ _ _ _ _ _ hx ht
        simp only [Tr.eval, Option.some.injEq] at he
        exact l_len hG hρ ho ha hts ht (.inl ⟨e, id, i, n, rfl, hx, he.symm⟩)
      · rename_i s _ _ _ _ _ _ _ hx ht
        simp only [Tr.eval, Option.some.injEq] at he
        exact l_len hG hρ ho ha hts ht (.inr ⟨s, rfl, hx, he.symm⟩)
      · exact apure_ok hsel hρ he
    · cases he
  · -- a text of bytes
    rename_i ss d x ho
    split at he
    · rename_i id i n hx
      split at he
      · rename_i e _ _ _ _ _ _ _ _ _ _ _ _ _ hts htd
        split at he
        · rename_i mm f hte hf
          obtain ⟨h1, h2, hv⟩ := need2 he
          simp only [Tr.eval, Option.some.injEq] at hv
          subst hv
          exact l_convert hG hρ H ho hx hts rfl htd rfl hte rfl hf (by simpa using h1) h2
        · cases he
      · cases he
    · exact apure_ok (by simp [ho]) hρ he
  · rename_i ho; exact apure_ok (by simp [ho]) hρ he
  · rename_i ho; exact apure_ok (by simp [ho]) hρ he
  · rename_i ho; exact apure_ok (by simp [ho]) hρ he
  · rename_i ho; exact apure_ok (by simp [ho]) hρ he
  · cases he
end
end
section
open Go Go.RowKit

def Ext (m m' : List Pl) : Prop := ∀ (id : Nat) p, m[id]? = some p → m'[id]? = some p
theorem Ext.refl (m : List Pl) : Ext m m := fun _ _ h => h
theorem Ext.trans {a b c : List Pl} (h : Ext a b) (k : Ext b c) : Ext a c := fun i p hp => k i p (h i p hp)
theorem Ext.app (m l : List Pl) : Ext m (m ++ l) := fun i p h => by
  rw [List.getElem?_append_left (List.getElem?_eq_some_iff.1 h).1]; exact h

theorem CR.ext {m m' : List Pl} (h : Ext m m') {c : AC} {y : Value} (hr : CR m c y) : CR m' c y := by
  cases c with
  | any => trivial
  | v x => exact hr
  | ptr id i j => obtain ⟨p, A, hp, rest⟩ := hr; exact ⟨p, A, h _ _ hp, rest⟩
  | sl id i n => obtain ⟨p, A', c', hp, rest⟩ := hr; exact ⟨p, A', c', h _ _ hp, rest⟩
mutual
theorem VR.ext {m m' : List Pl} (h : Ext m m') : ∀ {v : AV} {y : Value}, VR m v y → VR m' v y
  | .c x, y, hr => by simp only [VR] at hr ⊢; exact hr.ext h
  | .agg l, y, hr => by simp only [VR] at hr ⊢; obtain ⟨cs, e, hF⟩ := hr; exact ⟨cs, e, hF.imp fun a b => CR.ext h⟩
  | .arr n f, y, hr => by simp only [VR] at hr ⊢; exact hr
  | .tup l, y, hr => by simp only [VR] at hr ⊢; obtain ⟨vs, e, hF⟩ := hr; exact ⟨vs, e, VRs.ext h hF⟩
theorem VRs.ext {m m' : List Pl} (h : Ext m m') : ∀ {l : List AV} {k : List Value}, VRs m l k → VRs m' l k
  | [], [], _ => by simp [VRs]
  | [], _ :: _, hr => by simp [VRs] at hr
  | _ :: _, [], hr => by simp [VRs] at hr
  | x :: l, y :: k, hr => by simp only [VRs] at hr ⊢; exact ⟨VR.ext h hr.1, VRs.ext h hr.2⟩
end

/-- The blocks that may be written. -/
def Own (m : List Pl) (h : AHeap) (k : Nat) : Prop := ∃ (id : Nat) (b : ABlk) (p : Pl) (A : Addr), h[id]? = some (some b) ∧ b.own = true ∧ m[id]? = some p ∧ p.A = some A ∧ A.block = k

structure Fr (X : Nat → Prop) (w w' : World) : Prop where
  os : w'.os = w.os
  tape : w'.tape = w.tape
  output : w'.output = w.output
  size : w.heap.size ≤ w'.heap.size
  blk : ∀ k, k < w.heap.size → ¬ X k → w'.heap[k]? = w.heap[k]?
theorem Fr.refl (X : Nat → Prop) (w : World) : Fr X w w := ⟨rfl, rfl, rfl, Nat.le_refl _, fun _ _ _ => rfl⟩
theorem Fr.trans {X Y : Nat → Prop} {a b c : World} (h : Fr X a b) (k : Fr Y b c) (hY : ∀ i, Y i → X i ∨ a.heap.size ≤ i) : Fr X a c :=
  ⟨k.os.trans h.os, k.tape.trans h.tape, k.output.trans h.output, Nat.le_trans h.size k.size, fun i hi hx =>
    (k.blk i (Nat.lt_of_lt_of_le hi h.size) fun hy => (hY i hy).elim hx fun hge => absurd hi (Nat.not_lt.2 hge)).trans (h.blk i hi hx)⟩
theorem Fr.alloc (X : Nat → Prop) (w : World) (o : Obj) : Fr X w (w.alloc o) := ⟨rfl, rfl, rfl, by simp, fun k hk _ => Below.heap_alloc w o k hk⟩
theorem Fr.drew (X : Nat → Prop) (w : World) : Fr X w w.drew := ⟨rfl, rfl, rfl, Nat.le_refl _, fun _ _ _ => rfl⟩

theorem cell_of_heap {w w' : World} {k : Nat} (h : w'.heap[k]? = w.heap[k]?) (o : Nat) : w'.cell? ⟨k, o, none⟩ = w.cell? ⟨k, o, none⟩ := by
  simp only [World.cell?, h]
theorem cell_lt {w : World} {k o : Nat} {x : Value} (h : w.cell? ⟨k, o, none⟩ = some x) : k < w.heap.size := World.block_lt_of_cell? w _ h

section
variable {B : Nat} {m : List Pl} {h : AHeap} {w w' : World}

/-- A block whose places are as they were. -/
theorem BR.keep {b : ABlk} {p : Pl} (hb : BR B m b p w) (hk : ∀ A, p.A = some A → A.block < w.heap.size → (0 < b.c.n ∨ b.own = true) → w'.heap[A.block]? = w.heap[A.block]?) : BR B m b p w' :=
  { sz := hb.sz, len := hb.len, cap := hb.cap,
    cell := fun i j c hi hc => by
      obtain ⟨A, x, hA, hs, hx, hr, h1⟩ := hb.cell i j c hi hc
      exact ⟨A, x, hA, hs, by rw [cell_of_heap (hk A hA (cell_lt hx) (.inl (by omega)))]; exact hx, hr, h1⟩
    own := fun ho => by
      obtain ⟨h1, h2⟩ := hb.own ho
      refine ⟨h1, fun A hA => ?_⟩
      obtain ⟨a, b, c, cs, d, e⟩ := h2 A hA
      exact ⟨a, b, c, cs, by rw [hk A hA (Array.getElem?_eq_some_iff.1 d).1 (.inr ho)]; exact d, e⟩
    came := hb.came }

theorem BR.ext {m' : List Pl} {b : ABlk} {p : Pl} (hb : BR B m b p w) (he : Ext m m') : BR B m' b p w :=
  { sz := hb.sz, len := hb.len, cap := hb.cap,
    cell := fun i j c hi hc => by
      obtain ⟨A, x, hA, hs, hx, hr, h1⟩ := hb.cell i j c hi hc
      exact ⟨A, x, hA, hs, hx, hr.ext he, h1⟩
    own := hb.own, came := hb.came }

theorem HR.keep (H : HR B m h w) (hk : ∀ k, k < w.heap.size → w'.heap[k]? = w.heap[k]?) : HR B m h w' :=
  { len := H.len, blk := fun id b p hb hp => (H.blk id b p hb hp).keep fun A _ hlt _ => hk _ hlt, apart := H.apart }

theorem getElem?_snoc {α : Type} {l : List α} {x a : α} {i : Nat} (h : (l ++ [x])[i]? = some a) : l[i]? = some a ∨ (i = l.length ∧ a = x) := by
  rcases Nat.lt_or_ge i l.length with hi | hi
  · left; rwa [List.getElem?_append_left hi] at h
  · right
    rw [List.getElem?_append_right hi] at h
    have : i - l.length = 0 := by
      rcases Nat.eq_zero_or_pos (i - l.length) with h0 | h0
      · exact h0
      · rw [List.getElem?_eq_none (by simp; omega)] at h; cases h
    rw [this] at h
    simp at h
    exact ⟨by omega, h.symm⟩

/-- One more block. -/
theorem HR.new (H : HR B m h w) (hB : B ≤ w.heap.size) {t : TypeId} {c : Cont} {cs : Array Value} {cap : Nat} (hcap : c.n ≤ cap) (hlen : ∀ i, i < c.n → (c.el i).length = c.sz) (hsz : cs.size = cap * c.sz)
    (hcell : ∀ (i j : Nat) a, i < c.n → (c.el i)[j]? = some a → ∃ x, cs[i * c.sz + j]? = some x ∧ CR m a x ∧ oneV x = true) :
    HR B (m ++ [⟨some ⟨w.heap.size, 0, none⟩, cap, c.sz⟩]) (h ++ [some ⟨t, true, c⟩]) (w.alloc (.cells cs t)) := by
  have hnew : (w.alloc (.cells cs t)).heap[w.heap.size]? = some (.cells cs t (0, 0)) := by
    show (w.heap.push _)[w.heap.size]? = _
    simp
  have hold : ∀ k, k < w.heap.size → (w.alloc (.cells cs t)).heap[k]? = w.heap[k]? := fun k hk => Below.heap_alloc w _ k hk
  refine { len := by simp [H.len], blk := ?_, apart := ?_ }
  · intro id b p hb hp
    rcases getElem?_snoc hb with hb | ⟨hid, hbe⟩
    · have hlt : id < m.length := by rw [H.len]; exact (List.getElem?_eq_some_iff.1 hb).1
      rw [List.getElem?_append_left hlt] at hp
      exact ((H.blk id b p hb hp).keep fun A _ hl _ => hold _ hl).ext (Ext.app _ _)
    · cases hbe
      have hpe : p = ⟨some ⟨w.heap.size, 0, none⟩, cap, c.sz⟩ := by
        rw [hid, ← H.len] at hp
        simpa using hp.symm
      subst hpe
      refine { sz := rfl, len := hlen, cap := hcap, cell := ?_, own := ?_, came := fun e => by cases e }
      · intro i j a hi ha
        obtain ⟨x, hx, hr, h1⟩ := hcell i j a hi ha
        refine ⟨_, x, rfl, rfl, ?_, hr.ext (Ext.app _ _), h1⟩
        simp only [World.cell?, hnew]
        simpa using hx
      · intro _
        refine And.intro (fun e => nomatch e) ?_
        intro A hA
        cases hA
        exact ⟨rfl, rfl, hB, cs, hnew, hsz⟩
  · intro id id' b b' p p' A A' hne hb hb' ho ho' hp hp' hA hA'
    have old : ∀ {id : Nat} {b : ABlk} {p : Pl} {A : Addr}, h[id]? = some (some b) → b.own = true → m[id]? = some p → p.A = some A → A.block < w.heap.size := by
      intro id b p A hb ho hp hA
      obtain ⟨_, _, _, cs, hc, _⟩ := ((H.blk id b p hb hp).own ho).2 A hA
      exact (Array.getElem?_eq_some_iff.1 hc).1
    have inOld : ∀ {id : Nat} {b : ABlk} {p : Pl}, h[id]? = some (some b) → (m ++ [⟨some ⟨w.heap.size, 0, none⟩, cap, c.sz⟩])[id]? = some p → m[id]? = some p := by
      intro id b p hb hp
      have hlt : id < m.length := by rw [H.len]; exact (List.getElem?_eq_some_iff.1 hb).1
      rwa [List.getElem?_append_left hlt] at hp
    have inNew : ∀ {id : Nat} {p : Pl} {A : Addr}, id = h.length → (m ++ [⟨some ⟨w.heap.size, 0, none⟩, cap, c.sz⟩])[id]? = some p → p.A = some A → A.block = w.heap.size := by
      intro id p A hid hp hA
      rw [hid, ← H.len] at hp
      simp at hp
      subst hp
      cases hA
      rfl
    rcases getElem?_snoc hb with hb | ⟨hid, hbe⟩ <;> rcases getElem?_snoc hb' with hb' | ⟨hid', hbe'⟩
    · exact H.apart id id' b b' p p' A A' hne hb hb' ho ho' (inOld hb hp) (inOld hb' hp') hA hA'
    · have h1 := old hb ho (inOld hb hp) hA
      have h2 := inNew hid' hp' hA'
      omega
    · have h1 := old hb' ho' (inOld hb' hp') hA'
      have h2 := inNew hid hp hA
      omega
    · omega

theorem Own.new {t : TypeId} {c : Cont} {cap sz k : Nat} (H : m.length = h.length) (ho : Own (m ++ [⟨some ⟨w.heap.size, 0, none⟩, cap, sz⟩]) (h ++ [some ⟨t, true, c⟩]) k) : Own m h k ∨ w.heap.size ≤ k := by
  obtain ⟨id, b, p, A, hb, how, hp, hA, rfl⟩ := ho
  rcases getElem?_snoc hb with hb | ⟨hid, _⟩
  · left
    have hlt : id < m.length := by rw [H]; exact (List.getElem?_eq_some_iff.1 hb).1
    rw [List.getElem?_append_left hlt] at hp
    exact ⟨id, b, p, A, hb, how, hp, hA, rfl⟩
  · right
    rw [hid, ← H] at hp
    simp at hp
    subst hp
    cases hA
    exact Nat.le_refl _

/-- Cells stored one by one. -/
theorem storeCells_run (P : Program) (b o : Nat) (t : TypeId) : ∀ (l : List Value) (i : Nat) (w : World) (cs : Array Value), w.heap[b]? = some (.cells cs t (0, 0)) → o + i + l.length ≤ cs.size → (∀ x ∈ l, oneV x = true) →
    ∃ w' cs', (storeCells ⟨b, o, none⟩ l i).run P w = .ok () w' ∧ w'.heap[b]? = some (.cells cs' t (0, 0)) ∧ cs'.toList = cs.toList.take (o + i) ++ l ++ cs.toList.drop (o + i + l.length) ∧
      (∀ k, k ≠ b → w'.heap[k]? = w.heap[k]?) ∧ w'.heap.size = w.heap.size ∧ w'.os = w.os ∧ w'.tape = w.tape ∧ w'.output = w.output
  | [], i, w, cs, hw, _, _ => ⟨w, cs, by simp [storeCells], hw, by simp, fun _ _ => rfl, rfl, rfl, rfl, rfl⟩
  | x :: l, i, w, cs, hw, hle, h1 => by
    have hlt : o + i < cs.size := by simp at hle; omega
    have hcell : w.cell? ⟨b, o + i, none⟩ = some cs[o + i] := by simp [World.cell?, hw, hlt]
    have hfr : w.frozen? ⟨b, o + i, none⟩ = false := by simp [World.frozen?, hw]
    have hx := h1 x (by simp)
    have hset : (w.setCell ⟨b, o + i, none⟩ x).heap[b]? = some (.cells (cs.setIfInBounds (o + i) x) t (0, 0)) := by
      simp [World.setCell, Array.getElem?_modify, hw]
    obtain ⟨w', cs', hr, hb', hcs, hother, hsize, hos, htape, hout⟩ := storeCells_run P b o t l (i + 1) (w.setCell ⟨b, o + i, none⟩ x) (cs.setIfInBounds (o + i) x) hset (by simp at hle ⊢; omega) (fun y hy => h1 y (by simp [hy]))
    refine ⟨w', cs', ?_, hb', ?_, fun k hk => by rw [hother k hk]; exact Below.heap_setCell _ _ _ _ hk, by rw [hsize]; simp [World.setCell], hos, htape, hout⟩
    · simp only [storeCells, Sem.run_bind]
      have hst : (store ((⟨b, o, none⟩ : Addr).add i) x).run P w = .ok () (w.setCell ⟨b, o + i, none⟩ x) := by
        rw [add_none rfl]
        clear hset hr hb' hcs hother hsize hos htape hout h1 hle
        cases x <;> simp_all [store, Sem.run, oneV]
      rw [hst]
      exact hr
    · rw [hcs]
      have hlt' : o + i < cs.toList.length := by simpa using hlt
      simp only [Array.toList_setIfInBounds, List.length_cons]
      rw [show o + (i + 1) + l.length = o + i + (l.length + 1) by omega, List.drop_set_of_lt (by omega), show o + (i + 1) = (o + i) + 1 by omega, List.take_succ_eq_append_getElem (by simpa using hlt'),
        List.take_set_of_le (Nat.le_refl _), List.getElem_set_self]
      simp
end
end
section
open Go Go.RowKit

/-- What a step makes of the memory. -/
structure Step (B : Nat) (m : List Pl) (h : AHeap) (w : World) (m' : List Pl) (h' : AHeap) (w' : World) : Prop where
  ext : Ext m m'
  hr : HR B m' h' w'
  fr : Fr (Own m h) w w'
  own : ∀ k, Own m' h' k → Own m h k ∨ w.heap.size ≤ k

theorem Step.refl {B : Nat} {m : List Pl} {h : AHeap} {w : World} (H : HR B m h w) : Step B m h w m h w := ⟨Ext.refl _, H, Fr.refl _ _, fun _ h => .inl h⟩
theorem Step.trans {B : Nat} {m m' m'' : List Pl} {h h' h'' : AHeap} {w w' w'' : World} (s : Step B m h w m' h' w') (t : Step B m' h' w' m'' h'' w'') : Step B m h w m'' h'' w'' :=
  ⟨s.ext.trans t.ext, t.hr, s.fr.trans t.fr fun i hi => s.own i hi, fun k hk => (t.own k hk).elim (s.own k) fun hle => .inr (Nat.le_trans s.fr.size hle)⟩

section
variable {G : Ctx2} {o : Oper} {ρ : Operand → AV} {ρ' : Operand → Value} {h h' : AHeap} {w : World} {B : Nat} {m : List Pl} {v : AV}

def HOk (P : Program) (B : Nat) (m : List Pl) (h : AHeap) (w : World) (ρ' : Operand → Value) (o : Oper) (v : AV) (h' : AHeap) : Prop :=
  ∃ x w' m', ((execOp ρ' o).run P w = .ok (.value x) w' ∨ ((execOp ρ' o).run P w = .ok .skip w' ∧ x = undef)) ∧ Step B m h w m' h' w' ∧ VR m' v x

theorem run_newVar {P : Program} {t : TypeId} {x : Value} : (newVar t x).run P w = .ok ⟨w.heap.size, 0, none⟩ (w.alloc (.cells x.cells t)) := by
  rfl
theorem run_newRow {P : Program} {t : TypeId} {cs : Array Value} : (newRow t cs).run P w = .ok ⟨w.heap.size, 0, none⟩ (w.alloc (.cells cs t)) := by
  rfl

theorem newPtr (H : HR B m h w) (hB : B ≤ w.heap.size) {t : TypeId} {c : Cont} {cs : Array Value} (hlen : ∀ i, i < c.n → (c.el i).length = c.sz) (hsz : cs.size = c.n * c.sz)
    (hcell : ∀ (i j : Nat) a, i < c.n → (c.el i)[j]? = some a → ∃ x, cs[i * c.sz + j]? = some x ∧ CR m a x ∧ oneV x = true) :
    ∃ p, p.sz = c.sz ∧ p.A = some ⟨w.heap.size, 0, none⟩ ∧ p.cap = c.n ∧ (m ++ [p])[h.length]? = some p ∧ Step B m h w (m ++ [p]) (h ++ [some ⟨t, true, c⟩]) (w.alloc (.cells cs t)) := by
  refine ⟨⟨some ⟨w.heap.size, 0, none⟩, c.n, c.sz⟩, rfl, rfl, rfl, by rw [← H.len]; simp, Ext.app _ _, H.new hB (Nat.le_refl _) hlen hsz hcell, Fr.alloc _ _ _, fun k hk => Own.new H.len hk⟩

theorem h_alloc (hG : GOk G.toCtx) (H : HR B m h w) (hB : B ≤ w.heap.size) {t : TypeId} (ho : o.op = .alloc t) {ti : TI} (ht : lookT G.T t = some ti) :
    HOk G.P B m h w ρ' o (.c (.ptr h.length 0 0)) (h ++ [some ⟨t, true, zeroCont ti⟩]) := by
  obtain ⟨inf, z, hi, hs, _, hz, hzc⟩ := hG.c.t.i _ _ ht
  have hzl := hG.c.t.zlen _ _ ht
  have hz1 := hG.c.t.zone _ _ ht
  have hrun : (execOp ρ' o).run G.P w = .ok (.value (.pointer (some ⟨w.heap.size, 0, none⟩))) (w.alloc (.cells z.cells t)) := by
    simp only [execOp, ho, Instr.alloc]
    simp [Sem.run_bind, run_zero' hi hz, run_newVar]
  have hcs : z.cells.size = ti.zero.length := by rw [← hzc]; simp
  have hget : ∀ k x, ti.zero[k]? = some x → z.cells[k]? = some x ∧ oneV x = true := fun k x hx => ⟨by rw [← hzc] at hx; simpa using hx, hz1 x (List.mem_of_getElem? hx)⟩
  have hfin : ∀ c : Cont, c = zeroCont ti → (∀ i, i < c.n → (c.el i).length = c.sz) → z.cells.size = c.n * c.sz →
      (∀ (i j : Nat) a, i < c.n → (c.el i)[j]? = some a → ∃ x, z.cells[i * c.sz + j]? = some x ∧ CR m a x ∧ oneV x = true) →
      HOk G.P B m h w ρ' o (.c (.ptr h.length 0 0)) (h ++ [some ⟨t, true, zeroCont ti⟩]) := by
    intro c hc h1 h2 h3
    obtain ⟨p, hps, hpA, _, hpi, hst⟩ := newPtr H hB (t := t) h1 h2 h3
    rw [hc] at hst
    exact ⟨_, _, _, .inl hrun, hst, ⟨p, _, hpi, hpA, rfl, by simp⟩⟩
  cases hsh : ti.shape with
  | none =>
    refine hfin (.one (ofCells ti.zero)) (by simp [zeroCont, hsh]) (fun i _ => rfl) (by simp [Cont.n, Cont.sz, ofCells, hcs]) ?_
    intro i j a hi' ha
    have hi0 : i = 0 := by simp [Cont.n] at hi'; exact hi'
    subst hi0
    simp only [Cont.el, ofCells, List.getElem?_map, Option.map_eq_some_iff] at ha
    obtain ⟨x, hx, rfl⟩ := ha
    obtain ⟨h1, h2⟩ := hget j x hx
    exact ⟨x, by simpa using h1, rfl, h2⟩
  | some ns =>
    obtain ⟨n, s⟩ := ns
    obtain ⟨hs1, hag, hsz, hrep, hpos⟩ := hG.c.t.shape _ _ _ _ ht hsh
    subst hs1
    have hz0 : ti.zero.take 1 = [ti.zero.headD undef] := by
      rw [hrep]
      cases n with
      | zero => omega
      | succ n => simp [List.replicate_succ]
    have hzn : ti.zero.length = n := by rw [hzl, hsz]
    refine hfin (.row 1 n fun _ => ti.zero.take 1) (by simp [zeroCont, hsh]) (fun i _ => by simp [Cont.el, Cont.sz, ofCells, hz0]) (by simp [Cont.n, Cont.sz, hcs, hzn]) ?_
    intro i j a hi' ha
    simp only [Cont.el, hz0, ofCells, List.map_cons, List.map_nil] at ha
    have hin : i < n := hi'
    cases j with
    | zero =>
      simp at ha
      subst ha
      have hx : ti.zero[i]? = some (ti.zero.headD undef) := by
        have : ti.zero[i]? = (List.replicate n (ti.zero.headD undef))[i]? := by rw [← hrep]
        rw [this]; simp [hin]
      obtain ⟨h1, h2⟩ := hget i _ hx
      exact ⟨_, by simpa [Cont.sz] using h1, rfl, by simpa using h2⟩
    | succ j => simp at ha

theorem h_box (hG : GOk G.toCtx) (hρ : OpsOk m ρ ρ') (H : HR B m h w) (hB : B ≤ w.heap.size) {t : TypeId} {x : Operand} (ho : o.op = .box t x) {ti : TI} {c : Cont} (hc : newBlk ti (ρ x) = some c) :
    HOk G.P B m h w ρ' o (.c (.ptr h.length 0 0)) (h ++ [some ⟨t, true, c⟩]) := by
  have hrun : (execOp ρ' o).run G.P w = .ok (.value (.pointer (some ⟨w.heap.size, 0, none⟩))) (w.alloc (.cells (ρ' x).cells t)) := by
    simp only [execOp, ho, Instr.box]
    simp [Sem.run_bind, run_newVar]
  have hfin : (∀ i, i < c.n → (c.el i).length = c.sz) → (ρ' x).cells.size = c.n * c.sz →
      (∀ (i j : Nat) a, i < c.n → (c.el i)[j]? = some a → ∃ y, (ρ' x).cells[i * c.sz + j]? = some y ∧ CR m a y ∧ oneV y = true) →
      HOk G.P B m h w ρ' o (.c (.ptr h.length 0 0)) (h ++ [some ⟨t, true, c⟩]) := by
    intro h1 h2 h3
    obtain ⟨p, hps, hpA, _, hpi, hst⟩ := newPtr H hB (t := t) h1 h2 h3
    exact ⟨_, _, _, .inl hrun, hst, ⟨p, _, hpi, hpA, rfl, by simp⟩⟩
  have hx := hρ x
  unfold newBlk at hc
  split at hc
  · rename_i n mm f hsh hρx
    split at hc
    · rename_i hmn
      simp only [Option.some.injEq] at hc
      subst hc
      subst hmn
      rw [hρx] at hx
      simp only [VR] at hx
      obtain ⟨hxe, h1⟩ := hx
      refine hfin (fun i _ => by simp [Cont.el, Cont.sz, ofCells]) (by simp [hxe, Value.cells, Cont.n, Cont.sz]) ?_
      intro i j a hi ha
      have hin : i < mm := hi
      simp only [Cont.el, ofCells, List.map_cons, List.map_nil] at ha
      cases j with
      | zero =>
        simp at ha
        subst ha
        exact ⟨f i, by simp [hxe, Value.cells, Cont.sz, hin], rfl, h1 i hin⟩
      | succ j => simp at ha
    · cases hc
  · cases hc
  · cases hl : cellsOf (ρ x) with
    | none => simp [hl] at hc
    | some l =>
      rw [hl] at hc
      simp only [Option.bind_some] at hc
      split at hc
      · simp only [Option.some.injEq] at hc
        subst hc
        obtain ⟨hF, h1⟩ := cellsOf_ok hl hx
        refine hfin (fun i _ => rfl) (by have := hF.length; simp at this; simp [Cont.n, Cont.sz, this]) ?_
        intro i j a hi ha
        have hi0 : i = 0 := by simp [Cont.n] at hi; exact hi
        subst hi0
        obtain ⟨y, hy, hr⟩ := hF.get j a ha
        exact ⟨y, by simpa using hy, hr, h1 y (List.mem_of_getElem? hy)⟩
      · cases hc

theorem flatten_get {α : Type} {s : Nat} : ∀ {l : List (List α)}, (∀ x ∈ l, x.length = s) → ∀ (i j : Nat) (y : List α) a, l[i]? = some y → y[j]? = some a → l.flatten[i * s + j]? = some a
  | [], _, i, j, y, a, h, _ => by simp at h
  | x :: l, hl, i, j, y, a, h, hj => by
    have hx := hl x (by simp)
    cases i with
    | zero =>
      simp only [List.getElem?_cons_zero, Option.some.injEq] at h
      subst h
      have : j < x.length := (List.getElem?_eq_some_iff.1 hj).1
      simp only [List.flatten_cons, Nat.zero_mul, Nat.zero_add]
      rw [List.getElem?_append_left this]
      exact hj
    | succ i =>
      have ih := flatten_get (l := l) (fun z hz => hl z (by simp [hz])) i j y a (by simpa using h) hj
      simp only [List.flatten_cons]
      rw [List.getElem?_append_right (by rw [hx, Nat.add_mul]; omega), hx, Nat.add_mul]
      rw [show i * s + 1 * s + j - s = i * s + j by omega]
      exact ih

theorem fill_seq (hρ : OpsOk m ρ ρ') {s : Nat} : ∀ (ps : List (Nat × Operand)) (i : Nat) (l : List (List AC)) (zc : Array Value), partsSl (ps.map fun p => (p.1, ρ p.2)) s i = some l → i * s + ps.length * s ≤ zc.size →
    ∃ cells k, Instr.fill (fun i => some (i * s, s)) zc (ps.map fun p => (p.1, ρ' p.2)) = some cells ∧ cells.toList = zc.toList.take (i * s) ++ k.flatten ++ zc.toList.drop (i * s + ps.length * s) ∧ F2 (F2 (CR m)) l k ∧ (∀ x ∈ k, x.length = s) ∧
      (∀ x ∈ k, ∀ y ∈ x, oneV y = true)
  | [], i, l, zc, hp, _ => by
    simp only [List.map_nil, partsSl, Option.some.injEq] at hp
    subst hp
    exact ⟨zc, [], rfl, by simp, .nil, by simp, by simp⟩
  | (k0, x) :: ps, i, l, zc, hp, hle => by
    simp only [List.map_cons, partsSl] at hp
    split at hp
    · rename_i lx r hcx hpr
      split at hp
      · rename_i hc
        obtain ⟨rfl, hlen⟩ := hc
        simp only [Option.some.injEq] at hp
        subst hp
        obtain ⟨hF, h1⟩ := cellsOf_ok hcx (hρ x)
        have hsz : (ρ' x).cells.size = s := by have := hF.length; simp at this; omega
        simp only [List.length_cons, Nat.add_mul, Nat.one_mul] at hle
        have hle' : k0 * s + (ρ' x).cells.size ≤ zc.size := by omega
        have hput := fill_put (off := k0 * s) (v := ρ' x) (cs := zc) hle'
        have hzs : ((ρ' x).cells.zipIdx.foldl (fun cs (x : Value × Nat) => cs.setIfInBounds (k0 * s + x.2) x.1) zc).size = zc.size := by
          have := congrArg List.length hput
          simp at this
          simp
          omega
        obtain ⟨cells, k, hc1, hc2, hc3, hc4, hc5⟩ := fill_seq hρ ps (k0 + 1) r _ hpr (by rw [hzs, Nat.add_mul]; omega)
        refine ⟨cells, (ρ' x).cells.toList :: k, ?_, ?_, .cons hF hc3, ?_, ?_⟩
        · simp only [List.map_cons, Instr.fill]
          rw [if_neg (by simp; omega)]
          exact hc1
        · rw [hc2, hput, hsz]
          have hl : (zc.toList.take (k0 * s)).length = k0 * s := by simp; omega
          have hl2 : (ρ' x).cells.toList.length = s := by simpa using hsz
          have e1 : (k0 + 1) * s = k0 * s + s := by rw [Nat.add_mul]; omega
          rw [e1]
          have t1 : (List.take (k0 * s) zc.toList ++ (ρ' x).cells.toList ++ List.drop (k0 * s + s) zc.toList).take (k0 * s + s) = List.take (k0 * s) zc.toList ++ (ρ' x).cells.toList := by
            rw [List.take_append_of_le_length (by rw [List.length_append, hl, hl2]; exact Nat.le_refl _), List.take_of_length_le (by rw [List.length_append, hl, hl2]; exact Nat.le_refl _)]
          have t2 : (List.take (k0 * s) zc.toList ++ (ρ' x).cells.toList ++ List.drop (k0 * s + s) zc.toList).drop (k0 * s + s + ps.length * s) = zc.toList.drop (k0 * s + s + ps.length * s) := by
            rw [List.drop_append, List.drop_eq_nil_of_le (by rw [List.length_append, hl, hl2]; omega), List.length_append, hl, hl2, List.drop_drop]
            simp only [List.nil_append]
            congr 1
            omega
          rw [t1, t2]
          simp only [List.flatten_cons, List.append_assoc, List.length_cons, Nat.add_mul, Nat.one_mul]
          rw [show k0 * s + (ps.length * s + s) = k0 * s + s + ps.length * s by omega]
        · intro y hy
          cases hy with
          | head => simpa using hsz
          | tail _ hy => exact hc4 y hy
        · intro y hy
          cases hy with
          | head => exact h1
          | tail _ hy => exact hc5 y hy
      · cases hp
    · cases hp

theorem partsSl_len : ∀ (ps : List (Nat × AV)) (s i : Nat) (l : List (List AC)), partsSl ps s i = some l → l.length = ps.length
  | [], s, i, l, h => by simp [partsSl] at h; subst h; rfl
  | (k, x) :: ps, s, i, l, h => by
    simp only [partsSl] at h
    split at h
    · rename_i lx r hcx hpr
      split at h
      · simp only [Option.some.injEq] at h
        subst h
        simp [partsSl_len ps s (i + 1) r hpr]
      · cases h
    · cases h

theorem h_buildSlice (hG : GOk G.toCtx) (hρ : OpsOk m ρ ρ') (H : HR B m h w) (hB : B ≤ w.heap.size) {t e : TypeId} {len : Nat} {ps : Array (Nat × Operand)} (ho : o.op = .buildSlice t len ps) {ti te : TI} (ht : lookT G.T t = some ti) (hu : ti.u = .slice e)
    (hte : lookT G.T e = some te) {l : List (List AC)} (hp : partsSl (ps.toList.map fun p => (p.1, ρ p.2)) te.size 0 = some l) (hl : l.length = len) (hbig : len * te.size ≤ 16777216) :
    HOk G.P B m h w ρ' o (.c (.sl h.length 0 len)) (h ++ [some ⟨e, true, .lst te.size l (ofCells te.zero)⟩]) := by
  have hut := hG.c.t.u t ti ht
  rw [hu] at hut
  obtain ⟨inf, z, hi, hs, _, hz, hzc⟩ := hG.c.t.i _ _ hte
  have hpl := partsSl_len _ _ _ _ hp
  simp only [List.length_map] at hpl
  have hps : ps.toList.length = len := by rw [← hpl, hl]
  obtain ⟨cells, k, hc1, hc2, hc3, hc4, hc5⟩ := fill_seq hρ ps.toList 0 l ((Array.range (len * te.size)).map (z.cells[· % z.cells.size]!)) hp (by rw [hps]; simp)
  have hck : cells.toList = k.flatten := by
    rw [hc2, hps]
    simp only [Nat.zero_mul, List.take_zero, List.nil_append, Nat.zero_add]
    rw [List.drop_eq_nil_of_le (by simp)]
    simp
  have hkl : k.length = len := by rw [← hc3.length, hl]
  have hcsz : cells.size = len * te.size := by
    have h1 := congrArg List.length hck
    simp only [Array.length_toList, List.length_flatten] at h1
    rw [h1]
    have : ∀ (k : List (List Value)), (∀ x ∈ k, x.length = te.size) → (k.map List.length).sum = k.length * te.size := by
      intro k
      induction k with
      | nil => intro _; simp
      | cons x k ih => intro hk; simp [ih (fun y hy => hk y (by simp [hy])), hk x (by simp), Nat.add_mul]; omega
    rw [this k hc4, hkl]
  have hrun : (execOp ρ' o).run G.P w = .ok (.value (.slice (some ⟨w.heap.size, 0, none⟩) len len)) (w.alloc (.cells cells e)) := by
    simp only [execOp, ho]
    have hfill : Instr.fill (fun i => some (i * te.size, te.size)) ((Array.range (len * te.size)).map (z.cells[· % z.cells.size]!)) (ps.map fun p => (p.1, ρ' p.2)).toList = some cells := by
      rw [← hc1]; congr 1; simp
    simp only [Sem.run_bind, Instr.buildSlice, run_underlying' hut, Result.andThen_ok, run_sizeOf' hi, hs]
    rw [if_neg (by show ¬ len * te.size > 2 ^ 24; omega)]
    by_cases h0 : len * te.size = 0
    · have : (Array.range (len * te.size)).map (fun x => (#[] : Array Value)[x % (#[] : Array Value).size]!) = (Array.range (len * te.size)).map (z.cells[· % z.cells.size]!) := by rw [h0]; simp
      simp only [if_pos h0, Sem.run_pure, Result.andThen_ok, Sem.run_bind]
      rw [this, hfill]
      simp [Sem.run_bind, run_newRow]
    · simp only [h0, if_false, Sem.run_bind, run_zero' hi hz, Result.andThen_ok, Sem.run_pure]
      rw [hfill]
      simp [Sem.run_bind, run_newRow]
  have hel : ∀ i, i < len → ∃ x y, l[i]? = some x ∧ k[i]? = some y ∧ F2 (CR m) x y := fun i hi => by
    obtain ⟨y, hy, hr⟩ := hc3.get i (l[i]'(by omega)) (by simp)
    exact ⟨_, y, by simp, hy, hr⟩
  have hgd : ∀ i x, l[i]? = some x → (Cont.lst te.size l (ofCells te.zero)).el i = x := fun i x hx => by
    simp [Cont.el, List.getD_eq_getElem?_getD, hx]
  obtain ⟨p, hps', hpA, hcap, hpi, hst⟩ := newPtr H hB (t := e) (c := .lst te.size l (ofCells te.zero)) (cs := cells) (fun i hi => by
      have hi' : i < len := by simpa [Cont.n, hl] using hi
      obtain ⟨x, y, hx, hy, hF⟩ := hel i hi'
      rw [hgd i x hx, hF.length, hc4 y (List.mem_of_getElem? hy)]
      rfl) (by simp [Cont.n, Cont.sz, hl, hcsz]) (fun i j a hi ha => by
      have hi' : i < len := by simpa [Cont.n, hl] using hi
      obtain ⟨x, y, hx, hy, hF⟩ := hel i hi'
      rw [hgd i x hx] at ha
      obtain ⟨q, hq, hr⟩ := hF.get j a ha
      have := flatten_get hc4 i j y q hy hq
      rw [← hck] at this
      exact ⟨q, by simpa [Cont.sz] using this, hr, hc5 y (List.mem_of_getElem? hy) q (List.mem_of_getElem? hq)⟩)
  refine ⟨_, _, _, .inl hrun, hst, ⟨p, _, _, hpi, rfl, ⟨Nat.le_refl _, fun e => nomatch e⟩, fun _ => ⟨hpA.symm, by rw [hcap]; simp [Cont.n, hl]⟩, fun _ => ⟨_, hpA, rfl, by simp⟩⟩⟩

theorem h_makeSlice (hG : GOk G.toCtx) (hρ : OpsOk m ρ ρ') (H : HR B m h w) (hB : B ≤ w.heap.size) {t e : TypeId} {l c : Operand} (ho : o.op = .makeSlice t l c) {ti te : TI} (ht : lookT G.T t = some ti) (hu : ti.u = .slice e)
    (hte : lookT G.T e = some te) {k1 k2 : IntKind} {n : Int} (hl : ρ l = .c (.v (.int k1 n))) (hc : ρ c = .c (.v (.int k2 n))) (h0 : 0 ≤ n) (hbig : n.toNat * te.bytes ≤ 16777216) :
    HOk G.P B m h w ρ' o (.c (.sl h.length 0 n.toNat)) (h ++ [some ⟨e, true, .row te.size n.toNat fun _ => te.zero⟩]) := by
  have hut := hG.c.t.u t ti ht
  rw [hu] at hut
  obtain ⟨inf, z, hi, hs, hby, hz, hzc⟩ := hG.c.t.i _ _ hte
  have hb0 := hG.c.bytes _ _ hte
  have hsz0 := (hG.c.one _ _ hte).1
  have hzl := hG.c.t.zlen _ _ hte
  have hz1 := hG.c.t.zone _ _ hte
  have hlv : ρ' l = .int k1 n := by have := hρ l; rw [hl] at this; exact this
  have hcv : ρ' c = .int k2 n := by have := hρ c; rw [hc] at this; exact this
  have hbn : (inf.bytes : Int) * n ≤ 16777216 := by
    rw [hby]
    have h1 : ((n.toNat * te.bytes : Nat) : Int) = te.bytes * n := by
      rw [Int.natCast_mul, Int.toNat_of_nonneg h0, Int.mul_comm]
    omega
  have hn63 : n ≤ 16777216 := by
    have h1 : (1 : Int) * n ≤ (inf.bytes : Int) * n := Int.mul_le_mul_of_nonneg_right (by rw [hby]; omega) h0
    omega
  have hmk := run_make (P := G.P) w t e inf z hut hi hz k1 k2 n n h0 (Int.le_refl _) (by omega) (by omega)
  have hrun : (execOp ρ' o).run G.P w = .ok (.value (.slice (some ⟨w.heap.size, 0, none⟩) n.toNat n.toNat)) (w.alloc (.cells (madeCells z.cells (n.toNat * inf.size)) e)) := by
    simp only [execOp, ho, hlv, hcv, Sem.run_bind, hmk, Result.andThen_ok]
    rfl
  have hcs : z.cells.size = te.size := by rw [← hzl, ← hzc]; simp
  have hlen : (te.zero).length = te.size := hzl
  obtain ⟨p, hps, hpA, hcap, hpi, hst⟩ := newPtr H hB (t := e) (c := .row te.size n.toNat fun _ => te.zero) (cs := madeCells z.cells (n.toNat * inf.size)) (fun i _ => by simp [Cont.el, Cont.sz, ofCells, hlen]) (by simp [Cont.n, Cont.sz, size_madeCells, hs]) (fun i j a hi ha => by
    have hi' : i < n.toNat := hi
    simp only [Cont.el, ofCells, List.getElem?_map, Option.map_eq_some_iff] at ha
    obtain ⟨x, hx, rfl⟩ := ha
    have hj : j < te.size := by rw [← hlen]; exact (List.getElem?_eq_some_iff.1 hx).1
    have hlt : i * te.size + j < n.toNat * te.size := by
      have : (i + 1) * te.size ≤ n.toNat * te.size := Nat.mul_le_mul_right _ hi'
      rw [Nat.add_mul] at this
      omega
    refine ⟨x, ?_, rfl, hz1 x (List.mem_of_getElem? hx)⟩
    have hmod : (i * te.size + j) % te.size = j := by rw [Nat.mul_comm, Nat.mul_add_mod]; exact Nat.mod_eq_of_lt hj
    have hzx : z.cells[j]? = some x := by rw [← hzc] at hx; simpa using hx
    have hzj : z.cells[j]! = x := by simp [Array.getElem!_eq_getD, Array.getD_eq_getD_getElem?, hzx]
    show (madeCells z.cells (n.toNat * inf.size))[i * te.size + j]? = some x
    simp only [madeCells, hs, Array.getElem?_map, Array.getElem?_range, hlt, if_true, Option.map_some, hcs, hmod, hzj])
  exact ⟨_, _, _, .inl hrun, hst, ⟨p, _, _, hpi, rfl, ⟨Nat.le_refl _, fun e => nomatch e⟩, fun _ => ⟨hpA.symm, by rw [hcap]; simp [Cont.n]⟩, fun _ => ⟨_, hpA, rfl, by simp⟩⟩⟩
end
end
section
open Go Go.RowKit

theorem splice_get {α : Type} {L l : List α} {q : Nat} (h : q + l.length ≤ L.length) (k : Nat) :
    (splice L q l)[k]? = if k < q then L[k]? else if k < q + l.length then l[k - q]? else L[k]? := by
  unfold splice
  have hq : (L.take q).length = q := by simp; omega
  by_cases h1 : k < q
  · rw [if_pos h1, List.append_assoc, List.getElem?_append_left (by omega), List.getElem?_take, if_pos h1]
  · rw [if_neg h1]
    by_cases h2 : k < q + l.length
    · rw [if_pos h2, List.getElem?_append_left (by rw [List.length_append, hq]; exact h2), List.getElem?_append_right (by omega), hq]
    · rw [if_neg h2, List.getElem?_append_right (by rw [List.length_append, hq]; omega), List.length_append, hq, List.getElem?_drop]
      congr 1
      omega
theorem splice_len {α : Type} {L l : List α} {q : Nat} (h : q + l.length ≤ L.length) : (splice L q l).length = L.length := by
  unfold splice
  simp
  omega

section
variable {G : Ctx2} {o : Oper} {ρ : Operand → AV} {ρ' : Operand → Value} {h h' : AHeap} {w w' : World} {B : Nat} {m : List Pl} {v : AV}

theorem at_some {id : Nat} {b : ABlk} (hb : h.at id = some b) : h[id]? = some (some b) := by
  unfold AHeap.at at hb
  cases e : h[id]? with
  | none => simp [e] at hb
  | some o => rw [e] at hb; simp at hb; rw [hb]

/-- One block written. -/
theorem HR.set (H : HR B m h w) {id : Nat} {b b' : ABlk} {p : Pl} {A : Addr} (hid : h[id]? = some (some b)) (hp : m[id]? = some p) (ho : b.own = true) (ho' : b'.own = true) (hA : p.A = some A)
    (hw : ∀ k, k ≠ A.block → w'.heap[k]? = w.heap[k]?) (hnew : BR B m b' p w') : HR B m (setAt h id b') w' := by
  have hAB : B ≤ A.block := (((H.blk id b p hid hp).own ho).2 A hA).2.2.1
  have hlt : id < h.length := (List.getElem?_eq_some_iff.1 hid).1
  have hset : ∀ {i : Nat} {c : ABlk}, (setAt h id b')[i]? = some (some c) → (i = id ∧ c = b') ∨ (i ≠ id ∧ h[i]? = some (some c)) := by
    intro i c hc
    unfold setAt at hc
    by_cases e : i = id
    · subst e
      rw [List.getElem?_set_self hlt] at hc
      left
      exact ⟨rfl, by simpa using hc.symm⟩
    · rw [List.getElem?_set_ne (fun e' => e e'.symm)] at hc
      exact .inr ⟨e, hc⟩
  refine { len := by simp [setAt, H.len], blk := ?_, apart := ?_ }
  · intro i c q hc hq
    rcases hset hc with ⟨rfl, rfl⟩ | ⟨hne, hc⟩
    · have : q = p := by rw [hp] at hq; cases hq; rfl
      subst this
      exact hnew
    · have hbr := H.blk i c q hc hq
      refine hbr.keep fun A' hA' hlt' hor => hw _ ?_
      by_cases hco : c.own = true
      · exact H.apart i id c b q p A' A hne hc hid hco ho hq hp hA' hA
      · have hcf : c.own = false := by simpa using hco
        have hn : 0 < c.c.n := by rcases hor with h0 | h0; exact h0; exact absurd h0 hco
        have := hbr.came hcf A' hA' hn
        omega
  · intro i i' c c' q q' A1 A2 hne hc hc' hoc hoc' hq hq' hA1 hA2
    have conv : ∀ {i : Nat} {c : ABlk}, (setAt h id b')[i]? = some (some c) → c.own = true → ∃ c0, h[i]? = some (some c0) ∧ c0.own = true := by
      intro i c hc hoc
      rcases hset hc with ⟨rfl, rfl⟩ | ⟨_, hc⟩
      · exact ⟨b, hid, ho⟩
      · exact ⟨c, hc, hoc⟩
    obtain ⟨c0, h0, h0o⟩ := conv hc hoc
    obtain ⟨c1, h1, h1o⟩ := conv hc' hoc'
    exact H.apart i i' c0 c1 q q' A1 A2 hne h0 h1 h0o h1o hq hq' hA1 hA2

theorem Own.set {id : Nat} {b b' : ABlk} {k : Nat} (hid : h[id]? = some (some b)) (ho : b.own = true) (hk : Own m (setAt h id b') k) : Own m h k := by
  obtain ⟨i, c, q, A, hc, hoc, hq, hA, rfl⟩ := hk
  by_cases e : i = id
  · subst e
    exact ⟨i, b, q, A, hid, ho, hq, hA, rfl⟩
  · unfold setAt at hc
    rw [List.getElem?_set_ne (fun e' => e e'.symm)] at hc
    exact ⟨i, c, q, A, hc, hoc, hq, hA, rfl⟩

/-- Cells j.. of element i written. -/
theorem BR.store {b b' : ABlk} {p : Pl} {A : Addr} (hb : BR B m b p w) (ho : b.own = true) (ho' : b'.own = true) (ht : b'.t = b.t) (hA : p.A = some A) {i j : Nat} (hi : i < b.c.n) {cl : List AC} {xs : List Value} (hF : F2 (CR m) cl xs) (h1 : ∀ x ∈ xs, oneV x = true)
    (hj : j + cl.length ≤ b.c.sz) (hn : b'.c.n = b.c.n) (hs : b'.c.sz = b.c.sz) (hel : ∀ k, k < b.c.n → b'.c.el k = if k = i then splice (b.c.el i) j cl else b.c.el k)
    {cs cs' : Array Value} (hold : w.heap[A.block]? = some (.cells cs b.t (0, 0))) (hnew : w'.heap[A.block]? = some (.cells cs' b.t (0, 0))) (hcs : cs'.toList = splice cs.toList (i * p.sz + j) xs) : BR B m b' p w' := by
  have hsz := hb.sz
  obtain ⟨hA0, hAsp, hAB, cs0, hc0, hcsz⟩ := (hb.own ho).2 A hA
  have hcc : cs0 = cs := by rw [hold] at hc0; cases hc0; rfl
  subst hcc
  have hxl : xs.length = cl.length := hF.length.symm
  have hle : i * p.sz + j + xs.length ≤ cs0.toList.length := by
    have h2 : i * p.sz + p.sz ≤ p.cap * p.sz := by
      have : (i + 1) * p.sz ≤ p.cap * p.sz := Nat.mul_le_mul_right _ (Nat.le_trans hi hb.cap)
      rwa [Nat.add_mul, Nat.one_mul] at this
    simp only [Array.length_toList]
    omega
  have hlen := splice_len hle
  have hcsz' : cs'.size = cs0.size := by
    have := congrArg List.length hcs
    simpa [hlen] using this
  refine { sz := by rw [hs]; exact hsz, len := ?_, cap := by rw [hn]; exact hb.cap, cell := ?_, own := ?_, came := fun e => by rw [ho'] at e; cases e }
  · intro k hk
    rw [hn] at hk
    rw [hel k hk]
    split
    · rw [splice_len (by rw [hb.len i hi]; omega)]; exact hb.len i hi
    · exact hb.len k hk
  · intro k q a hk ha
    rw [hn] at hk
    rw [hel k hk] at ha
    have hcell : ∀ x, cs'.toList[k * p.sz + q]? = some x → w'.cell? ⟨A.block, A.off + (k * p.sz + q), none⟩ = some x := by
      intro x hx
      simp only [World.cell?, hnew, hA0]
      simpa using hx
    have hold' : ∀ x, w.cell? ⟨A.block, A.off + (k * p.sz + q), none⟩ = some x → cs0.toList[k * p.sz + q]? = some x := by
      intro x hx
      simp only [World.cell?, hold, hA0] at hx
      simpa using hx
    have old : (b.c.el k)[q]? = some a → ¬ (i * p.sz + j ≤ k * p.sz + q ∧ k * p.sz + q < i * p.sz + j + xs.length) → ∃ A x, p.A = some A ∧ A.spot = none ∧ w'.cell? ⟨A.block, A.off + (k * p.sz + q), none⟩ = some x ∧ CR m a x ∧ oneV x = true := by
      intro ha hnot
      obtain ⟨A', x, hA', hsp, hx, hr, h1x⟩ := hb.cell k q a hk ha
      have : A' = A := by rw [hA] at hA'; cases hA'; rfl
      subst this
      refine ⟨A', x, hA', hsp, hcell x ?_, hr, h1x⟩
      rw [hcs, splice_get hle]
      by_cases hlt : k * p.sz + q < i * p.sz + j
      · rw [if_pos hlt]; exact hold' x hx
      · rw [if_neg hlt, if_neg (by omega)]; exact hold' x hx
    split at ha
    · rename_i e
      subst e
      have hspl : j + cl.length ≤ (b.c.el k).length := by rw [hb.len k hi]; omega
      rw [splice_get hspl] at ha
      split at ha
      · exact old ha (by omega)
      · split at ha
        · obtain ⟨x, hx, hr⟩ := hF.get _ _ ha
          refine ⟨A, x, hA, hAsp, hcell x ?_, hr, h1 x (List.mem_of_getElem? hx)⟩
          rw [hcs, splice_get hle, if_neg (by omega), if_pos (by omega), show k * p.sz + q - (k * p.sz + j) = q - j by omega]
          exact hx
        · exact old ha (by omega)
    · rename_i e
      have hq : q < p.sz := by rw [← hb.len k hk]; exact (List.getElem?_eq_some_iff.1 ha).1
      refine old ha ?_
      rcases Nat.lt_or_gt_of_ne e with hlt | hgt
      · have : (k + 1) * p.sz ≤ i * p.sz := Nat.mul_le_mul_right _ hlt
        rw [Nat.add_mul, Nat.one_mul] at this
        omega
      · have : (i + 1) * p.sz ≤ k * p.sz := Nat.mul_le_mul_right _ hgt
        rw [Nat.add_mul, Nat.one_mul] at this
        omega
  · intro _
    refine ⟨(hb.own ho).1, fun A' hA' => ?_⟩
    have : A' = A := by rw [hA] at hA'; cases hA'; rfl
    subst this
    exact ⟨hA0, hAsp, hAB, cs', by rw [ht]; exact hnew, by rw [hcsz']; exact hcsz⟩

theorem run_storeAt {P : Program} {T : List TI} (hT : TOk P T) {t : TypeId} {ti : TI} (ht : lookT T t = some ti) {a : Addr} {x : Value} (hs : x.cells.size = ti.size) {w' : World} (hr : (storeCells a x.cells.toList 0).run P w = .ok () w') :
    (Instr.storeAt t (.pointer (some a)) x).run P w = .ok () w' := by
  obtain ⟨inf, z, hi, hsi, _, _, _⟩ := hT.i _ _ ht
  simp only [Instr.storeAt, Instr.sureAddr, Sem.run_bind, Sem.run_pure, Result.andThen_ok, storeVar, run_sizeOf' hi, hsi]
  rw [if_neg (by simpa using hs)]
  exact hr

theorem valsOf_some : ∀ {l : List AC} {k : List Value}, valsOf l = some k → l = ofCells k
  | [], k, h => by simp [valsOf] at h; subst h; rfl
  | a :: l, k, h => by
    simp only [valsOf] at h
    split at h
    · rename_i x r hx hr
      simp only [Option.some.injEq] at h
      subst h
      cases a <;> simp [valOf] at hx
      subst hx
      rw [valsOf_some hr]
      rfl
    · cases h

theorem ofCells_splice (l k : List Value) (j : Nat) : splice (ofCells l) j (ofCells k) = ofCells (splice l j k) := by
  simp [splice, ofCells]

/-- A store that the abstract machine takes. -/
theorem h_store (hG : GOk G.toCtx) (hρ : OpsOk m ρ ρ') (H : HR B m h w) {t : TypeId} {pp x : Operand} (ho : o.op = .store t pp x) (he : (astore G.T h t (ρ pp) (ρ x)).eval = some h') :
    HOk G.P B m h w ρ' o (.c (.v undef)) h' := by
  unfold astore at he
  split at he
  · rename_i id i j ti hpp hti
    split at he
    · rename_i bt c hb
      have hid := at_some hb
      obtain ⟨p, hp, hbr⟩ := H.at_ hb
      have hpv := hρ pp
      rw [hpp] at hpv
      obtain ⟨p', A, hp', hA, hsp, hpe⟩ := hpv
      have : p' = p := by rw [hp] at hp'; cases hp'; rfl
      subst this
      obtain ⟨hA0, _, hAB, cs, hcs, hcsz⟩ := (hbr.own rfl).2 A hA
      -- what is left when the new cells are known
      have fin : ∀ (b' : ABlk), b'.own = true → (ρ' x).cells.size = ti.size → i * p'.sz + j + (ρ' x).cells.size ≤ cs.size → (∀ y ∈ (ρ' x).cells.toList, oneV y = true) →
          (∀ w' cs', w'.heap[A.block]? = some (.cells cs' bt (0, 0)) → cs'.toList = splice cs.toList (i * p'.sz + j) (ρ' x).cells.toList → BR B m b' p' w') → h' = setAt h id b' → HOk G.P B m h w ρ' o (.c (.v undef)) h' := by
        intro b' hb'o hsz hle h1 hnew hh
        subst hh
        obtain ⟨w', cs', hr, hb', hcs', hother, hsize, hos, htape, hout⟩ := storeCells_run G.P A.block (A.off + (i * p'.sz + j)) bt (ρ' x).cells.toList 0 w cs hcs (by simp [hA0]; omega) h1
        have hcs2 : cs'.toList = splice cs.toList (i * p'.sz + j) (ρ' x).cells.toList := by
          rw [hcs', hA0]; simp [splice]
        refine ⟨undef, w', m, .inr ⟨?_, rfl⟩, ⟨Ext.refl _, H.set hid hp rfl hb'o hA hother (hnew w' cs' hb' hcs2), ⟨hos, htape, hout, by omega, fun k hk hX => hother k fun e => hX ⟨id, _, p', A, hid, rfl, hp, hA, e.symm⟩⟩, fun k hk => .inl (Own.set hid rfl hk)⟩, rfl⟩
        simp only [execOp, ho, Sem.run_bind]
        rw [hpe, run_storeAt hG.c.t hti hsz hr]
        rfl
      have hseg : ∀ {cl : List AC} {xs : List Value}, i < c.n → j + cl.length ≤ c.sz → F2 (CR m) cl xs → i * p'.sz + j + xs.length ≤ cs.size := by
        intro cl xs hi hj hF
        have h2 : (i + 1) * p'.sz ≤ p'.cap * p'.sz := Nat.mul_le_mul_right _ (Nat.le_trans hi hbr.cap)
        rw [Nat.add_mul, Nat.one_mul] at h2
        have := hF.length
        have hs := hbr.sz
        simp only at hs
        omega
      split at he
      · -- an array, whole
        rename_i n f mm g hxv
        split at he
        · rename_i hc
          obtain ⟨rfl, rfl, hsz, hn⟩ := hc
          subst hn
          simp only [Tr.eval, Option.some.injEq] at he
          have hx := hρ x
          rw [hxv] at hx
          simp only [VR] at hx
          obtain ⟨hxe, hone⟩ := hx
          have hps : p'.sz = 1 := hbr.sz
          have hncap : n ≤ p'.cap := hbr.cap
          refine fin _ rfl (by rw [hxe]; simp [Value.cells, hsz]) (by rw [hxe, hcsz, hps]; simp [Value.cells]; omega) (by rw [hxe]; simp only [Value.cells]; intro y hy; simp at hy; obtain ⟨k, hk, rfl⟩ := hy; exact hone k hk) ?_ he.symm
          intro w' cs' hw' hcs'
          have hxl : (ρ' x).cells.toList = (List.range n).map g := by rw [hxe]; rfl
          rw [hxl] at hcs'
          have hle : 0 * p'.sz + 0 + ((List.range n).map g).length ≤ cs.toList.length := by simp [hcsz, hps]; omega
          have hcsz' : cs'.size = cs.size := by
            have := congrArg List.length hcs'
            rw [splice_len hle] at this
            simpa using this
          refine { sz := hbr.sz, len := fun k _ => by simp [Cont.el, ofCells, hps], cap := hbr.cap, cell := ?_, own := ?_, came := fun e => by cases e }
          · intro k q a hk ha
            have hk' : k < n := hk
            simp only [Cont.el, ofCells, List.map_cons, List.map_nil] at ha
            cases q with
            | zero =>
              simp at ha
              subst ha
              refine ⟨A, g k, hA, hsp, ?_, rfl, hone k hk'⟩
              simp only [World.cell?, hw', hA0]
              have : cs'.toList[k]? = some (g k) := by
                rw [hcs', splice_get hle, if_neg (by omega), if_pos (by simp; omega)]
                simp [hk']
              simpa [hps] using this
            | succ q => simp at ha
          · intro _
            refine ⟨(hbr.own rfl).1, fun A' hA' => ?_⟩
            have : A' = A := by rw [hA] at hA'; cases hA'; rfl
            subst this
            exact ⟨hA0, hsp, hAB, cs', hw', by rw [hcsz']; exact hcsz⟩
        · cases he
      · -- a variable
        rename_i l
        split at he
        · rename_i cl hcl
          split at he
          · rename_i hc
            obtain ⟨rfl, hlen, hj⟩ := hc
            simp only [Tr.eval, Option.some.injEq] at he
            obtain ⟨hF, h1⟩ := cellsOf_ok hcl (hρ x)
            have hFl := hF.length
            simp only [Array.length_toList] at hFl
            refine fin _ rfl (by omega) (by simpa using hseg (cl := cl) Nat.zero_lt_one hj hF) h1 ?_ he.symm
            intro w' cs' hw' hcs'
            exact hbr.store rfl rfl rfl hA Nat.zero_lt_one hF h1 hj rfl (by simp [Cont.sz, splice_len hj]) (fun k hk => by
              have : k = 0 := by simp [Cont.n] at hk; exact hk
              subst this
              simp [Cont.el]) hcs hw' hcs'
          · cases he
        · cases he
      · -- an element of a row
        rename_i sz n f _
        split at he
        · rename_i vs hvs
          split at he
          · rename_i hc
            obtain ⟨hlen, hj⟩ := hc
            obtain ⟨hi, he⟩ := Tr.eval_need.1 he
            have hi' : i < n := by simpa using hi
            simp only [Tr.eval, Option.some.injEq] at he
            cases hcl : cellsOf (ρ x) with
            | none => simp [hcl] at hvs
            | some cl =>
              rw [hcl] at hvs
              simp only [Option.bind_some] at hvs
              have hclv := valsOf_some hvs
              obtain ⟨hF, h1⟩ := cellsOf_ok hcl (hρ x)
              have hFl := hF.length
              simp only [Array.length_toList] at hFl
              have hcll : cl.length = vs.length := by rw [hclv]; simp [ofCells]
              refine fin _ rfl (by omega) (by simpa using hseg (cl := cl) hi' (by simp only [Cont.sz]; omega) hF) h1 ?_ he.symm
              intro w' cs' hw' hcs'
              exact hbr.store rfl rfl rfl hA hi' hF h1 (by simp only [Cont.sz]; omega) rfl rfl (fun k hk => by
                simp only [Cont.el, updC, selL_eq]
                by_cases hkk : k = i
                · subst hkk; simp only [decide_true, cond_true, if_true]; rw [hclv, ofCells_splice]
                · simp only [hkk, decide_false, cond_false, if_false]) hcs hw' hcs'
          · cases he
        · cases he
      · -- an element of a literal
        rename_i sz l z
        split at he
        · rename_i cl hcl
          split at he
          · rename_i hc
            obtain ⟨hlen, hj⟩ := hc
            obtain ⟨hi, he⟩ := Tr.eval_need.1 he
            have hi' : i < l.length := by simpa using hi
            simp only [Tr.eval, Option.some.injEq] at he
            obtain ⟨hF, h1⟩ := cellsOf_ok hcl (hρ x)
            have hFl := hF.length
            simp only [Array.length_toList] at hFl
            refine fin _ rfl (by omega) (by simpa using hseg (cl := cl) hi' hj hF) h1 ?_ he.symm
            intro w' cs' hw' hcs'
            exact hbr.store rfl rfl rfl hA hi' hF h1 hj (by simp [Cont.n]) rfl (fun k hk => by
              simp only [Cont.el]
              have hk' : k < l.length := hk
              by_cases e : k = i
              · subst e
                rw [if_pos rfl, List.getD_eq_getElem?_getD, List.getElem?_set_self hk']
                rfl
              · rw [if_neg e, List.getD_eq_getElem?_getD, List.getElem?_set_ne (fun e' => e e'.symm), List.getD_eq_getElem?_getD]) hcs hw' hcs'
          · cases he
        · cases he
    · cases he
  · cases he
end
end
section
open Go Go.RowKit

theorem growBy_le (need : Nat) : ∀ (r c : Nat), c ≤ 2 * need → 256 ≤ need → Builtin.growBy need r c ≤ 2 * need
  | 0, c, h, _ => h
  | r + 1, c, h, h2 => by
    simp only [Builtin.growBy]
    split
    · exact h
    · exact growBy_le need r _ (by omega) h2
theorem nextcap_le {need cap : Nat} (h : cap < need) : Builtin.nextslicecap need cap ≤ 2 * need := by
  unfold Builtin.nextslicecap
  split
  · omega
  · split
    · omega
    · exact growBy_le need 4 cap (by omega) (by omega)

theorem valss_some : ∀ {l : List (List AC)} {k : List (List Value)}, valss l = some k → l = k.map ofCells
  | [], k, h => by simp [valss] at h; subst h; rfl
  | a :: l, k, h => by
    simp only [valss] at h
    split at h
    · rename_i x r hx hr
      simp only [Option.some.injEq] at h
      subst h
      rw [valsOf_some hx, valss_some hr]
      rfl
    · cases h

theorem updL_get : ∀ (l : List (List Value)) (f : Nat → List Value) (n k : Nat), updL f n l k = if k < n then f k else if k < n + l.length then l.getD (k - n) (f k) else f k
  | [], f, n, k => by
    simp only [updL, List.length_nil]
    split
    · rfl
    · rw [if_neg (by omega)]
  | x :: l, f, n, k => by
    simp only [updL]
    rw [updL_get l (upd f n x) (n + 1) k]
    simp only [List.length_cons]
    by_cases h1 : k < n
    · rw [if_pos (by omega), if_pos h1]; simp [upd_def]; omega
    · rw [if_neg h1]
      by_cases h2 : k = n
      · subst h2
        rw [if_pos (by omega), if_pos (by omega)]
        simp [upd_def]
      · rw [if_neg (by omega)]
        by_cases h3 : k < n + (l.length + 1)
        · rw [if_pos (by omega), if_pos h3, show k - n = (k - (n + 1)) + 1 by omega]
          simp [upd_def, h2]
        · rw [if_neg (by omega), if_neg h3]
          simp [upd_def, h2]

theorem rowOf_ok (ti : TI) (c : Cont) : (rowOf ti c).n = c.n ∧ (rowOf ti c).sz = c.sz ∧ ∀ q, q < c.n → (rowOf ti c).el q = c.el q := by
  unfold rowOf
  split
  · rename_i sz l z
    split
    · split
      · rename_i vs hvs
        refine ⟨rfl, rfl, fun q hq => ?_⟩
        have hl := valss_some hvs
        have hq' : q < l.length := hq
        have hlen : l.length = vs.length := by rw [hl]; simp
        simp only [Cont.el, List.getD_eq_getElem?_getD]
        rw [hl]
        simp only [List.getElem?_map]
        rw [List.getElem?_eq_getElem (by omega)]
        rfl
      · exact ⟨rfl, rfl, fun _ _ => rfl⟩
    · exact ⟨rfl, rfl, fun _ _ => rfl⟩
  · exact ⟨rfl, rfl, fun _ _ => rfl⟩

theorem joinC_ok {ti : TI} {c cs c' : Cont} {i m : Nat} (h : joinC ti c (i, m, cs) = some c') (hle : i + m ≤ cs.n) : c'.n = c.n + m ∧ c'.sz = ti.size ∧ ∀ q, q < c.n + m → c'.el q = if q < c.n then c.el q else cs.el (i + (q - c.n)) := by
  cases c with
  | one l => cases cs <;> simp [joinC] at h
  | row sz n f =>
    cases cs with
    | one l => simp [joinC] at h
    | lst sz' l z =>
      simp only [joinC] at h
      cases hv : valss ((l.drop i).take m) with
      | none => simp [hv] at h
      | some vs =>
        rw [hv] at h
        simp only [Option.map_some, Option.some.injEq] at h
        subst h
        have hl := valss_some hv
        have hle' : i + m ≤ l.length := hle
        have hvl : vs.length = m := by
          have := congrArg List.length hl
          simp at this
          omega
        refine ⟨rfl, rfl, fun q hq => ?_⟩
        have hq' : q < n + m := hq
        by_cases h1 : q < n
        · have h1' : q < (Cont.row sz n f).n := h1
          rw [if_pos h1']
          simp only [Cont.el]
          rw [updL_get, if_pos h1]
        · have h1' : ¬ q < (Cont.row sz n f).n := h1
          rw [if_neg h1']
          change _ = (Cont.lst sz' l z).el (i + (q - n))
          simp only [Cont.el]
          rw [updL_get, if_neg h1, if_pos (by omega)]
          have hg : ((l.drop i).take m)[q - n]? = (vs.map ofCells)[q - n]? := by rw [hl]
          rw [List.getElem?_take, if_pos (by omega), List.getElem?_drop, List.getElem?_map] at hg
          rw [List.getD_eq_getElem?_getD, List.getD_eq_getElem?_getD, hg, List.getElem?_eq_getElem (by omega)]
          rfl
    | row sz' n' g =>
      simp only [joinC, Option.some.injEq] at h
      subst h
      refine ⟨rfl, rfl, fun q hq => ?_⟩
      have hq' : q < n + m := hq
      by_cases h1 : q < n
      · have h1' : q < (Cont.row sz n f).n := h1
        rw [if_pos h1']
        simp only [Cont.el, cat]
        rw [if_pos h1]
      · have h1' : ¬ q < (Cont.row sz n f).n := h1
        rw [if_neg h1']
        change _ = (Cont.row sz' n' g).el (i + (q - n))
        simp only [Cont.el, cat]
        rw [if_neg h1, if_pos hq']
  | lst sz l z =>
    cases cs with
    | one l => simp [joinC] at h
    | row sz' n' g => simp [joinC] at h
    | lst sz' l' z' =>
      simp only [joinC, Option.some.injEq] at h
      subst h
      have hle' : i + m ≤ l'.length := hle
      have hln : ((l'.drop i).take m).length = m := by simp; omega
      refine ⟨by simp [Cont.n]; omega, rfl, fun q hq => ?_⟩
      have hq' : q < l.length + m := hq
      by_cases h1 : q < l.length
      · have h1' : q < (Cont.lst sz l z).n := h1
        rw [if_pos h1']
        simp only [Cont.el, List.getD_eq_getElem?_getD]
        rw [List.getElem?_append_left h1]
      · have h1' : ¬ q < (Cont.lst sz l z).n := h1
        rw [if_neg h1']
        change _ = (Cont.lst sz' l' z').el (i + (q - l.length))
        simp only [Cont.el, List.getD_eq_getElem?_getD]
        rw [List.getElem?_append_right (by omega), List.getElem?_take, if_pos (by omega), List.getElem?_drop, List.getElem?_eq_getElem (by omega)]
        rfl

section
variable {G : Ctx2} {o : Oper} {ρ : Operand → AV} {ρ' : Operand → Value} {h h' : AHeap} {w w' : World} {B : Nat} {m : List Pl} {v : AV}

/-- The cells that a slice or a text shows. -/
def Cells (m : List Pl) (c : Cont) (i k : Nat) (cells : List Value) : Prop :=
  cells.length = k * c.sz ∧ (∀ (q j : Nat) a, q < k → (c.el (i + q))[j]? = some a → ∃ y, cells[q * c.sz + j]? = some y ∧ CR m a y ∧ oneV y = true)
    ∧ ∀ q, q < k → (c.el (i + q)).length = c.sz

theorem BR.cellsFrom {b : ABlk} {p : Pl} (hb : BR B m b p w) {i k : Nat} (hle : i + k ≤ b.c.n) (hs : 0 < b.c.sz) (hk : 0 < k) :
    ∃ A cells, p.A = some A ∧ A.spot = none ∧ Cells m b.c i k cells ∧ ∀ (t : Nat) y, cells[t]? = some y → w.cell? ⟨A.block, A.off + (i * p.sz + t), none⟩ = some y := by
  have hsz := hb.sz
  obtain ⟨A, _, hA, hsp, _, _, _⟩ := hb.cells (i := i) (by omega) (by omega)
  have hcell : ∀ t, t < k * b.c.sz → ∃ y, w.cell? ⟨A.block, A.off + (i * p.sz + t), none⟩ = some y ∧ oneV y = true ∧ ∀ a, (b.c.el (i + t / b.c.sz))[t % b.c.sz]? = some a → CR m a y := by
    intro t ht
    have hq : t / b.c.sz < k := Nat.div_lt_of_lt_mul (by rw [Nat.mul_comm]; exact ht)
    have hj : t % b.c.sz < b.c.sz := Nat.mod_lt _ hs
    have hl := hb.len (i + t / b.c.sz) (by omega)
    have hjl : t % b.c.sz < (b.c.el (i + t / b.c.sz)).length := by rw [hl, hsz]; exact hj
    obtain ⟨A', y, hA', _, hy, hr, h1⟩ := hb.cell (i + t / b.c.sz) (t % b.c.sz) _ (by omega) (List.getElem?_eq_getElem hjl)
    have : A' = A := by rw [hA] at hA'; cases hA'; rfl
    subst this
    refine ⟨y, ?_, h1, fun a ha => ?_⟩
    · rw [← hy]
      congr 2
      rw [Nat.add_mul, hsz]
      have := Nat.div_add_mod t b.c.sz
      rw [Nat.mul_comm] at this
      omega
    · rw [List.getElem?_eq_getElem hjl] at ha
      cases ha
      exact hr
  refine ⟨A, (List.range (k * b.c.sz)).map fun t => (w.cell? ⟨A.block, A.off + (i * p.sz + t), none⟩).getD undef, hA, hsp, ⟨by simp, ?_, fun q hq => by rw [hb.len (i + q) (by omega), hsz]⟩, ?_⟩
  · intro q j a hq ha
    have hl := hb.len (i + q) (by omega)
    have hj : j < b.c.sz := by rw [← hsz, ← hl]; exact (List.getElem?_eq_some_iff.1 ha).1
    have ht : q * b.c.sz + j < k * b.c.sz := by
      have : (q + 1) * b.c.sz ≤ k * b.c.sz := Nat.mul_le_mul_right _ hq
      rw [Nat.add_mul, Nat.one_mul] at this
      omega
    obtain ⟨y, hy, h1, hr⟩ := hcell _ ht
    have hd : (q * b.c.sz + j) / b.c.sz = q := by
      rw [Nat.mul_comm, Nat.mul_add_div hs, Nat.div_eq_of_lt hj]; rfl
    have hmo : (q * b.c.sz + j) % b.c.sz = j := by
      rw [Nat.mul_comm, Nat.mul_add_mod]; exact Nat.mod_eq_of_lt hj
    rw [hd, hmo] at hr
    refine ⟨y, ?_, hr a ha, h1⟩
    rw [List.getElem?_map, List.getElem?_range ht]
    simp [hy]
  · intro t y hy
    rw [List.getElem?_map] at hy
    rcases Nat.lt_or_ge t (k * b.c.sz) with ht | ht
    · rw [List.getElem?_range ht] at hy
      obtain ⟨z, hz, _⟩ := hcell t ht
      simp only [Option.map_some, Option.some.injEq] at hy
      rw [hz] at hy
      simp only [Option.getD_some] at hy
      rw [hz, hy]
    · rw [List.getElem?_eq_none (by simpa using ht)] at hy; cases hy

theorem run_loadCells' {P : Program} {a : Addr} {n : Nat} {xs : List Value} (hl : xs.length = n) (hc : ∀ (k : Nat) x, xs[k]? = some x → w.cell? (a.add k) = some x) : (loadCells a n).run P w = .ok xs.toArray w := by
  unfold loadCells
  rw [run_loadCellsFrom' n 0 xs #[] hl fun k x hk => by rw [Nat.zero_add]; exact hc k x hk]
  simp

/-- What is appended. -/
theorem src_ok (P : Program) (H : HR B m h w) {ti : TI} (hs : 0 < ti.size) {a : AV} {x : Value} (ha : VR m a x) {i k : Nat} {c : Cont} (he : srcOf h ti a = some (i, k, c)) (hsz : c.sz = ti.size) (hle : i + k ≤ c.n) :
    ∃ cells : List Value, Cells m c i k cells ∧ (Builtin.lenOf x).run P w = .ok k w ∧ (Builtin.firstCells ti.size k x).run P w = .ok cells.toArray w := by
  unfold srcOf at he
  split at he
  · rename_i id i' n
    cases hb : h.at id with
    | none => simp [hb] at he
    | some b =>
      rw [hb] at he
      simp only [Option.map_some, Option.some.injEq, Prod.mk.injEq] at he
      obtain ⟨rfl, rfl, rfl⟩ := he
      obtain ⟨p, hp, hbr⟩ := H.at_ hb
      obtain ⟨p', A', c', hp', rfl, _, hz, hpos⟩ := ha
      have : p' = p := by rw [hp] at hp'; cases hp'; rfl
      subst this
      rcases Nat.eq_zero_or_pos n with h0 | h0
      · subst h0
        refine ⟨[], ⟨by simp, fun q j a hq => absurd hq (Nat.not_lt_zero _), fun q hq => absurd hq (Nat.not_lt_zero _)⟩, by simp [Builtin.lenOf], ?_⟩
        cases A' with
        | none => simp [Builtin.firstCells]
        | some A => simp [Builtin.firstCells, run_loadCells' (xs := []) (n := 0) rfl (fun k x hk => by simp at hk)]
      · obtain ⟨A, cells, hA, hsp, hC, hcell⟩ := hbr.cellsFrom hle (by omega) h0
        obtain ⟨A2, hA2, _, rfl⟩ := hpos h0
        have : A2 = A := by rw [hA] at hA2; cases hA2; rfl
        subst this
        refine ⟨cells, hC, by simp [Builtin.lenOf], ?_⟩
        simp only [Builtin.firstCells]
        refine run_loadCells' (by rw [hC.1, hsz]) fun t y hy => ?_
        rw [add_none rfl]
        have := hcell t y hy
        simpa [Nat.add_assoc] using this
  · simp only [Option.some.injEq, Prod.mk.injEq] at he
    obtain ⟨rfl, rfl, rfl⟩ := he
    have hx : x = .slice none 0 0 := ha
    subst hx
    exact ⟨[], ⟨by simp, fun q j a hq => absurd hq (Nat.not_lt_zero _), fun q hq => absurd hq (Nat.not_lt_zero _)⟩, by simp [Builtin.lenOf], by simp [Builtin.firstCells]⟩
  · rename_i s
    simp only [Option.some.injEq, Prod.mk.injEq] at he
    obtain ⟨rfl, rfl, rfl⟩ := he
    have hx : x = .string s := ha
    subst hx
    have hsz1 : ti.size = 1 := hsz.symm
    have hd : s.extract 0 s.size = s := by simp
    have hlen : s.data.toList.length = s.size := by simp
    refine ⟨s.data.toList.map fun b => Value.int .u8 b.toNat, ⟨?_, ?_, fun q _ => rfl⟩, by simp [Builtin.lenOf], ?_⟩
    · rw [List.length_map, hlen]
      exact (Nat.mul_one _).symm
    · intro q j a hq ha
      simp only [Cont.el, ofCells, List.map_cons, List.map_nil] at ha
      cases j with
      | zero =>
        simp at ha
        subst ha
        have hq' : q < s.data.toList.length := by rw [hlen]; exact hq
        refine ⟨.int .u8 (bt s q), ?_, rfl, rfl⟩
        simp only [Cont.sz, Nat.mul_one, Nat.add_zero, List.getElem?_map]
        rw [List.getElem?_eq_getElem hq']
        have hb : bt s q = (s.data.toList[q].toNat : Int) := by
          unfold bt
          rw [Int.toNat_natCast, List.getD_eq_getElem?_getD, List.getElem?_eq_getElem hq']
          rfl
        rw [hb]
        rfl
      | succ j => simp at ha
    · simp only [Builtin.firstCells, hd, Sem.run_pure]
      congr 1
      apply Array.ext'
      simp
  · cases he

/-- What is appended to. -/
theorem dst_ok (H : HR B m h w) {ti : TI} {a : AV} {x : Value} (ha : VR m a x) {c : Cont} {nn : Nat} (he : dstOf h ti a = some (h', c, nn)) (hnn : c.n = nn) :
    c.sz = ti.size ∧ ((x = .slice none 0 0 ∧ h' = h ∧ c.n = 0) ∨
      ∃ id b p, h[id]? = some (some b) ∧ b.own = true ∧ m[id]? = some p ∧ BR B m b p w ∧ x = .slice p.A c.n p.cap ∧ h' = h.set id none ∧ b.c.sz = ti.size ∧ b.c.n = c.n ∧ b.t = ti.t ∧ ∀ q, q < c.n → c.el q = b.c.el q) := by
  unfold dstOf at he
  split at he
  · simp only [Option.some.injEq, Prod.mk.injEq] at he
    obtain ⟨rfl, rfl, rfl⟩ := he
    have hx : x = .slice none 0 0 := ha
    refine ⟨by split <;> rfl, .inl ⟨hx, rfl, by split <;> rfl⟩⟩
  · rename_i id n
    split at he
    · rename_i bt c0 hb
      split at he
      · rename_i hc
        obtain ⟨hsz, hbt⟩ := hc
        simp only [Option.some.injEq, Prod.mk.injEq] at he
        obtain ⟨rfl, rfl, rfl⟩ := he
        obtain ⟨p, hp, hbr⟩ := H.at_ hb
        obtain ⟨p', A', c', hp', rfl, _, hz, _⟩ := ha
        have : p' = p := by rw [hp] at hp'; cases hp'; rfl
        subst this
        obtain ⟨rfl, rfl⟩ := hz rfl
        obtain ⟨h1, h2, h3⟩ := rowOf_ok ti c0
        have hn : c0.n = n := by rw [← h1]; exact hnn
        refine ⟨by rw [h2, hsz], .inr ⟨id, _, p', at_some hb, rfl, hp, hbr, by rw [h1, hn], rfl, hsz, h1.symm, hbt, fun q hq => h3 q (by rw [← h1]; exact hq)⟩⟩
      · cases he
    · cases he
  · cases he
end
end
end Go.Proofs.Ytcpahifgdppkbaa.QAI
