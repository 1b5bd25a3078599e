/- '==' of structs whose cells are ints, bools and strings; the facts of a table of types, out of a test. -/
import Derived.Test.YtcpahifgdppkbaaA15
import Derived.Laws.StructEq
set_option linter.unusedVariables false
set_option linter.unusedSimpArgs false
namespace Go.Proofs.Ytcpahifgdppkbaa.QAI
open Go Go.RowKit

def kindD : TypeDesc → Nat
  | .int _ => 1
  | .bool => 2
  | .string => 3
  | _ => 0

def eqKindsFs (g : TypeId → Option (List Nat)) (T : List TI) : List Field → Nat → Option (List Nat)
  | [], _ => some []
  | f :: fs, off =>
    if f.name == "_" || f.offset != off then none else
    match lookT T f.type, g f.type, eqKindsFs g T fs (off + ((lookT T f.type).map TI.size).getD 0) with
    | some ti, some ks, some r => if ks.length = ti.size then some (ks ++ r) else none
    | _, _, _ => none

def eqKinds (P : Program) (T : List TI) : Nat → TypeId → Option (List Nat)
  | 0, _ => none
  | d + 1, t =>
    match lookT T t with
    | some ti =>
      if ti.agg then
        match ti.u with
        | .struct fs => if P.stoodInHeld t then none else eqKindsFs (eqKinds P T d) T fs.toList 0
        | _ => none
      else if kindD ti.u = 0 then none else some [kindD ti.u]
    | none => none

theorem ceqs_split : ∀ {l k : List AC} {r : Bool} (n : Nat), ceqs l k = some r → ∃ r1 r2, ceqs (l.take n) (k.take n) = some r1 ∧ ceqs (l.drop n) (k.drop n) = some r2 ∧ r = (r1 && r2)
  | l, k, r, 0, h => ⟨true, r, by simp [ceqs], by simpa using h, by simp⟩
  | [], [], r, n + 1, h => ⟨true, true, by simp [ceqs], by simp [ceqs], by simpa [ceqs] using h.symm⟩
  | [], y :: k, r, n + 1, h => by simp [ceqs] at h
  | x :: l, [], r, n + 1, h => by simp [ceqs] at h
  | x :: l, y :: k, r, n + 1, h => by
    simp only [ceqs] at h
    split at h
    · rename_i a b ha hb
      obtain ⟨r1, r2, h1, h2, e⟩ := ceqs_split n hb
      cases h
      exact ⟨a && r1, r2, by simp [ceqs, ha, h1], by simpa using h2, by rw [e, Bool.and_assoc]⟩
    · cases h

section
variable {P : Program} {T : List TI} {m : List Pl}

def packV (ti : TI) (xs : List Value) : Value := if ti.agg then .agg xs.toArray else xs.headD undef

theorem eqf_ok (hT : TOk P T) (h1 : ∀ t ti, lookT T t = some ti → ti.agg = false → ti.size = 1) {D : Nat} {g : TypeId → Option (List Nat)}
    (hg : ∀ t ks ti, g t = some ks → lookT T t = some ti → ∀ (lx ly : List AC) (xs ys : List Value) r (w : World), lx.map kindAC = ks → ceqs lx ly = some r → F2 (CR m) lx xs → F2 (CR m) ly ys → (Op.equalIn D t (packV ti xs) (packV ti ys)).run P w = .ok r w) :
    ∀ (fs : List Field) (off : Nat) (ks : List Nat), eqKindsFs g T fs off = some ks → ∀ (lx ly : List AC) (xs ys : Array Value) r (w : World), lx.map kindAC = ks → ceqs lx ly = some r → F2 (CR m) lx (xs.toList.drop off) → F2 (CR m) ly (ys.toList.drop off) →
      (Op.eqFields D xs ys fs).run P w = .ok r w
  | [], off, ks, hk, lx, ly, xs, ys, r, w, hks, hr, hx, hy => by
    simp only [eqKindsFs, Option.some.injEq] at hk
    subst hk
    have : lx = [] := by simpa using hks
    subst this
    have hly : ly = [] := by
      cases ly with
      | nil => rfl
      | cons a l => simp [ceqs] at hr
    subst hly
    simp only [ceqs, Option.some.injEq] at hr
    subst hr
    simp [Op.eqFields]
  | f :: fs, off, ks, hk, lx, ly, xs, ys, r, w, hks, hr, hx, hy => by
    simp only [eqKindsFs] at hk
    split at hk
    · cases hk
    · rename_i hc
      simp only [Bool.or_eq_true, beq_iff_eq, bne_iff_ne, ne_eq, not_or, Decidable.not_not] at hc
      obtain ⟨hn, ho⟩ := hc
      split at hk
      · rename_i ti k0 r0 hti hk0 hr0
        split at hk
        · rename_i hlen
          simp only [Option.some.injEq] at hk
          subst hk
          rw [hti] at hr0
          simp only [Option.map_some, Option.getD_some] at hr0
          obtain ⟨r1, r2, e1, e2, rfl⟩ := ceqs_split ti.size hr
          have hlx : lx.length = k0.length + r0.length := by
            have := congrArg List.length hks
            simpa using this
          have hlen2 : ∀ {l k : List AC} {r : Bool}, ceqs l k = some r → l.length = k.length := by
            intro l
            induction l with
            | nil => intro k r h; cases k <;> simp [ceqs] at h ⊢
            | cons a l ih =>
              intro k r h
              cases k with
              | nil => simp [ceqs] at h
              | cons b k =>
                simp only [ceqs] at h
                split at h
                · rename_i _ _ _ hb
                  simp [ih hb]
                · cases h
          have hly := hlen2 hr
          have hkt : (lx.take ti.size).map kindAC = k0 := by rw [List.map_take, hks, ← hlen]; simp
          have hkd : (lx.drop ti.size).map kindAC = r0 := by rw [List.map_drop, hks, ← hlen]; simp
          have hpx : ∀ (zs : Array Value) (l : List AC), l.length = lx.length → F2 (CR m) l (zs.toList.drop off) → (part f.type zs f.offset).run P w = .ok (packV ti ((zs.toList.drop off).take ti.size)) w := by
            intro zs l hl hz
            rw [ho]
            refine run_field' hT hti ?_ rfl (h1 _ _ hti)
            have := hz.length
            rw [List.length_take]
            omega
          have hA := hpx xs lx rfl hx
          have hB := hpx ys ly hly.symm hy
          have hE := hg f.type k0 ti hk0 hti _ _ _ _ r1 w hkt e1 (hx.take ti.size) (hy.take ti.size)
          have hR := eqf_ok hT h1 hg fs (off + ti.size) r0 hr0 (lx.drop ti.size) (ly.drop ti.size) xs ys r2 w hkd e2 (by have := hx.drop ti.size; rwa [List.drop_drop] at this) (by have := hy.drop ti.size; rwa [List.drop_drop] at this)
          have hn' : f.name ≠ "_" := hn
          rw [Op.eqFields]
          simp only [if_pos hn', Sem.run_bind, hA, hB, hE, Result.andThen_ok]
          cases r1
          · simp
          · simpa using hR
        · cases hk
      · cases hk

theorem eqk_ok (hT : TOk P T) (h1 : ∀ t ti, lookT T t = some ti → ti.agg = false → ti.size = 1) :
    ∀ (d : Nat) t ks ti, eqKinds P T d t = some ks → lookT T t = some ti → ∀ D, d ≤ D → ∀ (lx ly : List AC) (xs ys : List Value) r (w : World), lx.map kindAC = ks → ceqs lx ly = some r → F2 (CR m) lx xs → F2 (CR m) ly ys →
      (Op.equalIn D t (packV ti xs) (packV ti ys)).run P w = .ok r w
  | 0, t, ks, ti, hk, _, D, hD, lx, ly, xs, ys, r, w, hks, hr, hx, hy => by simp [eqKinds] at hk
  | d + 1, t, ks, ti, hk, ht, D, hD, lx, ly, xs, ys, r, w, hks, hr, hx, hy => by
    obtain ⟨D, rfl⟩ : ∃ D', D = D' + 1 := ⟨D - 1, by omega⟩
    have hu := hT.u t ti ht
    simp only [eqKinds, ht] at hk
    split at hk
    · rename_i hagg
      split at hk
      · rename_i fs hfs
        split at hk
        · cases hk
        · rename_i hst
          rw [hfs] at hu
          have hf : P.fieldsOf t = fs := by simp [Program.fieldsOf, hu]
          simp only [packV, hagg, if_true]
          rw [run_equalIn_struct (P := P) w D t _ _ (by rw [hf]; exact hu) (by simpa using hst), hf]
          exact eqf_ok hT h1 (D := D) (g := eqKinds P T d) (fun t' ks' ti' hk' ht' lx' ly' xs' ys' r' w' a b c e => eqk_ok hT h1 d t' ks' ti' hk' ht' D (by omega) lx' ly' xs' ys' r' w' a b c e) fs.toList 0 ks hk lx ly xs.toArray ys.toArray r w hks hr (by simpa using hx) (by simpa using hy)
      · cases hk
    · rename_i hagg
      split at hk
      · cases hk
      · simp only [Option.some.injEq] at hk
        subst hk
        have hag : ti.agg = false := by simpa using hagg
        simp only [packV, hag, Bool.false_eq_true, if_false]
        obtain ⟨a, rfl⟩ : ∃ a, lx = [a] := by
          cases lx with
          | nil => simp at hks
          | cons a l => cases l with
            | nil => exact ⟨a, rfl⟩
            | cons b l => simp at hks
        simp only [List.map_cons, List.map_nil, List.cons.injEq, and_true] at hks
        cases ly with
        | nil => simp [ceqs] at hr
        | cons b l =>
          cases l with
          | cons c l => simp only [ceqs] at hr; split at hr <;> (try cases hr); rename_i h; simp [ceqs] at h
          | nil =>
            simp only [ceqs] at hr
            obtain ⟨c, hc⟩ : ∃ c, ceq a b = some c := by
              cases e : ceq a b with
              | none => rw [e] at hr; cases hr
              | some c => exact ⟨c, rfl⟩
            rw [hc] at hr
            simp only [Bool.and_true, Option.some.injEq] at hr
            subst hr
            cases hx with
            | cons hxa hxr =>
            cases hxr
            cases hy with
            | cons hyb hyr =>
            cases hyr
            simp only [List.headD_cons]
            unfold ceq at hc
            split at hc
            · rename_i k p k' q
              split at hc
              · rename_i hkk
                subst hkk
                cases hc
                cases (show _ = _ from hxa)
                cases (show _ = _ from hyb)
                cases hd : ti.u <;> rw [hd] at hks <;> simp [kindAC, kindD] at hks
                rw [hd] at hu
                exact run_equalIn_int (P := P) w D t _ _ _ _ hu
              · cases hc
            · cases hc
              cases (show _ = _ from hxa)
              cases (show _ = _ from hyb)
              cases hd : ti.u <;> rw [hd] at hks <;> simp [kindAC, kindD] at hks
              rw [hd] at hu
              exact run_equalIn_bool' (P := P) w D t _ _ hu
            · cases hc
              cases (show _ = _ from hxa)
              cases (show _ = _ from hyb)
              cases hd : ti.u <;> rw [hd] at hks <;> simp [kindAC, kindD] at hks
              rw [hd] at hu
              rw [run_equalIn_string (P := P) w D t _ _ hu, ← beq_toListBytes]
            · cases hc

/-- What the kernel looks at. -/
def tiFact (P : Program) (i : TI) : Option (TypeDesc × Nat × Nat × Option (List Value)) :=
  match P.underlying i.t, P.info? i.t with
  | some u, some x => some (u, x.size, x.bytes, x.zero.map fun z => z.cells.toList)
  | _, _ => none
def tiWant (i : TI) : Option (TypeDesc × Nat × Nat × Option (List Value)) := some (i.u, i.size, i.bytes, some i.zero)
def tiTest (T : List TI) (i : TI) : Bool :=
  (i.agg == isAggD i.u) && i.zero.length == i.size && i.zero.all oneV && decide (0 < i.size) && (i.agg || i.size == 1) && decide (0 < i.bytes) &&
    (match i.u with | .struct fs => fs.toList.all fun f => (lookT T f.type).isSome | _ => true)
def shapeTest (i : TI) : Prop := ∀ n s, i.shape = some (n, s) → s = 1 ∧ i.agg = true ∧ i.size = n ∧ i.zero = List.replicate n (i.zero.headD undef) ∧ 0 < n

theorem lookT_mem {t : TypeId} {ti : TI} (h : lookT T t = some ti) : ti ∈ T ∧ ti.t = t := ⟨List.mem_of_find?_eq_some h, lookT_t h⟩

theorem tab_facts {G : Ctx} (hf : G.T.map (tiFact G.P) = G.T.map tiWant) (ht : G.T.all (tiTest G.T) = true) (hs : ∀ i ∈ G.T, shapeTest i)
    (he : G.eqs.all (fun p => !G.P.eqGuardType G.P.depth p.1 && eqKinds G.P G.T 9 p.1 == some p.2 && ((lookT G.T p.1).map TI.agg == some true)) = true) : GOk G ∧ FOk G := by
  have hfact : ∀ i ∈ G.T, tiFact G.P i = tiWant i := fun i hi => by
    obtain ⟨n, hn, e⟩ := List.getElem_of_mem hi
    have := congrArg (fun l => l[n]?) hf
    simp only [List.getElem?_map, List.getElem?_eq_getElem hn, Option.map_some, Option.some.injEq] at this
    rw [← e]
    exact this
  have htest : ∀ i ∈ G.T, tiTest G.T i = true := fun i hi => List.all_eq_true.1 ht i hi
  have hT : TOk G.P G.T := by
    refine ⟨?_, ?_, ?_, ?_, ?_, ?_⟩
    · intro t ti h
      obtain ⟨hm, rfl⟩ := lookT_mem h
      have := hfact ti hm
      unfold tiFact tiWant at this
      split at this
      · rename_i u x hu hx
        simp only [Option.some.injEq, Prod.mk.injEq] at this
        rw [hu, this.1]
      · cases this
    · intro t ti h
      obtain ⟨hm, rfl⟩ := lookT_mem h
      have := hfact ti hm
      unfold tiFact tiWant at this
      split at this
      · rename_i u x hu hx
        simp only [Option.some.injEq, Prod.mk.injEq] at this
        obtain ⟨_, e1, e2, e3⟩ := this
        cases hz : x.zero with
        | none => rw [hz] at e3; cases e3
        | some z =>
          rw [hz] at e3
          simp only [Option.map_some, Option.some.injEq] at e3
          exact ⟨x, z, hx, e1, e2, hz, e3⟩
      · cases this
    · intro t ti h
      have := htest ti (lookT_mem h).1
      simp only [tiTest, Bool.and_eq_true, beq_iff_eq] at this
      exact this.1.1.1.1.1.1
    · intro t ti h
      have := htest ti (lookT_mem h).1
      simp only [tiTest, Bool.and_eq_true, beq_iff_eq] at this
      exact this.1.1.1.1.1.2
    · intro t ti h
      have := htest ti (lookT_mem h).1
      simp only [tiTest, Bool.and_eq_true, beq_iff_eq] at this
      exact List.all_eq_true.1 this.1.1.1.1.2
    · intro t ti n s h
      exact hs ti (lookT_mem h).1 n s
  have hone : ∀ t ti, lookT G.T t = some ti → 0 < ti.size ∧ (ti.agg = false → ti.size = 1) := by
    intro t ti h
    have := htest ti (lookT_mem h).1
    simp only [tiTest, Bool.and_eq_true, beq_iff_eq, decide_eq_true_eq, Bool.or_eq_true] at this
    refine ⟨this.1.1.1.2, fun ha => ?_⟩
    rcases this.1.1.2 with h | h
    · rw [ha] at h; cases h
    · exact h
  refine ⟨⟨⟨hT, hone, ?_⟩, ?_, ?_⟩, ?_⟩
  · intro t ti h
    have := htest ti (lookT_mem h).1
    simp only [tiTest, Bool.and_eq_true, beq_iff_eq, decide_eq_true_eq] at this
    exact this.1.2
  · intro t n h
    have := List.all_eq_true.1 he _ h
    simp only [Bool.and_eq_true, Bool.not_eq_true', beq_iff_eq] at this
    exact this.1.1
  · intro t n h m l k xs ys r w hks hr hx hy
    have := List.all_eq_true.1 he _ h
    simp only [Bool.and_eq_true, Bool.not_eq_true', beq_iff_eq] at this
    obtain ⟨⟨_, hk⟩, hl⟩ := this
    cases hti : lookT G.T t with
    | none => rw [hti] at hl; cases hl
    | some ti =>
      rw [hti] at hl
      simp only [Option.map_some, Option.some.injEq] at hl
      have := eqk_ok (m := m) hT (fun t ti h => (hone t ti h).2) 9 t n ti hk hti 10000 (by omega) l k xs.toList ys.toList r w hks hr hx hy
      simpa [packV, hl] using this
  · intro t ti fs h hu f hf
    have := htest ti (lookT_mem h).1
    simp only [tiTest, Bool.and_eq_true, hu] at this
    exact List.all_eq_true.1 this.2 f hf
end
end Go.Proofs.Ytcpahifgdppkbaa.QAI
namespace Go.Proofs.Ytcpahifgdppkbaa.QAI
open Go Go.RowKit
def isZ64 : Value → Bool
  | .int .i64 0 => true
  | _ => false
def shapeT (i : TI) : Bool := match i.shape with
  | some (n, s) => s == 1 && i.agg && i.size == n && decide (0 < n) && i.zero.all isZ64 && i.zero.length == n
  | none => true
theorem shapeT_ok {i : TI} (h : shapeT i = true) : shapeTest i := by
  intro n s hs
  unfold shapeT at h
  rw [hs] at h
  simp only [Bool.and_eq_true, beq_iff_eq, decide_eq_true_eq] at h
  obtain ⟨⟨⟨⟨⟨h1, h2⟩, h3⟩, h4⟩, h5⟩, h6⟩ := h
  have hz : ∀ x ∈ i.zero, x = .int .i64 0 := fun x hx => by
    have := List.all_eq_true.1 h5 x hx
    unfold isZ64 at this
    split at this
    · rfl
    · cases this
  have he : i.zero = List.replicate n (.int .i64 0) := List.eq_replicate_iff.2 ⟨h6, hz⟩
  refine ⟨h1, h2, h3, ?_, h4⟩
  rw [he]
  cases n with
  | zero => omega
  | succ n => rfl
end Go.Proofs.Ytcpahifgdppkbaa.QAI
