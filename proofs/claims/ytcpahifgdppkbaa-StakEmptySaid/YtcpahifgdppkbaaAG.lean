/- A region that draws its order, whole. -/
import Derived.Test.YtcpahifgdppkbaaAF
set_option linter.unusedVariables false
set_option linter.unusedSimpArgs false
namespace Go.Proofs.Ytcpahifgdppkbaa.QAI
open Go Go.RowKit

section
variable {G : Ctx2} {ops : Array Oper} {π : List Nat} {l : Log} {st : Nat → St} {m m0 : List Pl} {h0 : AHeap} {w w0 : World} {B : Nat} {a : Act} {listed : Array Bool}

theorem all_dn (R : RunOk G ops π l st) (hsz : listed.size = ops.size) (hr : Region.ready .any ops listed = []) : ∀ (k i : Nat), π.idxOf i < k → i < ops.size → Dn ops listed i
  | 0, i, hk, _ => by omega
  | k + 1, i, hk, hi => by
    by_cases hd : Dn ops listed i
    · exact hd
    · exfalso
      have ho := Array.getElem?_eq_getElem hi
      have hm : i ∈ Region.ready .any ops listed := by
        refine mem_ready.2 ⟨?_, _, ho, fun e he hb => ?_⟩
        · have hl : i < listed.size := by omega
          have hn : ¬ listed.getD i false = true := fun e => hd ⟨hi, e⟩
          rw [Array.getD_eq_getD_getElem?, Array.getElem?_eq_getElem hl] at hn ⊢
          simpa using hn
        · have hb' := R.ord.dir i _ ho e he hb
          obtain ⟨h1, h2⟩ := R.ord.pos i hi e.on hb'
          exact (all_dn R hsz hr k e.on (by omega) h1).2
      rw [hr] at hm
      cases hm

theorem RID.done (R : RunOk G ops π l st) (I : RID B m0 h0 w0 ops π st listed a w) (hr : Region.ready .any ops listed = []) : RI B m0 h0 w0 (st ops.size) a w := by
  have hall : ∀ i, i < ops.size → Dn ops listed i := fun i hi => all_dn R I.size hr _ i (Nat.lt_succ_self _) hi
  obtain ⟨m_, hp_, k_, I0⟩ := I.ex
  obtain ⟨m, hp, k, IX, hmax⟩ := RIX.bump R (ops.size - hp_) hp_ m_ k_ (Nat.le_refl _) I0
  have hend : hp = ops.size := by
    rcases Nat.lt_or_ge hp ops.size with hlt | hge
    · exfalso
      obtain ⟨j, hjl, hj, hjp⟩ := R.ord.of_pos hlt
      have hoj := Array.getElem?_eq_getElem hjl
      have := (IX.loud j _ hoj (hmax j _ hj hoj)).1 (hall j hjl)
      omega
    · exact Nat.le_antisymm IX.le hge
  have hh : (st ops.size).h = k := by
    apply List.ext_getElem?
    intro id
    rw [← hend]
    refine (IX.nul.on id ?_).symm
    rintro ⟨q, oq, q1, _, _, _, q5, _⟩
    exact q5 (hall q (getElem?_lt q1))
  refine ⟨I.hB, ⟨m, by rw [hh]; exact IX.step, ?_, ?_⟩, I.def_⟩
  · rw [R.len _ (Nat.le_refl _), I.len]
  · intro t v hv
    have hlt : t < (st 0).sl.length := by
      rw [← R.len _ (Nat.le_refl _)]
      exact (List.getElem?_eq_some_iff.1 hv).1
    refine IX.slots t v ?_ hlt
    have h1 := R.slot ops.size (Nat.le_refl _) t
    rw [List.getD_eq_getElem?_getD, hv] at h1
    simp only [Option.getD_some] at h1
    rcases h1 with ⟨j, o, _, ho, hd, e⟩ | ⟨hn, e⟩
    · exact .inl ⟨j, o, hall j (getElem?_lt ho), ho, hd, e⟩
    · exact .inr ⟨fun j o _ ho => hn j o (R.ord.at_ (getElem?_lt ho)).1 ho, e⟩

def openL (n : Nat) (listed : Array Bool) : List Nat := (List.range n).filter fun i => !listed.getD i false

theorem openL_set {n i : Nat} (hs : listed.size = n) (hi : i < n) (hu : listed.getD i false = false) : (openL n (listed.setIfInBounds i true)).length < (openL n listed).length := by
  have e : openL n (listed.setIfInBounds i true) = (openL n listed).filter fun j => j != i := by
    unfold openL
    rw [List.filter_filter]
    apply List.filter_congr
    intro j hj
    have hil : i < listed.size := by omega
    have := getD_set (listed := listed) (i := i) (j := j) hil
    by_cases hji : j = i
    · subst hji
      simp [this, hil]
    cases h1 : (listed.setIfInBounds i true).getD j false <;> cases h2 : listed.getD j false <;> simp [h1, h2, hji] at this ⊢
  rw [e]
  refine List.length_filter_lt_length_iff_exists.2 ⟨i, List.mem_filter.2 ⟨List.mem_range.2 hi, by rw [hu]; rfl⟩, by simp⟩

theorem any_ok (hG : XOk G) (R : RunOk G ops π l st) (Q : Exit → Act → World → Prop) (hQ : ∀ a' w', RI B m0 h0 w0 (st ops.size) a' w' → Q .normal a' w') :
    ∀ (fuel : Nat) (listed : Array Bool) (a : Act) (w : World), RID B m0 h0 w0 ops π st listed a w → (openL ops.size listed).length ≤ fuel → wpAny G.P .any ops Q fuel listed a w
  | 0, listed, a, w, I, hf => by
    have hr : Region.ready .any ops listed = [] := by
      apply List.eq_nil_iff_forall_not_mem.2
      intro i hi
      obtain ⟨hun, o, ho, _⟩ := mem_ready.1 hi
      have hilt : i < ops.size := getElem?_lt ho
      have : i ∈ openL ops.size listed := List.mem_filter.2 ⟨List.mem_range.2 hilt, by
        have hl : i < listed.size := by rw [I.size]; exact hilt
        rw [Array.getD_eq_getD_getElem?, Array.getElem?_eq_getElem hl] at hun ⊢
        simpa using hun⟩
      rw [List.eq_nil_of_length_eq_zero (Nat.le_zero.1 hf)] at this
      cases this
    exact ⟨hr, hQ _ _ (I.done R hr)⟩
  | fuel + 1, listed, a, w, I, hf => by
    refine ⟨fun hr => hQ _ _ (I.done R hr), fun i hi => ?_⟩
    refine RID.exec hG R I hi _ Q fun a' w' I' => any_ok hG R Q hQ fuel _ a' w' I' ?_
    obtain ⟨hun, o, ho, _⟩ := mem_ready.1 hi
    have hilt : i < ops.size := getElem?_lt ho
    have hl : i < listed.size := by rw [I.size]; exact hilt
    have hu : listed.getD i false = false := by
      rw [Array.getD_eq_getD_getElem?, Array.getElem?_eq_getElem hl] at hun ⊢
      simpa using hun
    have := openL_set I.size hilt hu
    omega

theorem regDraw_ok {S S' : St} {id : Nat} (hG : XOk G) (hI : RI B m0 h0 w0 S a w) (he : (regDraw G ops S).eval = some S') (Q : Exit → Act → World → Prop) (hQ : ∀ a' w', RI B m0 h0 w0 S' a' w' → Q .normal a' w') : (Code.region id ops true).wp G.P Q a w := by
  rw [regDraw_def] at he
  split at he
  · rename_i hord
    rw [Tr.eval_bind] at he
    cases h1 : (regRun G ops (eager ops) S ⟨[], [], []⟩).eval with
    | none => simp [h1] at he
    | some r =>
      obtain ⟨S1, l⟩ := r
      rw [h1] at he
      simp only [Option.bind_some] at he
      split at he
      · rename_i hlog
        simp only [Tr.eval, Option.some.injEq] at he
        subst he
        have ho := orderOk_ok hord
        obtain ⟨st, e0, en, hst⟩ := (regRun_ok _ _ _ _ _ h1).2.states
        rw [ho.len] at en
        have R : RunOk G ops (eager ops) l st := ⟨ho, hst, hlog⟩
        refine wp_region_any hG.mixed ?_
        obtain ⟨m, hst0, hsl⟩ := hI.ex
        have hnone : ∀ j, ¬ Dn ops (Array.replicate ops.size false) j := by
          rintro j ⟨hj, hd⟩
          rw [Array.getD_eq_getD_getElem?, Array.getElem?_replicate] at hd
          simp [hj] at hd
        have hst1 : Step B m h0 w0 m h0 w0 → True := fun _ => trivial
        refine any_ok hG R Q (fun a' w' h => hQ a' w' (by rw [← en]; exact h)) ops.size _ _ _ (?_ : RID B m0 h0 w0 ops (eager ops) st _ a { w with drawn := w.drawn + 1 }) ?_
        · have hnt : ∀ id, ¬ Nt ops (eager ops) st (Array.replicate ops.size false) 0 id := fun id ⟨q, _, _, _, _, h, _⟩ => absurd h (Nat.not_lt_zero _)
          refine { hB := hI.hB, def_ := hI.def_, size := by simp, closed := fun j o _ hd => absurd hd (hnone j), len := by rw [e0]; exact hsl.1, low := ?_, ex := ⟨m, 0, S.h, ⟨Nat.zero_le _, fun j o _ _ => ⟨fun h => absurd h (hnone j), fun h => by omega⟩, fun j o _ _ _ h => absurd h (hnone j), ⟨by rw [e0], fun id h => absurd h (hnt id), fun id _ => by rw [e0]⟩, fun id h => absurd h (hnt id), ?_, ?_⟩⟩ }
          · rw [e0, ← hst0.hr.len]
            rcases Nat.eq_zero_or_pos m0.length with hz | hz
            · omega
            · have hlt : m0.length - 1 < m0.length := by omega
              have := (List.getElem?_eq_some_iff.1 (hst0.ext _ _ (List.getElem?_eq_getElem hlt))).1
              omega
          · exact ⟨hst0.ext, hst0.hr.keep fun k _ => rfl, hst0.fr.trans (Fr.drew _ w) fun i hi => .inl hi, fun k hk => hst0.own k hk⟩
          · intro t v hv hlt
            rcases hv with ⟨j, o, hj, _⟩ | ⟨_, rfl⟩
            · exact absurd hj (hnone j)
            · rw [e0] at hlt ⊢
              rw [List.getD_eq_getElem?_getD, List.getElem?_eq_getElem hlt]
              exact hsl.2 t _ (List.getElem?_eq_getElem hlt)
        · unfold openL
          refine Nat.le_trans (List.length_filter_le _ _) ?_
          simp
      · cases he
  · cases he
end
end Go.Proofs.Ytcpahifgdppkbaa.QAI
