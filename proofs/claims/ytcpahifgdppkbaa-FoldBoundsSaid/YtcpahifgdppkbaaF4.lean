/- From a told function to the seat's statement; FoldBounds. -/
import Derived.Test.YtcpahifgdppkbaaF3
import Derived.Test.YtcpahifgdppkbaaHJ
import Derived.Test.YtcpahifgdppkbaaRows
import Derived.ProofKit
import Derived.OpenShut
namespace Go.Proofs.Ytcpahifgdppkbaa.QAI
open Go Go.RowKit Go.ChangeShapes Go.WideShapes Go.ChangeAt
set_option maxRecDepth 100000

theorem Fr.below {X : Nat → Prop} {w w' : World} (h : Fr X w w') (hx : ∀ k, k < w.heap.size → ¬ X k) : Below w.heap.size w w' :=
  ⟨h.os, h.tape, h.output, h.size, fun k hk => h.blk k hk (hx k hk)⟩

/-- A slice of ints that came in. -/
theorem came_ints {H : Type} {enc : TypeId × Value → H} {P : Program} {W : World} {t e : TypeId} {kd : IntKind} {a0 : Option Addr} {len cap : Nat} {d : DataW H} {p : List MemPlace} (ht : P.underlying t = some (.slice e)) (he : P.underlying e = some (.int kd)) (hc : P.cellsOf e = 1)
    (h : DataW.Trod enc P W 0 (fun _ => true) true t (.slice a0 len cap) d p) (hlt : ∀ x ∈ p, x.block < W.heap.size) :
    ∃ (g : Nat → Int), HR W.heap.size [⟨a0, cap, 1⟩] [some ⟨e, false, .row 1 len fun i => [.int kd (g i)]⟩] W ∧ VR [⟨a0, cap, 1⟩] (.c (.sl 0 0 len)) (.slice a0 len cap) ∧ ∀ i, i < len → (Lit.int kd (g i)).wf = true := by
  obtain ⟨fuel, hf⟩ := h
  have mk : ∀ (g : Nat → Int), len ≤ cap → (0 < len → ∃ A, a0 = some A ∧ A.spot = none ∧ A.block < W.heap.size ∧ ∀ i, i < len → W.cell? ⟨A.block, A.off + i, none⟩ = some (.int kd (g i))) →
      HR W.heap.size [⟨a0, cap, 1⟩] [some ⟨e, false, .row 1 len fun i => [.int kd (g i)]⟩] W ∧ VR [⟨a0, cap, 1⟩] (.c (.sl 0 0 len)) (.slice a0 len cap) := by
    intro g hle hA
    refine ⟨{ len := rfl, blk := ?_, apart := ?_ }, ?_⟩
    · intro id b pl hb hp
      cases id with
      | succ id => simp at hb
      | zero =>
        simp only [List.getElem?_cons_zero, Option.some.injEq] at hb hp
        subst hb; subst hp
        refine { sz := rfl, len := fun i _ => rfl, cap := hle, cell := ?_, own := fun h => (by cases h), came := ?_ }
        · intro i j c hi hcj
          obtain ⟨A, hA1, hA2, _, hA3⟩ := hA (by have : i < len := hi; omega)
          have hj : j = 0 := by
            cases j with
            | zero => rfl
            | succ j => simp [Cont.el, ofCells] at hcj
          subst hj
          simp [Cont.el, ofCells] at hcj
          subst hcj
          refine ⟨A, .int kd (g i), hA1, hA2, ?_, rfl, rfl⟩
          have := hA3 i hi
          simpa using this
        · intro _ A hA' hpos
          obtain ⟨A2, hA1, _, hA4, _⟩ := hA hpos
          have hA'' : a0 = some A := hA'
          rw [hA''] at hA1
          cases hA1
          exact hA4
    · intro id id' b b' p1 p2 A A' hne hb hb' ho
      cases id with
      | succ id => simp at hb
      | zero =>
        simp only [List.getElem?_cons_zero, Option.some.injEq] at hb
        subst hb
        cases ho
    · refine ⟨⟨a0, cap, 1⟩, a0, cap, rfl, rfl, hle, fun _ => ⟨rfl, rfl⟩, fun hpos => ?_⟩
      obtain ⟨A, hA1, hA2, _, _⟩ := hA hpos
      refine ⟨A, hA1, hA2, ?_⟩
      obtain ⟨b, off, spot⟩ := A
      simp only at hA2
      subst hA2
      rw [hA1]
      simp
  rcases open_ints ht he hc hf with ⟨hcs, hx⟩ | ⟨a, len', cap', zs, hcs, _, hl, hm, hz, hx, hcell, hwz⟩
  · simp [Value.cells] at hcs
    obtain ⟨rfl, rfl, rfl⟩ := hcs
    obtain ⟨h1, h2⟩ := mk (fun _ => 0) (Nat.le_refl _) (fun h => absurd h (Nat.lt_irrefl _))
    exact ⟨fun _ => 0, h1, h2, fun i hi => absurd hi (Nat.not_lt_zero _)⟩
  · simp [Value.cells] at hcs
    obtain ⟨rfl, rfl, rfl⟩ := hcs
    simp only [Prod.mk.injEq] at hx
    obtain ⟨rfl, rfl⟩ := hx
    simp only [if_true] at hz
    obtain ⟨h1, h2⟩ := mk (fun i => zs.getD i 0) hl (fun hpos => by
      have h0 := hcell 0 (by omega)
      have hsp : a.spot = none := by simpa [Addr.add] using World.cell?_spot h0
      refine ⟨a, rfl, hsp, ?_, fun i hi => ?_⟩
      · obtain ⟨b, off, spot⟩ := a
        exact hlt (.cell b off) (MemPlace.mem_row.2 ⟨0, by omega, by simp⟩)
      · have := hcell i (by omega)
        rw [← this]
        congr 1
        unfold Addr.add
        split
        · rename_i h; subst h; rw [Nat.add_zero, ← hsp]
        · rfl)
    exact ⟨fun i => zs.getD i 0, h1, h2, fun i hi => hwz _ (by
      have hi' : i < zs.length := by omega
      have : zs.getD i 0 = zs[i] := by simp [List.getD, hi']
      show zs.getD i 0 ∈ zs
      rw [this]
      exact List.getElem_mem hi')⟩

theorem not_own {m : List Pl} {h : AHeap} (ho : ∀ (id : Nat) b, h[id]? = some (some b) → b.own = false) (k : Nat) : ¬ Own m h k := by
  rintro ⟨id, b, p, A, hb, hown, _⟩
  rw [ho id b hb] at hown
  cases hown

/-- A function that gives back 'true', whatever came in, and owns nothing of it. -/
theorem calls_true {f : Nat} {F : Spec} (hF : SpecOk Try.prog f F) {args : List AV} {H : AHeap} {H' : AHeap} (he : (F args H).eval = some (Bo true, H')) {m : List Pl} {w : World} {vals : Array Value} (hH : HR w.heap.size m H w) (hv : VRs m args vals.toList)
    (ho : ∀ (id : Nat) b, H[id]? = some (some b) → b.own = false) :
    Calls Try.prog f vals w fun e w' => e = .returned (.bool true) ∧ Below w.heap.size w w' := by
  refine (hF _ _ _ _ _ he m w vals hH (Nat.le_refl _) hv).mono fun e w' h => ?_
  obtain ⟨m', x, rfl, hst, hr⟩ := h
  have : x = .bool true := hr
  subst this
  exact ⟨rfl, hst.fr.below fun k _ => not_own ho k⟩

theorem laidOut : laidOutB Try.prog = true := by kernel_rfl
theorem ownK : ownKnob Try.prog.godebug = none := by kernel_rfl
theorem un22 : Try.prog.underlying 22 = some (.slice 2) := by kernel_rfl
theorem un2 : Try.prog.underlying 2 = some (.int .i64) := by kernel_rfl
theorem un4 : Try.prog.underlying 4 = some .bool := by kernel_rfl
theorem ce2 : Try.prog.cellsOf 2 = 1 := by kernel_rfl

theorem par3 : Try.f3.params.toList = [22, 4] := rfl

theorem foldBounds_lifted (os : Os) (started : os.Started) (H : Type) (enc : TypeId × Value → H) :
    ReturnsInHanded {} Try.checked os 3 .any (Ytcpahifgdppkbaa.Rows.foldBoundsSpec.pre6 enc Try.prog Try.f3 Ytcpahifgdppkbaa.Rows.foldBoundsRow.domain false) (Ytcpahifgdppkbaa.Rows.foldBoundsSpec.post enc Try.prog Try.f3 false true false false) := by
  refine returnsInHanded_of_change (C := Try.checked) ownK started (by kernel_rfl) Try.func3
    (ChangeSpec.witness6 (enc := enc) (C := Try.checked) false ⟨#[], #[.slice none 0 0, .bool false], []⟩ 8 (by kernel_rfl) (by kernel_rfl) (by kernel_rfl) (by kernel_rfl)) ?_
  intro W base args ds gs before hval0 hW hcnd _
  have hval : ∀ (j : Nat) t v, Try.f3.params[j]? = some t → args[j]? = some v → Value.okWide Try.prog W .any base t v := hval0
  have hW' := hW
  obtain ⟨p, q, hA0, hV, rfl, hfz, hnd⟩ := hW
  have hA : DataW.TrodAll enc Try.prog W 0 (fun _ => true) true Try.f3.params.toList args.toList ds p := hA0
  rw [par3] at hA
  obtain ⟨v0, v1, d0, d1, p0, p1, rfl, rfl, rfl, h0, h1⟩ := trodAll_two hA
  obtain ⟨rfl, rfl⟩ := trodVars_none hV
  obtain ⟨b, rfl, rfl, rfl⟩ := open_bool un4 (hval 1 4 v1 rfl rfl) h1
  obtain ⟨a0, len, cap, rfl⟩ := okWide_slice un22 (hval 0 22 v0 rfl rfl)
  clear hA0 hval0
  simp only [List.append_nil] at hW'
  have hlt : ∀ x ∈ p0, x.block < W.heap.size := fun x hx => by simpa using hW'.lt x hx
  obtain ⟨g, hH, hv, _⟩ := came_ints un22 un2 ce2 h0 hlt
  have hS : SpecOk Try.prog 3 (afun (bG (len + 1)) 60 Try.f3) := afun_ok (GK_ok KA_ok _ _) Try.func3 60
  refine (calls_true hS (b_true (g := g) (minus := b)) hH (vals := #[.slice a0 len cap, .bool b]) ⟨hv, rfl, trivial⟩ ?_).mono fun e W' ⟨he, bel⟩ => ?_
  · intro id b hb
    cases id with
    | succ id => simp at hb
    | zero => simp only [List.getElem?_cons_zero, Option.some.injEq] at hb; subst hb; rfl
  subst he
  refine ⟨_, rfl, _, _, _, [], p0 ++ [], [], hW', trodAll_mk1 (shut_bool un4 _), trodAll_mk2 (Below.trod laidOut (by kernel_rfl) (of_decide_eq_true (by kernel_rfl)) h0 bel hlt) (shut_bool un4 _), rfl, bel.frame _, fun h => by cases h⟩

theorem foldBounds_holds : Ytcpahifgdppkbaa.Rows.FoldBoundsSaid :=
  OpenClaim.holds_of_wide 3 Try.f3 rfl rfl rfl rfl rfl rfl rfl ⟨rfl, rfl, rfl, rfl, rfl⟩ rfl rfl rfl rfl rfl (by kernel_rfl) Try.func3 joined3
    (of_decide_eq_true (by kernel_rfl)) (by unfold Func.isWrapper; first | (rw [if_pos (by decide +kernel)]; kernel_rfl) | (rw [if_neg (by decide +kernel)]; exact ⟨rfl, rfl⟩))
    (fun os started H enc _ => foldBounds_lifted os started H enc)
#print axioms foldBounds_holds
end Go.Proofs.Ytcpahifgdppkbaa.QAI
