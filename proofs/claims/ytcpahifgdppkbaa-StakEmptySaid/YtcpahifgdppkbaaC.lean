/- What comes in: values without addresses, rows of such; from a function that gives back 'true' whatever comes in to a call. -/
import Derived.Test.YtcpahifgdppkbaaH
import Derived.Test.YtcpahifgdppkbaaA17
import Derived.ProofKit
import Derived.OpenShut
import Derived.HandedShaped
set_option linter.unusedVariables false
set_option linter.unusedSimpArgs false
namespace Go.Proofs.Ytcpahifgdppkbaa.QAI
open Go Go.RowKit Go.ChangeShapes Go.WideShapes Go.ChangeAt
set_option maxRecDepth 100000

inductive Kd where
  | int (k : IntKind)
  | bool
  | str
  deriving DecidableEq
def Kd.ok : Kd → Value → Prop
  | .int k, v => ∃ n, v = .int k n ∧ (Lit.int k n).wf = true
  | .bool, v => ∃ b, v = .bool b
  | .str, v => ∃ s : ByteArray, v = .string s ∧ s.size ≤ maxLen
def Kd.desc : Kd → TypeDesc
  | .int k => .int k
  | .bool => .bool
  | .str => .string
def Kd.zero : Kd → Value
  | .int k => .int k 0
  | .bool => .bool false
  | .str => .string ⟨#[]⟩
theorem Kd.zero_ok (k : Kd) : k.ok k.zero := by
  cases k with
  | int k => exact ⟨0, rfl, by cases k <;> decide⟩
  | bool => exact ⟨false, rfl⟩
  | str => exact ⟨⟨#[]⟩, rfl, by decide⟩
theorem Kd.zeros_ok : ∀ ks : List Kd, F2 Kd.ok ks (ks.map Kd.zero)
  | [] => .nil
  | k :: ks => .cons k.zero_ok (Kd.zeros_ok ks)
theorem Kd.one {k : Kd} {v : Value} (h : k.ok v) : oneV v = true := by
  cases k with
  | int k => obtain ⟨n, rfl, _⟩ := h; rfl
  | bool => obtain ⟨b, rfl⟩ := h; rfl
  | str => obtain ⟨s, rfl, _⟩ := h; rfl

def flatFs (P : Program) (g : TypeId → Option (List Kd)) : List Field → Nat → Option (List Kd)
  | [], _ => some []
  | f :: fs, off =>
    if f.offset != off then none else
    match g f.type, flatFs P g fs (off + P.cellsOf f.type) with
    | some a, some b => if a.length = P.cellsOf f.type then some (a ++ b) else none
    | _, _ => none
def flatIn (P : Program) : Nat → TypeId → Option (List Kd)
  | 0, _ => none
  | d + 1, t =>
    match P.underlying t with
    | some (.int k) => some [.int k]
    | some .bool => some [.bool]
    | some .string => some [.str]
    | some (.struct fs) => match flatFs P (flatIn P d) fs.toList 0 with
      | some ks => if ks.length = P.cellsOf t then some ks else none
      | none => none
    | some (.array n e) => match flatIn P d e with
      | some ks => if ks.length = P.cellsOf e ∧ n * ks.length = P.cellsOf t then some (List.replicate n ks).flatten else none
      | none => none
    | _ => none

section
variable {H : Type} {enc : TypeId × Value → H} {P : Program} {w : World} {base : Nat} {spare : Nat → Bool} {held : Bool}

theorem flatFs_mem {g : TypeId → Option (List Kd)} : ∀ {fs : List Field} {off : Nat} {ks}, flatFs P g fs off = some ks → ∀ f ∈ fs, ∃ a, g f.type = some a
  | [], _, _, _, f, hf => by cases hf
  | f' :: fs, off, ks, h, f, hf => by
    simp only [flatFs] at h
    split at h
    · cases h
    · split at h
      · rename_i a b ha hb
        rcases List.mem_cons.1 hf with rfl | hf
        · exact ⟨a, ha⟩
        · exact flatFs_mem hb f hf
      · cases h

theorem flatFs_ok {g : TypeId → Option (List Kd)} {n : Nat} {cs : List Value} (hg : ∀ t a, g t = some a → ∀ cs x, DataW.trod enc P w base spare held n t cs = some x → F2 Kd.ok a cs ∧ x.2 = []) :
    ∀ {fs : List Field} {off : Nat} {ks}, flatFs P g fs off = some ks → (∀ f ∈ fs, ∃ y, DataW.trod enc P w base spare held n f.type ((cs.drop f.offset).take (P.cellsOf f.type)) = some y) →
      F2 Kd.ok ks ((cs.drop off).take ks.length)
  | [], off, ks, h, _ => by
    simp only [flatFs, Option.some.injEq] at h
    subst h
    simpa using F2.nil
  | f :: fs, off, ks, h, hy => by
    simp only [flatFs] at h
    split at h
    · cases h
    · rename_i ho
      have ho' : f.offset = off := by simpa using ho
      split at h
      · rename_i a b ha hb
        split at h
        · rename_i hl
          simp only [Option.some.injEq] at h
          subst h
          obtain ⟨y, hyf⟩ := hy f List.mem_cons_self
          have h1 := (hg _ _ ha _ _ hyf).1
          have h2 := flatFs_ok (cs := cs) hg hb (fun f' hf' => hy f' (List.mem_cons_of_mem _ hf'))
          rw [ho', ← hl] at h1
          rw [← hl] at h2
          have := h1.append h2
          rw [List.length_append, List.take_add, List.drop_drop]
          exact this
        · cases h
      · cases h

theorem flatArr_ok {e : TypeId} {ks : List Kd} {n s : Nat} {cs : List Value} (hs : ks.length = s) (hg : ∀ i, i < n → F2 Kd.ok ks ((cs.drop (i * s)).take s)) :
    ∀ m, m ≤ n → F2 Kd.ok (List.replicate m ks).flatten (cs.take (m * s))
  | 0, _ => by simpa using F2.nil
  | m + 1, hm => by
    have ih := flatArr_ok (e := e) hs hg m (by omega)
    have h1 := hg m (by omega)
    rw [List.replicate_succ', List.flatten_append]
    simp only [List.flatten_cons, List.flatten_nil, List.append_nil]
    rw [Nat.succ_mul, List.take_add]
    exact ih.append h1

theorem trod_flat : ∀ (d : Nat) (t : TypeId) (ks : List Kd), flatIn P d t = some ks → ∀ (fuel : Nat) (cs : List Value) x, DataW.trod enc P w base spare held fuel t cs = some x → F2 Kd.ok ks cs ∧ x.2 = []
  | 0, t, ks, hk, _, _, _, _ => by simp [flatIn] at hk
  | d + 1, t, ks, hk, fuel, cs, x, h => by
    simp only [flatIn] at hk
    split at hk
    · rename_i k hu
      simp only [Option.some.injEq] at hk
      subst hk
      obtain ⟨n, rfl, rfl, hw⟩ := DataW.trod_int hu h
      exact ⟨.cons ⟨n, rfl, hw⟩ .nil, rfl⟩
    · rename_i hu
      simp only [Option.some.injEq] at hk
      subst hk
      obtain ⟨b, rfl, rfl⟩ := DataW.trod_bool hu h
      exact ⟨.cons ⟨b, rfl⟩ .nil, rfl⟩
    · rename_i hu
      simp only [Option.some.injEq] at hk
      subst hk
      obtain ⟨s, rfl, rfl, hw⟩ := DataW.trod_string hu h
      exact ⟨.cons ⟨s, rfl, hw⟩ .nil, rfl⟩
    · rename_i fs hu
      split at hk
      · rename_i ks' hfs
        split at hk
        · rename_i hl
          simp only [Option.some.injEq] at hk
          subst hk
          obtain ⟨xs, n, _, rfl, hlen, hxs, hf⟩ := DataW.trod_struct hu h
          have hall : ∀ f ∈ fs.toList, ∃ y, y ∈ xs ∧ DataW.trod enc P w base spare held n f.type ((cs.drop f.offset).take (P.cellsOf f.type)) = some y := by
            intro f hf'
            obtain ⟨i, hi, rfl⟩ := List.getElem_of_mem hf'
            have hi' : i < fs.size := by simpa using hi
            have := hf i fs.toList[i] (by simp [hi'])
            have hix : i < xs.length := by omega
            rw [List.getElem?_eq_getElem hix] at this
            exact ⟨_, List.getElem_mem hix, this⟩
          have h1 := flatFs_ok (cs := cs) (fun t a ha cs x => trod_flat d t a ha n cs x) hfs fun f hf' => (hall f hf').elim fun y hy => ⟨y, hy.2⟩
          rw [List.drop_zero, hl, ← hlen, List.take_length] at h1
          refine ⟨h1, ?_⟩
          show xs.flatMap (·.2) = []
          rw [List.flatMap_eq_nil_iff]
          intro y hy
          obtain ⟨i, hi, rfl⟩ := List.getElem_of_mem hy
          have hif : i < fs.size := by omega
          have hfi := hf i fs[i] (by simp [hif])
          rw [List.getElem?_eq_getElem hi] at hfi
          obtain ⟨a, ha⟩ := flatFs_mem hfs fs[i] (by simp)
          exact (trod_flat d _ a ha n _ _ hfi).2
        · cases hk
      · cases hk
    · rename_i n e hu
      split at hk
      · rename_i ks' he
        split at hk
        · rename_i hl
          simp only [Option.some.injEq] at hk
          subst hk
          obtain ⟨xs, m, _, rfl, hlen, hxs, hf⟩ := DataW.trod_array hu h
          have hall : ∀ i, i < n → F2 Kd.ok ks' ((cs.drop (i * P.cellsOf e)).take (P.cellsOf e)) ∧ ∀ y, xs[i]? = some y → y.2 = [] := by
            intro i hi
            have hix : i < xs.length := by omega
            have := hf i hi
            rw [List.getElem?_eq_getElem hix] at this
            have h2 := trod_flat d e ks' he m _ _ this
            refine ⟨h2.1, fun y hy => ?_⟩
            rw [List.getElem?_eq_getElem hix] at hy
            cases hy
            exact h2.2
          have h1 := flatArr_ok (e := e) (cs := cs) hl.1 (fun i hi => (hall i hi).1) n (Nat.le_refl _)
          have e1 : n * P.cellsOf e = cs.length := by rw [hlen, ← hl.1]; exact hl.2
          rw [e1, List.take_length] at h1
          refine ⟨h1, ?_⟩
          show xs.flatMap (·.2) = []
          rw [List.flatMap_eq_nil_iff]
          intro y hy
          obtain ⟨i, hi, rfl⟩ := List.getElem_of_mem hy
          exact (hall i (by omega)).2 _ (by simp [hi])
        · cases hk
      · cases hk
    · cases hk
end

/-- What a parameter is. -/
inductive Shp where
  | one (k : Kd)
  | agg (ks : List Kd)
  | arr (n : Nat) (k : Kd)
  | rows (e : TypeId) (ks : List Kd)
inductive In where
  | one (v : Value)
  | agg (cs : List Value)
  | arr (f : Nat → Value)
  | rows (k : Nat) (f : Nat → List Value)
def InOk : Shp → In → Prop
  | .one k, .one v => k.ok v ∧ ∀ s, v = .string s → s.size ≤ reachBytes
  | .agg ks, .agg cs => F2 Kd.ok ks cs
  | .arr _ k, .arr f => ∀ i, k.ok (f i)
  | .rows _ ks, .rows k f => k ≤ maxLen ∧ ∀ i, F2 Kd.ok ks (f i)
  | _, _ => False
def InsOk : List Shp → List In → Prop
  | [], [] => True
  | s :: ss, i :: is => InOk s i ∧ InsOk ss is
  | _, _ => False
def avIn (id : Nat) : Shp → In → AV
  | _, .one v => .c (.v v)
  | _, .agg cs => .agg (ofCells cs)
  | .arr n _, .arr f => .arr n f
  | _, .rows k _ => .c (.sl id 0 k)
  | _, _ => .c .any
def blkIn : Shp → In → AHeap
  | .rows e ks, .rows k f => [some ⟨e, false, .row ks.length k f⟩]
  | _, _ => []
def avsIn : Nat → List Shp → List In → List AV
  | id, s :: ss, i :: is => avIn id s i :: avsIn (id + (blkIn s i).length) ss is
  | _, _, _ => []
def blksIn : List Shp → List In → AHeap
  | s :: ss, i :: is => blkIn s i ++ blksIn ss is
  | _, _ => []

def descIs : Option TypeDesc → Kd → Bool
  | some (.int a), .int b => decide (a = b)
  | some .bool, .bool => true
  | some .string, .str => true
  | _, _ => false
theorem descIs_ok {o : Option TypeDesc} {k : Kd} (h : descIs o k = true) : o = some k.desc := by
  unfold descIs at h
  split at h
  · have := of_decide_eq_true h
    subst this
    rfl
  · rfl
  · rfl
  · cases h
def sliceIs : Option TypeDesc → TypeId → Bool
  | some (.slice a), e => decide (a = e)
  | _, _ => false
theorem sliceIs_ok {o : Option TypeDesc} {e : TypeId} (h : sliceIs o e = true) : o = some (.slice e) := by
  unfold sliceIs at h
  split at h
  · have := of_decide_eq_true h
    subst this
    rfl
  · cases h
theorem ins_nil {is : List In} (h : InsOk [] is) : is = [] := by
  cases is with
  | nil => rfl
  | cons i is => cases h
theorem ins_cons {s : Shp} {ss : List Shp} {is : List In} (h : InsOk (s :: ss) is) : ∃ i is', is = i :: is' ∧ InOk s i ∧ InsOk ss is' := by
  cases is with
  | nil => cases h
  | cons i is => exact ⟨i, is, rfl, h.1, h.2⟩
theorem ins_i64 {ss : List Shp} {is : List In} (h : InsOk (.one (.int .i64) :: ss) is) : ∃ (a : Int) (is' : List In), is = .one (.int .i64 a) :: is' ∧ InsOk ss is' := by
  obtain ⟨i, is', rfl, h1, h2⟩ := ins_cons h
  cases i with
  | one v =>
    obtain ⟨⟨a, rfl, _⟩, _⟩ := h1
    exact ⟨a, is', rfl, h2⟩
  | _ => cases h1
theorem ins_bool {ss : List Shp} {is : List In} (h : InsOk (.one .bool :: ss) is) : ∃ (a : Bool) (is' : List In), is = .one (.bool a) :: is' ∧ InsOk ss is' := by
  obtain ⟨i, is', rfl, h1, h2⟩ := ins_cons h
  cases i with
  | one v =>
    obtain ⟨⟨a, rfl⟩, _⟩ := h1
    exact ⟨a, is', rfl, h2⟩
  | _ => cases h1
theorem ins_str {ss : List Shp} {is : List In} (h : InsOk (.one .str :: ss) is) : ∃ (a : ByteArray) (is' : List In), is = .one (.string a) :: is' ∧ InsOk ss is' ∧ a.size ≤ reachBytes := by
  obtain ⟨i, is', rfl, h1, h2⟩ := ins_cons h
  cases i with
  | one v =>
    obtain ⟨⟨a, rfl, hs⟩, hr⟩ := h1
    exact ⟨a, is', rfl, h2, hr _ rfl⟩
  | _ => cases h1
theorem ins_arr {n : Nat} {ss : List Shp} {is : List In} (h : InsOk (.arr n (.int .i64) :: ss) is) : ∃ (g : Nat → Int) (is' : List In), is = .arr (fun k => .int .i64 (g k)) :: is' ∧ InsOk ss is' := by
  obtain ⟨i, is', rfl, h1, h2⟩ := ins_cons h
  cases i with
  | arr f =>
    have : ∀ i, ∃ a, f i = .int .i64 a := fun i => (h1 i).elim fun a ha => ⟨a, ha.1⟩
    refine ⟨fun i => (this i).choose, is', ?_, h2⟩
    congr 2
    funext i
    exact (this i).choose_spec
  | _ => cases h1
theorem ins_ints {e : TypeId} {ss : List Shp} {is : List In} (h : InsOk (.rows e [.int .i64] :: ss) is) : ∃ (k : Nat) (g : Nat → Int) (is' : List In), is = .rows k (fun i => [.int .i64 (g i)]) :: is' ∧ InsOk ss is' ∧ k ≤ maxLen := by
  obtain ⟨i, is', rfl, h1, h2⟩ := ins_cons h
  cases i with
  | rows k f =>
    obtain ⟨hk, h1⟩ := h1
    have : ∀ i, ∃ a, f i = [.int .i64 a] := fun i => by
      obtain ⟨b, hb, a, rfl, _⟩ := (h1 i).get 0 _ rfl
      have hl := (h1 i).length
      match hf : f i, hl with
      | [x], _ =>
        rw [hf] at hb
        cases hb
        exact ⟨a, rfl⟩
    refine ⟨k, fun i => (this i).choose, is', ?_, h2, hk⟩
    congr 2
    funext i
    exact (this i).choose_spec
  | _ => cases h1
/-- What the kernel looks at, of a parameter. -/
def shpOk (P : Program) (t : TypeId) (s : Shp) : Bool :=
  P.readableRec t && decide (t < P.types.size) &&
  match s with
  | .one k => descIs (P.underlying t) k
  | .agg ks => flatIn P 9 t == some ks && (match P.underlying t with | some (.struct _) => true | _ => false)
  | .arr n k => flatIn P 9 t == some (List.replicate n k) && (match P.underlying t with | some (.struct _) => true | _ => false)
  | .rows e ks => sliceIs (P.underlying t) e && flatIn P 9 e == some ks && ks.length == P.cellsOf e && decide (0 < ks.length)
def shpsOk (P : Program) : List TypeId → List Shp → Bool
  | [], [] => true
  | t :: ts, s :: ss => shpOk P t s && shpsOk P ts ss
  | _, _ => false

section
variable {H : Type} {enc : TypeId × Value → H} {P : Program} {W : World} {base : Nat}

/-- A block that came in, and where it lies. -/
def Came (B : Nat) (w : World) (o : Option ABlk) (p : Pl) : Prop := ∃ b, o = some b ∧ b.own = false ∧ ∀ m, BR B m b p w

theorem came_hr {B : Nat} {w : World} {h : AHeap} {m : List Pl} (H : F2 (Came B w) h m) : HR B m h w ∧ ∀ (id : Nat) b, h[id]? = some (some b) → b.own = false := by
  have hown : ∀ (id : Nat) b, h[id]? = some (some b) → b.own = false := by
    intro id b hb
    obtain ⟨p, _, b', e, ho, _⟩ := H.get id _ hb
    cases e
    exact ho
  refine ⟨{ len := H.length.symm, blk := ?_, apart := ?_ }, hown⟩
  · intro id b p hb hp
    obtain ⟨p', hp', b', e, _, hr⟩ := H.get id _ hb
    cases e
    rw [hp] at hp'
    cases hp'
    exact hr m
  · intro id id' b b' p p' A A' _ hb _ ho
    rw [hown id b hb] at ho
    cases ho

theorem came_one {t : TypeId} {s : Shp} {v : Value} {d : DataW H} {p : List MemPlace} (hs : shpOk P t s = true) (hval : Value.okWide P W .any base t v) (ht : DataW.Trod enc P W 0 (fun _ => true) true t v d p) (hlt : ∀ x ∈ p, x.block < W.heap.size) (hwt : (DataW.weights P t d).all (· ≤ reachBytes) = true) :
    ∃ (i : In) (ml : List Pl), InOk s i ∧ F2 (Came W.heap.size W) (blkIn s i) ml ∧ ∀ m0 : List Pl, ∀ mr, VR (m0 ++ (ml ++ mr)) (avIn m0.length s i) v := by
  obtain ⟨fuel, hf⟩ := ht
  unfold shpOk at hs
  simp only [Bool.and_eq_true] at hs
  obtain ⟨_, hs⟩ := hs
  cases s with
  | one k =>
    have hu : P.underlying t = some k.desc := descIs_ok hs
    refine ⟨.one v, [], ?_, .nil, fun m0 mr => (rfl : v = v)⟩
    show k.ok v ∧ _
    cases k with
    | int k =>
      obtain ⟨n, rfl⟩ := okWide_int hu hval
      obtain ⟨n', h, _, hw⟩ := DataW.trod_int hu hf
      simp [Value.cells] at h
      subst h
      exact ⟨⟨n, rfl, hw⟩, fun _ h => nomatch h⟩
    | bool =>
      obtain ⟨b, rfl⟩ := okWide_bool hu hval
      exact ⟨⟨b, rfl⟩, fun _ h => nomatch h⟩
    | str =>
      obtain ⟨n, rfl⟩ := okWide_string hu hval
      obtain ⟨n', h, hx, hw⟩ := DataW.trod_string hu hf
      simp [Value.cells] at h
      subst h
      refine ⟨⟨n, rfl, hw⟩, fun s' hs' => ?_⟩
      cases hs'
      simp only [Prod.mk.injEq] at hx
      rw [hx.1] at hwt
      simp only [DataW.weights, List.all_cons, Bool.and_eq_true, decide_eq_true_eq] at hwt
      simpa using hwt.1
  | agg ks =>
    simp only [Bool.and_eq_true, beq_iff_eq] at hs
    obtain ⟨hk, hu⟩ := hs
    split at hu
    · rename_i fs hu'
      obtain ⟨cs, rfl, _⟩ := okWide_struct hu' hval
      have := (trod_flat 9 t ks hk fuel _ _ hf).1
      exact ⟨.agg cs.toList, [], this, .nil, fun m0 mr => ⟨cs, rfl, F2_ofCells _ _⟩⟩
    · cases hu
  | arr n k =>
    simp only [Bool.and_eq_true, beq_iff_eq] at hs
    obtain ⟨hk, hu⟩ := hs
    split at hu
    · rename_i fs hu'
      obtain ⟨cs, rfl, _⟩ := okWide_struct hu' hval
      have h1 : F2 Kd.ok (List.replicate n k) cs.toList := (trod_flat 9 t _ hk fuel _ _ hf).1
      have hl : cs.size = n := by have := h1.length; simp at this; omega
      have hget : ∀ i, k.ok (cs.toList.getD i k.zero) := by
        intro i
        rcases Nat.lt_or_ge i n with hi | hi
        · obtain ⟨b, hb, hok⟩ := h1.get i k (by simp [hi])
          rw [List.getD_eq_getElem?_getD, hb]
          exact hok
        · rw [List.getD_eq_getElem?_getD, List.getElem?_eq_none (by simp; omega)]
          exact k.zero_ok
      refine ⟨.arr fun i => cs.toList.getD i k.zero, [], hget, .nil, fun m0 mr => ⟨?_, fun i _ => Kd.one (hget i)⟩⟩
      have : cs.toList = (List.range n).map fun i => cs.toList.getD i k.zero := by
        apply List.ext_getElem
        · simp [hl]
        · intro i h1 h2
          simp [List.getD_eq_getElem?_getD, List.getElem?_eq_getElem h1]
          have : i < cs.size := by simpa using h1
          simp [this]
      rw [← this]
    · cases hu
  | rows e ks =>
    simp only [Bool.and_eq_true, beq_iff_eq, decide_eq_true_eq] at hs
    obtain ⟨⟨⟨hu0, hk⟩, hc⟩, hpos⟩ := hs
    have hu := sliceIs_ok hu0
    obtain ⟨a0, len, cap, rfl⟩ := okWide_slice hu hval
    rcases DataW.trod_slice hu hf with ⟨hcs, hx⟩ | ⟨a, len', cap', elems, rest, n, _, hcs, hx, _, hl, hm, hlen, hel, _, _⟩
    · simp [Value.cells] at hcs
      obtain ⟨rfl, rfl, rfl⟩ := hcs
      refine ⟨.rows 0 fun _ => ks.map Kd.zero, [⟨none, 0, ks.length⟩], ⟨Nat.zero_le _, fun i => Kd.zeros_ok ks⟩, .cons ⟨_, rfl, rfl, fun m => ?_⟩ .nil, fun m0 mr => ?_⟩
      · exact { sz := rfl, len := fun i hi => absurd hi (Nat.not_lt_zero _), cap := Nat.le_refl _, cell := fun i j c hi => absurd hi (Nat.not_lt_zero _), own := fun h => (by cases h), came := fun _ A h => (by cases h) }
      · exact ⟨⟨none, 0, ks.length⟩, none, 0, by simp, rfl, ⟨Nat.le_refl _, fun _ => rfl⟩, fun _ => ⟨rfl, rfl⟩, fun h => absurd h (Nat.lt_irrefl _)⟩
    · simp [Value.cells] at hcs
      obtain ⟨rfl, rfl, rfl⟩ := hcs
      simp only [Prod.mk.injEq] at hx
      obtain ⟨rfl, rfl⟩ := hx
      have each : ∀ i, i < len → ∃ cs, W.cells? 0 (a.add (i * P.cellsOf e)) (P.cellsOf e) = some cs ∧ F2 Kd.ok ks cs ∧ ∀ j, j < P.cellsOf e → W.cell? ((a.add (i * P.cellsOf e)).add j) = cs[j]? := by
        intro i hi
        have := hel i hi
        rw [List.getElem?_eq_getElem (by omega), Option.bind_eq_some_iff] at this
        obtain ⟨cs, hcs, hy⟩ := this
        exact ⟨cs, hcs, (trod_flat 9 e ks hk _ _ _ hy).1, (World.cells?_some hcs).2.2⟩
      let f : Nat → List Value := fun i => if i < len then (W.cells? 0 (a.add (i * P.cellsOf e)) (P.cellsOf e)).getD [] else ks.map Kd.zero
      have hfi : ∀ i, i < len → F2 Kd.ok ks (f i) ∧ ∀ j, j < P.cellsOf e → W.cell? ((a.add (i * P.cellsOf e)).add j) = (f i)[j]? := by
        intro i hi
        obtain ⟨cs, h1, h2, h3⟩ := each i hi
        have : f i = cs := by simp only [f, h1, Option.getD_some, hi, if_true]
        rw [this]
        exact ⟨h2, h3⟩
      have hall : ∀ i, F2 Kd.ok ks (f i) := by
        intro i
        by_cases hi : i < len
        · exact (hfi i hi).1
        · simp only [f, hi, if_false]
          exact Kd.zeros_ok ks
      have hsp : 0 < len → a.spot = none := by
        intro h0
        obtain ⟨h1, h2⟩ := hfi 0 h0
        have h3 := h2 0 (by omega)
        have hl0 : (f 0).length = ks.length := h1.length.symm
        rw [List.getElem?_eq_getElem (by omega)] at h3
        simpa [Addr.add] using World.cell?_spot h3
      refine ⟨.rows len f, [⟨some a, cap, ks.length⟩], ⟨Nat.le_trans hl hm, hall⟩, .cons ⟨_, rfl, rfl, fun m => ?_⟩ .nil, fun m0 mr => ?_⟩
      · refine { sz := rfl, len := fun i hi => ?_, cap := hl, cell := ?_, own := fun h => (by cases h), came := ?_ }
        · show (ofCells (f i)).length = ks.length
          rw [ofCells, List.length_map]
          exact (hfi i hi).1.length.symm
        · intro i j c hi hcj
          obtain ⟨h1, h2⟩ := hfi i hi
          have hcj' : ((f i).map AC.v)[j]? = some c := hcj
          rw [List.getElem?_map, Option.map_eq_some_iff] at hcj'
          obtain ⟨x, hx, rfl⟩ := hcj'
          have hj : j < P.cellsOf e := by
            have := (List.getElem?_eq_some_iff.1 hx).1
            have := h1.length
            omega
          have h3 := h2 j hj
          have hs0 := hsp (by have : i < len := hi; omega)
          refine ⟨a, x, rfl, hs0, ?_, rfl, ?_⟩
          · obtain ⟨b, off, spot⟩ := a
            simp only at hs0
            subst hs0
            rw [add_plain, add_plain, hx] at h3
            rw [← h3]
            simp [hc, Nat.add_assoc]
          · have hj2 : j < ks.length := by omega
            obtain ⟨y, hy, hok⟩ := h1.get j ks[j] (by simp [hj2])
            rw [hx] at hy
            cases hy
            exact Kd.one hok
        · intro _ A hA hn
          cases hA
          have hn' : 0 < len := hn
          have : MemPlace.cell a.block a.off ∈ MemPlace.row a ((elems.length + rest.length) * P.cellsOf e) := by
            refine MemPlace.mem_row.2 ⟨0, ?_, by simp⟩
            have : 0 < P.cellsOf e := by omega
            exact Nat.mul_pos (by omega) this
          exact hlt _ (List.mem_append_left _ this)
      · refine ⟨⟨some a, cap, ks.length⟩, some a, cap, by simp, rfl, ⟨hl, fun e => nomatch e⟩, fun _ => ⟨rfl, rfl⟩, fun hpos' => ?_⟩
        have hs0 := hsp hpos'
        refine ⟨a, rfl, hs0, ?_⟩
        obtain ⟨b, off, spot⟩ := a
        simp only at hs0
        subst hs0
        simp

theorem came_all : ∀ {ts : List TypeId} {ss : List Shp} {vs : List Value} {ds : List (DataW H)} {p : List MemPlace}, shpsOk P ts ss = true → (∀ (j : Nat) t v, ts[j]? = some t → vs[j]? = some v → Value.okWide P W .any base t v) →
    DataW.TrodAll enc P W 0 (fun _ => true) true ts vs ds p → (∀ x ∈ p, x.block < W.heap.size) → (DataW.weightsEach P ts ds).all (· ≤ reachBytes) = true →
    ∃ (is : List In) (ml : List Pl), InsOk ss is ∧ F2 (Came W.heap.size W) (blksIn ss is) ml ∧ ∀ m0 : List Pl, ∀ mr, VRs (m0 ++ (ml ++ mr)) (avsIn m0.length ss is) vs
  | [], [], vs, ds, p, _, _, h, _, _ => by
    obtain ⟨h1, rfl, rfl⟩ := trodAll_nil h
    have : vs = [] := by simpa using h1
    subst this
    exact ⟨[], [], trivial, .nil, fun _ _ => trivial⟩
  | [], _ :: _, _, _, _, hs, _, _, _, _ => by cases hs
  | _ :: _, [], _, _, _, hs, _, _, _, _ => by cases hs
  | t :: ts, s :: ss, vs, ds, p, hs, hval, h, hlt, hwt => by
    simp only [shpsOk, Bool.and_eq_true] at hs
    obtain ⟨v, vs', d, ds', p1, p2, rfl, rfl, rfl, h1, h2⟩ := trodAll_cons h
    simp only [DataW.weightsEach, List.all_append, Bool.and_eq_true] at hwt
    obtain ⟨i, ml, a1, a2, a3⟩ := came_one hs.1 (hval 0 t v rfl rfl) h1 (fun x hx => hlt x (List.mem_append_left _ hx)) hwt.1
    obtain ⟨is, ml', b1, b2, b3⟩ := came_all hs.2 (fun j t' v' ht' hv' => hval (j + 1) t' v' (by simpa using ht') (by simpa using hv')) h2 (fun x hx => hlt x (List.mem_append_right _ hx)) hwt.2
    refine ⟨i :: is, ml ++ ml', ⟨a1, b1⟩, a2.append b2, fun m0 mr => ?_⟩
    have e1 := a3 m0 (ml' ++ mr)
    have e2 := b3 (m0 ++ ml) mr
    rw [List.length_append, ← a2.length] at e2
    simp only [avsIn]
    refine ⟨?_, ?_⟩
    · simpa [List.append_assoc] using e1
    · simpa [List.append_assoc] using e2

theorem trodAll_len {w : World} {spare : Nat → Bool} {held : Bool} : ∀ {ts : List TypeId} {vs : List Value} {ds : List (DataW H)} {p : List MemPlace}, DataW.TrodAll enc P w base spare held ts vs ds p → ds.length = ts.length
  | [], vs, ds, p, h => by
    obtain ⟨_, rfl, _⟩ := trodAll_nil h
    rfl
  | t :: ts, vs, ds, p, h => by
    obtain ⟨v, vs', d, ds', p1, p2, rfl, rfl, rfl, _, h2⟩ := trodAll_cons h
    simp [trodAll_len h2]
theorem Below.trodAll' {W' : World} (hl : laidOutB P = true) : ∀ {ts : List TypeId} {ss : List Shp} {vs : List Value} {ds : List (DataW H)} {p : List MemPlace}, shpsOk P ts ss = true →
    DataW.TrodAll enc P W 0 (fun _ => true) true ts vs ds p → (∀ x ∈ p, x.block < W.heap.size) → Below W.heap.size W W' → DataW.TrodAll enc P W' 0 (fun b => decide (b < W.heap.size)) true ts vs ds p
  | [], [], vs, ds, p, _, h, _, _ => by
    obtain ⟨h1, rfl, rfl⟩ := trodAll_nil h
    have : vs = [] := by simpa using h1
    subst this
    exact trodAll_mk0
  | [], _ :: _, _, _, _, hs, _, _, _ => by cases hs
  | _ :: _, [], _, _, _, hs, _, _, _ => by cases hs
  | t :: ts, s :: ss, vs, ds, p, hs, h, hlt, hb => by
    simp only [shpsOk, Bool.and_eq_true] at hs
    obtain ⟨v, vs', d, ds', p1, p2, rfl, rfl, rfl, h1, h2⟩ := trodAll_cons h
    have hso := hs.1
    unfold shpOk at hso
    simp only [Bool.and_eq_true, decide_eq_true_eq] at hso
    exact trodAll_cons_mk (Below.trod hl hso.1.1 hso.1.2 h1 hb fun x hx => hlt x (List.mem_append_left _ hx)) (Below.trodAll' hl hs.2 h2 (fun x hx => hlt x (List.mem_append_right _ hx)) hb)
end

theorem Fr.below {X : Nat → Prop} {w w' : World} (h : Fr X w w') (hx : ∀ k, k < w.heap.size → ¬ X k) : Below w.heap.size w w' :=
  ⟨h.os, h.tape, h.output, h.size, fun k hk => h.blk k hk (hx k hk)⟩

theorem laidOut : laidOutB Try.prog = true := by kernel_rfl
theorem ownK : ownKnob Try.prog.godebug = none := by kernel_rfl
theorem un4 : Try.prog.underlying 4 = some .bool := by kernel_rfl

noncomputable def trueF (K : Known) (fn : Func) : Spec := fun args h => .need (yes (∃ keep L d ts, (afun (GT K keep L ts) d fn args h).eval = some (Bo true, h))) (.ret (Bo true, h))
theorem trueF_ok {K : Known} (hK : KnownOk K) {f : Nat} {fn : Func} (hf : Try.prog.funcs[f]? = some fn) : SpecOk Try.prog f (trueF K fn) := by
  refine knownT hK hf fun args h r he => ?_
  obtain ⟨h1, he⟩ := Tr.eval_ask.1 he
  cases he
  exact h1

/-- A function that gives back 'true', whatever came in. -/
theorem law_callsT {H : Type} {enc : TypeId × Value → H} {W : World} {base : Nat} {K : Known} (hK : KnownOk K) {f : Nat} {fn : Func} (hf : Try.prog.funcs[f]? = some fn) {ts : List TypeId} {ss : List Shp} {args : Array Value} {ds : List (DataW H)} {p : List MemPlace} (hs : shpsOk Try.prog ts ss = true)
    (hval : ∀ (j : Nat) t v, ts[j]? = some t → args.toList[j]? = some v → Value.okWide Try.prog W .any base t v) (hA : DataW.TrodAll enc Try.prog W 0 (fun _ => true) true ts args.toList ds p) (hlt : ∀ x ∈ p, x.block < W.heap.size) (hwt : (DataW.weightsEach Try.prog ts ds).all (· ≤ reachBytes) = true)
    (he : ∀ is, InsOk ss is → ∃ keep L d tm, (afun (GT K keep L tm) d fn (avsIn 0 ss is) (blksIn ss is)).eval = some (Bo true, blksIn ss is)) :
    Calls Try.prog f args W fun e w' => e = .returned (.bool true) ∧ Below W.heap.size W w' := by
  obtain ⟨is, ml, h1, h2, h3⟩ := came_all hs hval hA hlt hwt
  obtain ⟨hH, ho⟩ := came_hr h2
  have hv : VRs ml (avsIn 0 ss is) args.toList := by simpa using h3 [] []
  have he' : (trueF K fn (avsIn 0 ss is) (blksIn ss is)).eval = some (Bo true, blksIn ss is) := Tr.eval_ask.2 ⟨he is h1, rfl⟩
  refine (trueF_ok hK hf _ _ _ _ _ he' ml W args hH (Nat.le_refl _) hv).mono fun e w' h => ?_
  obtain ⟨m', x, rfl, hst, hr⟩ := h
  have : x = .bool true := hr
  subst this
  refine ⟨rfl, hst.fr.below fun k _ => ?_⟩
  rintro ⟨id, b, p, A, hb, hown, _⟩
  rw [ho id b hb] at hown
  cases hown

theorem law_calls {H : Type} {enc : TypeId × Value → H} {W : World} {base : Nat} {K : Known} (hK : KnownOk K) {f : Nat} {fn : Func} (hf : Try.prog.funcs[f]? = some fn) {ts : List TypeId} {ss : List Shp} {args : Array Value} {ds : List (DataW H)} {p : List MemPlace} (hs : shpsOk Try.prog ts ss = true)
    (hval : ∀ (j : Nat) t v, ts[j]? = some t → args.toList[j]? = some v → Value.okWide Try.prog W .any base t v) (hA : DataW.TrodAll enc Try.prog W 0 (fun _ => true) true ts args.toList ds p) (hlt : ∀ x ∈ p, x.block < W.heap.size) (hwt : (DataW.weightsEach Try.prog ts ds).all (· ≤ reachBytes) = true)
    (he : ∀ is, InsOk ss is → ∃ keep L d, (afun (GK K keep L) d fn (avsIn 0 ss is) (blksIn ss is)).eval = some (Bo true, blksIn ss is)) :
    Calls Try.prog f args W fun e w' => e = .returned (.bool true) ∧ Below W.heap.size W w' :=
  law_callsT hK hf hs hval hA hlt hwt fun is h => by
    obtain ⟨keep, L, d, h⟩ := he is h
    exact ⟨keep, L, d, [], h⟩

end Go.Proofs.Ytcpahifgdppkbaa.QAI
