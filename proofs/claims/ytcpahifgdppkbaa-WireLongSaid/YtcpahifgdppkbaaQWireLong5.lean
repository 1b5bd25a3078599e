/- What comes in: values without addresses, rows of such; from a function that gives back 'true' whatever comes in to a call. -/
import Derived.Test.YtcpahifgdppkbaaQWireLong4
import Derived.ProofKit
import Derived.OpenShut
import Derived.HandedShaped
import Derived.Laws.Externs
import Derived.WalkKit
import Derived.BigCall
import Derived.BigGuard
set_option linter.unusedVariables false
set_option linter.unusedSimpArgs false
set_option maxRecDepth 100000
namespace Go.Proofs.Ytcpahifgdppkbaa.QAI
section
open Go Go.RowKit Go.ChangeShapes Go.WideShapes Go.ChangeAt

inductive Kd where
  | int (k : IntKind)
  | bool
  | str
  deriving DecidableEq
def Kd.ok : Kd → Value → Prop
  | .int k, v => ∃ n, v = .int k n ∧ (Lit.int k n).wf = true
  | .bool, v => ∃ b, v = .bool b
  | .str, v => ∃ s : ByteArray, v = .string s ∧ s.size ≤ maxLen
def Kd.desc : Kd → TypeDesc
  | .int k => .int k
  | .bool => .bool
  | .str => .string
def Kd.zero : Kd → Value
  | .int k => .int k 0
  | .bool => .bool false
  | .str => .string ⟨#[]⟩
theorem Kd.zero_ok (k : Kd) : k.ok k.zero := by
  cases k with
  | int k => exact ⟨0, rfl, by cases k <;> decide⟩
  | bool => exact ⟨false, rfl⟩
  | str => exact ⟨⟨#[]⟩, rfl, by decide⟩
theorem Kd.zeros_ok : ∀ ks : List Kd, F2 Kd.ok ks (ks.map Kd.zero)
  | [] => .nil
  | k :: ks => .cons k.zero_ok (Kd.zeros_ok ks)
theorem Kd.one {k : Kd} {v : Value} (h : k.ok v) : oneV v = true := by
  cases k with
  | int k => obtain ⟨n, rfl, _⟩ := h; rfl
  | bool => obtain ⟨b, rfl⟩ := h; rfl
  | str => obtain ⟨s, rfl, _⟩ := h; rfl

def flatFs (P : Program) (g : TypeId → Option (List Kd)) : List Field → Nat → Option (List Kd)
  | [], _ => some []
  | f :: fs, off =>
    if f.offset != off then none else
    match g f.type, flatFs P g fs (off + P.cellsOf f.type) with
    | some a, some b => if a.length = P.cellsOf f.type then some (a ++ b) else none
    | _, _ => none
def flatIn (P : Program) : Nat → TypeId → Option (List Kd)
  | 0, _ => none
  | d + 1, t =>
    match P.underlying t with
    | some (.int k) => some [.int k]
    | some .bool => some [.bool]
    | some .string => some [.str]
    | some (.struct fs) => match flatFs P (flatIn P d) fs.toList 0 with
      | some ks => if ks.length = P.cellsOf t then some ks else none
      | none => none
    | some (.array n e) => match flatIn P d e with
      | some ks => if ks.length = P.cellsOf e ∧ n * ks.length = P.cellsOf t then some (List.replicate n ks).flatten else none
      | none => none
    | _ => none

section
variable {H : Type} {enc : TypeId × Value → H} {P : Program} {w : World} {base : Nat} {spare : Nat → Bool} {held : Bool}

theorem flatFs_mem {g : TypeId → Option (List Kd)} : ∀ {fs : List Field} {off : Nat} {ks}, flatFs P g fs off = some ks → ∀ f ∈ fs, ∃ a, g f.type = some a
  | [], _, _, _, f, hf => by cases hf
  | f' :: fs, off, ks, h, f, hf => by
    simp only [flatFs] at h
    split at h
    · cases h
    · split at h
      · rename_i a b ha hb
        rcases List.mem_cons.1 hf with rfl | hf
        · exact ⟨a, ha⟩
        · exact flatFs_mem hb f hf
      · cases h

theorem flatFs_ok {g : TypeId → Option (List Kd)} {n : Nat} {cs : List Value} (hg : ∀ t a, g t = some a → ∀ cs x, DataW.trod enc P w base spare held n t cs = some x → F2 Kd.ok a cs ∧ x.2 = []) :
    ∀ {fs : List Field} {off : Nat} {ks}, flatFs P g fs off = some ks → (∀ f ∈ fs, ∃ y, DataW.trod enc P w base spare held n f.type ((cs.drop f.offset).take (P.cellsOf f.type)) = some y) →
      F2 Kd.ok ks ((cs.drop off).take ks.length)
  | [], off, ks, h, _ => by
    simp only [flatFs, Option.some.injEq] at h
    subst h
    simpa using F2.nil
  | f :: fs, off, ks, h, hy => by
    simp only [flatFs] at h
    split at h
    · cases h
    · rename_i ho
      have ho' : f.offset = off := by simpa using ho
      split at h
      · rename_i a b ha hb
        split at h
        · rename_i hl
          simp only [Option.some.injEq] at h
          subst h
          obtain ⟨y, hyf⟩ := hy f List.mem_cons_self
          have h1 := (hg _ _ ha _ _ hyf).1
          have h2 := flatFs_ok (cs := cs) hg hb (fun f' hf' => hy f' (List.mem_cons_of_mem _ hf'))
          rw [ho', ← hl] at h1
          rw [← hl] at h2
          have := h1.append h2
          rw [List.length_append, List.take_add, List.drop_drop]
          exact this
        · cases h
      · cases h

theorem flatArr_ok {e : TypeId} {ks : List Kd} {n s : Nat} {cs : List Value} (hs : ks.length = s) (hg : ∀ i, i < n → F2 Kd.ok ks ((cs.drop (i * s)).take s)) :
    ∀ m, m ≤ n → F2 Kd.ok (List.replicate m ks).flatten (cs.take (m * s))
  | 0, _ => by simpa using F2.nil
  | m + 1, hm => by
    have ih := flatArr_ok (e := e) hs hg m (by omega)
    have h1 := hg m (by omega)
    rw [List.replicate_succ', List.flatten_append]
    simp only [List.flatten_cons, List.flatten_nil, List.append_nil]
    rw [Nat.succ_mul, List.take_add]
    exact ih.append h1

theorem trod_flat : ∀ (d : Nat) (t : TypeId) (ks : List Kd), flatIn P d t = some ks → ∀ (fuel : Nat) (cs : List Value) x, DataW.trod enc P w base spare held fuel t cs = some x → F2 Kd.ok ks cs ∧ x.2 = []
  | 0, t, ks, hk, _, _, _, _ => by simp [flatIn] at hk
  | d + 1, t, ks, hk, fuel, cs, x, h => by
    simp only [flatIn] at hk
    split at hk
    · rename_i k hu
      simp only [Option.some.injEq] at hk
      subst hk
      obtain ⟨n, rfl, rfl, hw⟩ := DataW.trod_int hu h
      exact ⟨.cons ⟨n, rfl, hw⟩ .nil, rfl⟩
    · rename_i hu
      simp only [Option.some.injEq] at hk
      subst hk
      obtain ⟨b, rfl, rfl⟩ := DataW.trod_bool hu h
      exact ⟨.cons ⟨b, rfl⟩ .nil, rfl⟩
    · rename_i hu
      simp only [Option.some.injEq] at hk
      subst hk
      obtain ⟨s, rfl, rfl, hw⟩ := DataW.trod_string hu h
      exact ⟨.cons ⟨s, rfl, hw⟩ .nil, rfl⟩
    · rename_i fs hu
      split at hk
      · rename_i ks' hfs
        split at hk
        · rename_i hl
          simp only [Option.some.injEq] at hk
          subst hk
          obtain ⟨xs, n, _, rfl, hlen, hxs, hf⟩ := DataW.trod_struct hu h
          have hall : ∀ f ∈ fs.toList, ∃ y, y ∈ xs ∧ DataW.trod enc P w base spare held n f.type ((cs.drop f.offset).take (P.cellsOf f.type)) = some y := by
            intro f hf'
            obtain ⟨i, hi, rfl⟩ := List.getElem_of_mem hf'
            have hi' : i < fs.size := by simpa using hi
            have := hf i fs.toList[i] (by simp [hi'])
            have hix : i < xs.length := by omega
            rw [List.getElem?_eq_getElem hix] at this
            exact ⟨_, List.getElem_mem hix, this⟩
          have h1 := flatFs_ok (cs := cs) (fun t a ha cs x => trod_flat d t a ha n cs x) hfs fun f hf' => (hall f hf').elim fun y hy => ⟨y, hy.2⟩
          rw [List.drop_zero, hl, ← hlen, List.take_length] at h1
          refine ⟨h1, ?_⟩
          show xs.flatMap (·.2) = []
          rw [List.flatMap_eq_nil_iff]
          intro y hy
          obtain ⟨i, hi, rfl⟩ := List.getElem_of_mem hy
          have hif : i < fs.size := by omega
          have hfi := hf i fs[i] (by simp [hif])
          rw [List.getElem?_eq_getElem hi] at hfi
          obtain ⟨a, ha⟩ := flatFs_mem hfs fs[i] (by simp)
          exact (trod_flat d _ a ha n _ _ hfi).2
        · cases hk
      · cases hk
    · rename_i n e hu
      split at hk
      · rename_i ks' he
        split at hk
        · rename_i hl
          simp only [Option.some.injEq] at hk
          subst hk
          obtain ⟨xs, m, _, rfl, hlen, hxs, hf⟩ := DataW.trod_array hu h
          have hall : ∀ i, i < n → F2 Kd.ok ks' ((cs.drop (i * P.cellsOf e)).take (P.cellsOf e)) ∧ ∀ y, xs[i]? = some y → y.2 = [] := by
            intro i hi
            have hix : i < xs.length := by omega
            have := hf i hi
            rw [List.getElem?_eq_getElem hix] at this
            have h2 := trod_flat d e ks' he m _ _ this
            refine ⟨h2.1, fun y hy => ?_⟩
            rw [List.getElem?_eq_getElem hix] at hy
            cases hy
            exact h2.2
          have h1 := flatArr_ok (e := e) (cs := cs) hl.1 (fun i hi => (hall i hi).1) n (Nat.le_refl _)
          have e1 : n * P.cellsOf e = cs.length := by rw [hlen, ← hl.1]; exact hl.2
          rw [e1, List.take_length] at h1
          refine ⟨h1, ?_⟩
          show xs.flatMap (·.2) = []
          rw [List.flatMap_eq_nil_iff]
          intro y hy
          obtain ⟨i, hi, rfl⟩ := List.getElem_of_mem hy
          exact (hall i (by omega)).2 _ (by simp [hi])
        · cases hk
      · cases hk
    · cases hk
end

/-- What a parameter is. -/
inductive Shp where
  | one (k : Kd)
  | agg (ks : List Kd)
  | arr (n : Nat) (k : Kd)
  | rows (e : TypeId) (ks : List Kd)
inductive In where
  | one (v : Value)
  | agg (cs : List Value)
  | arr (f : Nat → Value)
  | rows (k : Nat) (f : Nat → List Value)
def InOk : Shp → In → Prop
  | .one k, .one v => k.ok v ∧ ∀ s, v = .string s → s.size ≤ reachBytes
  | .agg ks, .agg cs => F2 Kd.ok ks cs
  | .arr _ k, .arr f => ∀ i, k.ok (f i)
  | .rows _ ks, .rows k f => k ≤ maxLen ∧ ∀ i, F2 Kd.ok ks (f i)
  | _, _ => False
def InsOk : List Shp → List In → Prop
  | [], [] => True
  | s :: ss, i :: is => InOk s i ∧ InsOk ss is
  | _, _ => False
def avIn (id : Nat) : Shp → In → AV
  | _, .one v => .c (.v v)
  | _, .agg cs => .agg (ofCells cs)
  | .arr n _, .arr f => .arr n f
  | _, .rows k _ => .c (.sl id 0 k)
  | _, _ => .c .any
def blkIn : Shp → In → AHeap
  | .rows e ks, .rows k f => [some ⟨e, false, .row ks.length k f⟩]
  | _, _ => []
def avsIn : Nat → List Shp → List In → List AV
  | id, s :: ss, i :: is => avIn id s i :: avsIn (id + (blkIn s i).length) ss is
  | _, _, _ => []
def blksIn : List Shp → List In → AHeap
  | s :: ss, i :: is => blkIn s i ++ blksIn ss is
  | _, _ => []

def descIs : Option TypeDesc → Kd → Bool
  | some (.int a), .int b => decide (a = b)
  | some .bool, .bool => true
  | some .string, .str => true
  | _, _ => false
theorem descIs_ok {o : Option TypeDesc} {k : Kd} (h : descIs o k = true) : o = some k.desc := by
  unfold descIs at h
  split at h
  · have := of_decide_eq_true h
    subst this
    rfl
  · rfl
  · rfl
  · cases h
def sliceIs : Option TypeDesc → TypeId → Bool
  | some (.slice a), e => decide (a = e)
  | _, _ => false
theorem sliceIs_ok {o : Option TypeDesc} {e : TypeId} (h : sliceIs o e = true) : o = some (.slice e) := by
  unfold sliceIs at h
  split at h
  · have := of_decide_eq_true h
    subst this
    rfl
  · cases h
theorem ins_nil {is : List In} (h : InsOk [] is) : is = [] := by
  cases is with
  | nil => rfl
  | cons i is => cases h
theorem ins_cons {s : Shp} {ss : List Shp} {is : List In} (h : InsOk (s :: ss) is) : ∃ i is', is = i :: is' ∧ InOk s i ∧ InsOk ss is' := by
  cases is with
  | nil => cases h
  | cons i is => exact ⟨i, is, rfl, h.1, h.2⟩
theorem ins_i64 {ss : List Shp} {is : List In} (h : InsOk (.one (.int .i64) :: ss) is) : ∃ (a : Int) (is' : List In), is = .one (.int .i64 a) :: is' ∧ InsOk ss is' := by
  obtain ⟨i, is', rfl, h1, h2⟩ := ins_cons h
  cases i with
  | one v =>
    obtain ⟨⟨a, rfl, _⟩, _⟩ := h1
    exact ⟨a, is', rfl, h2⟩
  | _ => cases h1
theorem ins_bool {ss : List Shp} {is : List In} (h : InsOk (.one .bool :: ss) is) : ∃ (a : Bool) (is' : List In), is = .one (.bool a) :: is' ∧ InsOk ss is' := by
  obtain ⟨i, is', rfl, h1, h2⟩ := ins_cons h
  cases i with
  | one v =>
    obtain ⟨⟨a, rfl⟩, _⟩ := h1
    exact ⟨a, is', rfl, h2⟩
  | _ => cases h1
theorem ins_str {ss : List Shp} {is : List In} (h : InsOk (.one .str :: ss) is) : ∃ (a : ByteArray) (is' : List In), is = .one (.string a) :: is' ∧ InsOk ss is' ∧ a.size ≤ reachBytes := by
  obtain ⟨i, is', rfl, h1, h2⟩ := ins_cons h
  cases i with
  | one v =>
    obtain ⟨⟨a, rfl, hs⟩, hr⟩ := h1
    exact ⟨a, is', rfl, h2, hr _ rfl⟩
  | _ => cases h1
theorem ins_arr {n : Nat} {ss : List Shp} {is : List In} (h : InsOk (.arr n (.int .i64) :: ss) is) : ∃ (g : Nat → Int) (is' : List In), is = .arr (fun k => .int .i64 (g k)) :: is' ∧ InsOk ss is' := by
  obtain ⟨i, is', rfl, h1, h2⟩ := ins_cons h
  cases i with
  | arr f =>
    have : ∀ i, ∃ a, f i = .int .i64 a := fun i => (h1 i).elim fun a ha => ⟨a, ha.1⟩
    refine ⟨fun i => (this i).choose, is', ?_, h2⟩
    congr 2
    funext i
    exact (this i).choose_spec
  | _ => cases h1
theorem ins_ints {e : TypeId} {ss : List Shp} {is : List In} (h : InsOk (.rows e [.int .i64] :: ss) is) : ∃ (k : Nat) (g : Nat → Int) (is' : List In), is = .rows k (fun i => [.int .i64 (g i)]) :: is' ∧ InsOk ss is' ∧ k ≤ maxLen := by
  obtain ⟨i, is', rfl, h1, h2⟩ := ins_cons h
  cases i with
  | rows k f =>
    obtain ⟨hk, h1⟩ := h1
    have : ∀ i, ∃ a, f i = [.int .i64 a] := fun i => by
      obtain ⟨b, hb, a, rfl, _⟩ := (h1 i).get 0 _ rfl
      have hl := (h1 i).length
      match hf : f i, hl with
      | [x], _ =>
        rw [hf] at hb
        cases hb
        exact ⟨a, rfl⟩
    refine ⟨k, fun i => (this i).choose, is', ?_, h2, hk⟩
    congr 2
    funext i
    exact (this i).choose_spec
  | _ => cases h1
/-- What the kernel looks at, of a parameter. -/
def shpOk (P : Program) (t : TypeId) (s : Shp) : Bool :=
  P.readableRec t && decide (t < P.types.size) &&
  match s with
  | .one k => descIs (P.underlying t) k
  | .agg ks => flatIn P 9 t == some ks && (match P.underlying t with | some (.struct _) => true | _ => false)
  | .arr n k => flatIn P 9 t == some (List.replicate n k) && (match P.underlying t with | some (.struct _) => true | _ => false)
  | .rows e ks => sliceIs (P.underlying t) e && flatIn P 9 e == some ks && ks.length == P.cellsOf e && decide (0 < ks.length)
def shpsOk (P : Program) : List TypeId → List Shp → Bool
  | [], [] => true
  | t :: ts, s :: ss => shpOk P t s && shpsOk P ts ss
  | _, _ => false

section
variable {H : Type} {enc : TypeId × Value → H} {P : Program} {W : World} {base : Nat}

/-- A block that came in, and where it lies. -/
def Came (B : Nat) (w : World) (o : Option ABlk) (p : Pl) : Prop := ∃ b, o = some b ∧ b.own = false ∧ ∀ m, BR B m b p w

theorem came_hr {B : Nat} {w : World} {h : AHeap} {m : List Pl} (H : F2 (Came B w) h m) : HR B m h w ∧ ∀ (id : Nat) b, h[id]? = some (some b) → b.own = false := by
  have hown : ∀ (id : Nat) b, h[id]? = some (some b) → b.own = false := by
    intro id b hb
    obtain ⟨p, _, b', e, ho, _⟩ := H.get id _ hb
    cases e
    exact ho
  refine ⟨{ len := H.length.symm, blk := ?_, apart := ?_ }, hown⟩
  · intro id b p hb hp
    obtain ⟨p', hp', b', e, _, hr⟩ := H.get id _ hb
    cases e
    rw [hp] at hp'
    cases hp'
    exact hr m
  · intro id id' b b' p p' A A' _ hb _ ho
    rw [hown id b hb] at ho
    cases ho

theorem came_one {t : TypeId} {s : Shp} {v : Value} {d : DataW H} {p : List MemPlace} (hs : shpOk P t s = true) (hval : Value.okWide P W .any base t v) (ht : DataW.Trod enc P W 0 (fun _ => true) true t v d p) (hlt : ∀ x ∈ p, x.block < W.heap.size) (hwt : (DataW.weights P t d).all (· ≤ reachBytes) = true) :
    ∃ (i : In) (ml : List Pl), InOk s i ∧ F2 (Came W.heap.size W) (blkIn s i) ml ∧ ∀ m0 : List Pl, ∀ mr, VR (m0 ++ (ml ++ mr)) (avIn m0.length s i) v := by
  obtain ⟨fuel, hf⟩ := ht
  unfold shpOk at hs
  simp only [Bool.and_eq_true] at hs
  obtain ⟨_, hs⟩ := hs
  cases s with
  | one k =>
    have hu : P.underlying t = some k.desc := descIs_ok hs
    refine ⟨.one v, [], ?_, .nil, fun m0 mr => (rfl : v = v)⟩
    show k.ok v ∧ _
    cases k with
    | int k =>
      obtain ⟨n, rfl⟩ := okWide_int hu hval
      obtain ⟨n', h, _, hw⟩ := DataW.trod_int hu hf
      simp [Value.cells] at h
      subst h
      exact ⟨⟨n, rfl, hw⟩, fun _ h => nomatch h⟩
    | bool =>
      obtain ⟨b, rfl⟩ := okWide_bool hu hval
      exact ⟨⟨b, rfl⟩, fun _ h => nomatch h⟩
    | str =>
      obtain ⟨n, rfl⟩ := okWide_string hu hval
      obtain ⟨n', h, hx, hw⟩ := DataW.trod_string hu hf
      simp [Value.cells] at h
      subst h
      refine ⟨⟨n, rfl, hw⟩, fun s' hs' => ?_⟩
      cases hs'
      simp only [Prod.mk.injEq] at hx
      rw [hx.1] at hwt
      simp only [DataW.weights, List.all_cons, Bool.and_eq_true, decide_eq_true_eq] at hwt
      simpa using hwt.1
  | agg ks =>
    simp only [Bool.and_eq_true, beq_iff_eq] at hs
    obtain ⟨hk, hu⟩ := hs
    split at hu
    · rename_i fs hu'
      obtain ⟨cs, rfl, _⟩ := okWide_struct hu' hval
      have := (trod_flat 9 t ks hk fuel _ _ hf).1
      exact ⟨.agg cs.toList, [], this, .nil, fun m0 mr => ⟨cs, rfl, F2_ofCells _ _⟩⟩
    · cases hu
  | arr n k =>
    simp only [Bool.and_eq_true, beq_iff_eq] at hs
    obtain ⟨hk, hu⟩ := hs
    split at hu
    · rename_i fs hu'
      obtain ⟨cs, rfl, _⟩ := okWide_struct hu' hval
      have h1 : F2 Kd.ok (List.replicate n k) cs.toList := (trod_flat 9 t _ hk fuel _ _ hf).1
      have hl : cs.size = n := by have := h1.length; simp at this; omega
      have hget : ∀ i, k.ok (cs.toList.getD i k.zero) := by
        intro i
        rcases Nat.lt_or_ge i n with hi | hi
        · obtain ⟨b, hb, hok⟩ := h1.get i k (by simp [hi])
          rw [List.getD_eq_getElem?_getD, hb]
          exact hok
        · rw [List.getD_eq_getElem?_getD, List.getElem?_eq_none (by simp; omega)]
          exact k.zero_ok
      refine ⟨.arr fun i => cs.toList.getD i k.zero, [], hget, .nil, fun m0 mr => ⟨?_, fun i _ => Kd.one (hget i)⟩⟩
      have : cs.toList = (List.range n).map fun i => cs.toList.getD i k.zero := by
        apply List.ext_getElem
        · simp [hl]
        · intro i h1 h2
          simp [List.getD_eq_getElem?_getD, List.getElem?_eq_getElem h1]
          have : i < cs.size := by simpa using h1
          simp [this]
      rw [← this]
    · cases hu
  | rows e ks =>
    simp only [Bool.and_eq_true, beq_iff_eq, decide_eq_true_eq] at hs
    obtain ⟨⟨⟨hu0, hk⟩, hc⟩, hpos⟩ := hs
    have hu := sliceIs_ok hu0
    obtain ⟨a0, len, cap, rfl⟩ := okWide_slice hu hval
    rcases DataW.trod_slice hu hf with ⟨hcs, hx⟩ | ⟨a, len', cap', elems, rest, n, _, hcs, hx, _, hl, hm, hlen, hel, _, _⟩
    · simp [Value.cells] at hcs
      obtain ⟨rfl, rfl, rfl⟩ := hcs
      refine ⟨.rows 0 fun _ => ks.map Kd.zero, [⟨none, 0, ks.length⟩], ⟨Nat.zero_le _, fun i => Kd.zeros_ok ks⟩, .cons ⟨_, rfl, rfl, fun m => ?_⟩ .nil, fun m0 mr => ?_⟩
      · exact { sz := rfl, len := fun i hi => absurd hi (Nat.not_lt_zero _), cap := Nat.le_refl _, cell := fun i j c hi => absurd hi (Nat.not_lt_zero _), own := fun h => (by cases h), came := fun _ A h => (by cases h) }
      · exact ⟨⟨none, 0, ks.length⟩, none, 0, by simp, rfl, ⟨Nat.le_refl _, fun _ => rfl⟩, fun _ => ⟨rfl, rfl⟩, fun h => absurd h (Nat.lt_irrefl _)⟩
    · simp [Value.cells] at hcs
      obtain ⟨rfl, rfl, rfl⟩ := hcs
      simp only [Prod.mk.injEq] at hx
      obtain ⟨rfl, rfl⟩ := hx
      have each : ∀ i, i < len → ∃ cs, W.cells? 0 (a.add (i * P.cellsOf e)) (P.cellsOf e) = some cs ∧ F2 Kd.ok ks cs ∧ ∀ j, j < P.cellsOf e → W.cell? ((a.add (i * P.cellsOf e)).add j) = cs[j]? := by
        intro i hi
        have := hel i hi
        rw [List.getElem?_eq_getElem (by omega), Option.bind_eq_some_iff] at this
        obtain ⟨cs, hcs, hy⟩ := this
        exact ⟨cs, hcs, (trod_flat 9 e ks hk _ _ _ hy).1, (World.cells?_some hcs).2.2⟩
      let f : Nat → List Value := fun i => if i < len then (W.cells? 0 (a.add (i * P.cellsOf e)) (P.cellsOf e)).getD [] else ks.map Kd.zero
      have hfi : ∀ i, i < len → F2 Kd.ok ks (f i) ∧ ∀ j, j < P.cellsOf e → W.cell? ((a.add (i * P.cellsOf e)).add j) = (f i)[j]? := by
        intro i hi
        obtain ⟨cs, h1, h2, h3⟩ := each i hi
        have : f i = cs := by simp only [f, h1, Option.getD_some, hi, if_true]
        rw [this]
        exact ⟨h2, h3⟩
      have hall : ∀ i, F2 Kd.ok ks (f i) := by
        intro i
        by_cases hi : i < len
        · exact (hfi i hi).1
        · simp only [f, hi, if_false]
          exact Kd.zeros_ok ks
      have hsp : 0 < len → a.spot = none := by
        intro h0
        obtain ⟨h1, h2⟩ := hfi 0 h0
        have h3 := h2 0 (by omega)
        have hl0 : (f 0).length = ks.length := h1.length.symm
        rw [List.getElem?_eq_getElem (by omega)] at h3
        simpa [Addr.add] using World.cell?_spot h3
      refine ⟨.rows len f, [⟨some a, cap, ks.length⟩], ⟨Nat.le_trans hl hm, hall⟩, .cons ⟨_, rfl, rfl, fun m => ?_⟩ .nil, fun m0 mr => ?_⟩
      · refine { sz := rfl, len := fun i hi => ?_, cap := hl, cell := ?_, own := fun h => (by cases h), came := ?_ }
        · show (ofCells (f i)).length = ks.length
          rw [ofCells, List.length_map]
          exact (hfi i hi).1.length.symm
        · intro i j c hi hcj
          obtain ⟨h1, h2⟩ := hfi i hi
          have hcj' : ((f i).map AC.v)[j]? = some c := hcj
          rw [List.getElem?_map, Option.map_eq_some_iff] at hcj'
          obtain ⟨x, hx, rfl⟩ := hcj'
          have hj : j < P.cellsOf e := by
            have := (List.getElem?_eq_some_iff.1 hx).1
            have := h1.length
            omega
          have h3 := h2 j hj
          have hs0 := hsp (by have : i < len := hi; omega)
          refine ⟨a, x, rfl, hs0, ?_, rfl, ?_⟩
          · obtain ⟨b, off, spot⟩ := a
            simp only at hs0
            subst hs0
            rw [add_plain, add_plain, hx] at h3
            rw [← h3]
            simp [hc, Nat.add_assoc]
          · have hj2 : j < ks.length := by omega
            obtain ⟨y, hy, hok⟩ := h1.get j ks[j] (by simp [hj2])
            rw [hx] at hy
            cases hy
            exact Kd.one hok
        · intro _ A hA hn
          cases hA
          have hn' : 0 < len := hn
          have : MemPlace.cell a.block a.off ∈ MemPlace.row a ((elems.length + rest.length) * P.cellsOf e) := by
            refine MemPlace.mem_row.2 ⟨0, ?_, by simp⟩
            have : 0 < P.cellsOf e := by omega
            exact Nat.mul_pos (by omega) this
          exact hlt _ (List.mem_append_left _ this)
      · refine ⟨⟨some a, cap, ks.length⟩, some a, cap, by simp, rfl, ⟨hl, fun e => nomatch e⟩, fun _ => ⟨rfl, rfl⟩, fun hpos' => ?_⟩
        have hs0 := hsp hpos'
        refine ⟨a, rfl, hs0, ?_⟩
        obtain ⟨b, off, spot⟩ := a
        simp only at hs0
        subst hs0
        simp

theorem came_all : ∀ {ts : List TypeId} {ss : List Shp} {vs : List Value} {ds : List (DataW H)} {p : List MemPlace}, shpsOk P ts ss = true → (∀ (j : Nat) t v, ts[j]? = some t → vs[j]? = some v → Value.okWide P W .any base t v) →
    DataW.TrodAll enc P W 0 (fun _ => true) true ts vs ds p → (∀ x ∈ p, x.block < W.heap.size) → (DataW.weightsEach P ts ds).all (· ≤ reachBytes) = true →
    ∃ (is : List In) (ml : List Pl), InsOk ss is ∧ F2 (Came W.heap.size W) (blksIn ss is) ml ∧ ∀ m0 : List Pl, ∀ mr, VRs (m0 ++ (ml ++ mr)) (avsIn m0.length ss is) vs
  | [], [], vs, ds, p, _, _, h, _, _ => by
    obtain ⟨h1, rfl, rfl⟩ := trodAll_nil h
    have : vs = [] := by simpa using h1
    subst this
    exact ⟨[], [], trivial, .nil, fun _ _ => trivial⟩
  | [], _ :: _, _, _, _, hs, _, _, _, _ => by cases hs
  | _ :: _, [], _, _, _, hs, _, _, _, _ => by cases hs
  | t :: ts, s :: ss, vs, ds, p, hs, hval, h, hlt, hwt => by
    simp only [shpsOk, Bool.and_eq_true] at hs
    obtain ⟨v, vs', d, ds', p1, p2, rfl, rfl, rfl, h1, h2⟩ := trodAll_cons h
    simp only [DataW.weightsEach, List.all_append, Bool.and_eq_true] at hwt
    obtain ⟨i, ml, a1, a2, a3⟩ := came_one hs.1 (hval 0 t v rfl rfl) h1 (fun x hx => hlt x (List.mem_append_left _ hx)) hwt.1
    obtain ⟨is, ml', b1, b2, b3⟩ := came_all hs.2 (fun j t' v' ht' hv' => hval (j + 1) t' v' (by simpa using ht') (by simpa using hv')) h2 (fun x hx => hlt x (List.mem_append_right _ hx)) hwt.2
    refine ⟨i :: is, ml ++ ml', ⟨a1, b1⟩, a2.append b2, fun m0 mr => ?_⟩
    have e1 := a3 m0 (ml' ++ mr)
    have e2 := b3 (m0 ++ ml) mr
    rw [List.length_append, ← a2.length] at e2
    simp only [avsIn]
    refine ⟨?_, ?_⟩
    · simpa [List.append_assoc] using e1
    · simpa [List.append_assoc] using e2

theorem trodAll_len {w : World} {spare : Nat → Bool} {held : Bool} : ∀ {ts : List TypeId} {vs : List Value} {ds : List (DataW H)} {p : List MemPlace}, DataW.TrodAll enc P w base spare held ts vs ds p → ds.length = ts.length
  | [], vs, ds, p, h => by
    obtain ⟨_, rfl, _⟩ := trodAll_nil h
    rfl
  | t :: ts, vs, ds, p, h => by
    obtain ⟨v, vs', d, ds', p1, p2, rfl, rfl, rfl, _, h2⟩ := trodAll_cons h
    simp [trodAll_len h2]
theorem Below.trodAll' {W' : World} (hl : laidOutB P = true) : ∀ {ts : List TypeId} {ss : List Shp} {vs : List Value} {ds : List (DataW H)} {p : List MemPlace}, shpsOk P ts ss = true →
    DataW.TrodAll enc P W 0 (fun _ => true) true ts vs ds p → (∀ x ∈ p, x.block < W.heap.size) → Below W.heap.size W W' → DataW.TrodAll enc P W' 0 (fun b => decide (b < W.heap.size)) true ts vs ds p
  | [], [], vs, ds, p, _, h, _, _ => by
    obtain ⟨h1, rfl, rfl⟩ := trodAll_nil h
    have : vs = [] := by simpa using h1
    subst this
    exact trodAll_mk0
  | [], _ :: _, _, _, _, hs, _, _, _ => by cases hs
  | _ :: _, [], _, _, _, hs, _, _, _ => by cases hs
  | t :: ts, s :: ss, vs, ds, p, hs, h, hlt, hb => by
    simp only [shpsOk, Bool.and_eq_true] at hs
    obtain ⟨v, vs', d, ds', p1, p2, rfl, rfl, rfl, h1, h2⟩ := trodAll_cons h
    have hso := hs.1
    unfold shpOk at hso
    simp only [Bool.and_eq_true, decide_eq_true_eq] at hso
    exact trodAll_cons_mk (Below.trod hl hso.1.1 hso.1.2 h1 hb fun x hx => hlt x (List.mem_append_left _ hx)) (Below.trodAll' hl hs.2 h2 (fun x hx => hlt x (List.mem_append_right _ hx)) hb)
end

theorem Fr.below {X : Nat → Prop} {w w' : World} (h : Fr X w w') (hx : ∀ k, k < w.heap.size → ¬ X k) : Below w.heap.size w w' :=
  ⟨h.os, h.tape, h.output, h.size, fun k hk => h.blk k hk (hx k hk)⟩

theorem laidOut : laidOutB Try.prog = true := by kernel_rfl
theorem ownK : ownKnob Try.prog.godebug = none := by kernel_rfl
theorem un4 : Try.prog.underlying 4 = some .bool := by kernel_rfl

noncomputable def trueF (K : Known) (fn : Func) : Spec := fun args h => .need (yes (∃ keep L d ts, (afun (GT K keep L ts) d fn args h).eval = some (Bo true, h))) (.ret (Bo true, h))
theorem trueF_ok {K : Known} (hK : KnownOk K) {f : Nat} {fn : Func} (hf : Try.prog.funcs[f]? = some fn) : SpecOk Try.prog f (trueF K fn) := by
  refine knownT hK hf fun args h r he => ?_
  obtain ⟨h1, he⟩ := Tr.eval_ask.1 he
  cases he
  exact h1

/-- A function that gives back 'true', whatever came in. -/
theorem law_callsT {H : Type} {enc : TypeId × Value → H} {W : World} {base : Nat} {K : Known} (hK : KnownOk K) {f : Nat} {fn : Func} (hf : Try.prog.funcs[f]? = some fn) {ts : List TypeId} {ss : List Shp} {args : Array Value} {ds : List (DataW H)} {p : List MemPlace} (hs : shpsOk Try.prog ts ss = true)
    (hval : ∀ (j : Nat) t v, ts[j]? = some t → args.toList[j]? = some v → Value.okWide Try.prog W .any base t v) (hA : DataW.TrodAll enc Try.prog W 0 (fun _ => true) true ts args.toList ds p) (hlt : ∀ x ∈ p, x.block < W.heap.size) (hwt : (DataW.weightsEach Try.prog ts ds).all (· ≤ reachBytes) = true)
    (he : ∀ is, InsOk ss is → ∃ keep L d tm, (afun (GT K keep L tm) d fn (avsIn 0 ss is) (blksIn ss is)).eval = some (Bo true, blksIn ss is)) :
    Calls Try.prog f args W fun e w' => e = .returned (.bool true) ∧ Below W.heap.size W w' := by
  obtain ⟨is, ml, h1, h2, h3⟩ := came_all hs hval hA hlt hwt
  obtain ⟨hH, ho⟩ := came_hr h2
  have hv : VRs ml (avsIn 0 ss is) args.toList := by simpa using h3 [] []
  have he' : (trueF K fn (avsIn 0 ss is) (blksIn ss is)).eval = some (Bo true, blksIn ss is) := Tr.eval_ask.2 ⟨he is h1, rfl⟩
  refine (trueF_ok hK hf _ _ _ _ _ he' ml W args hH (Nat.le_refl _) hv).mono fun e w' h => ?_
  obtain ⟨m', x, rfl, hst, hr⟩ := h
  have : x = .bool true := hr
  subst this
  refine ⟨rfl, hst.fr.below fun k _ => ?_⟩
  rintro ⟨id, b, p, A, hb, hown, _⟩
  rw [ho id b hb] at hown
  cases hown

theorem law_calls {H : Type} {enc : TypeId × Value → H} {W : World} {base : Nat} {K : Known} (hK : KnownOk K) {f : Nat} {fn : Func} (hf : Try.prog.funcs[f]? = some fn) {ts : List TypeId} {ss : List Shp} {args : Array Value} {ds : List (DataW H)} {p : List MemPlace} (hs : shpsOk Try.prog ts ss = true)
    (hval : ∀ (j : Nat) t v, ts[j]? = some t → args.toList[j]? = some v → Value.okWide Try.prog W .any base t v) (hA : DataW.TrodAll enc Try.prog W 0 (fun _ => true) true ts args.toList ds p) (hlt : ∀ x ∈ p, x.block < W.heap.size) (hwt : (DataW.weightsEach Try.prog ts ds).all (· ≤ reachBytes) = true)
    (he : ∀ is, InsOk ss is → ∃ keep L d, (afun (GK K keep L) d fn (avsIn 0 ss is) (blksIn ss is)).eval = some (Bo true, blksIn ss is)) :
    Calls Try.prog f args W fun e w' => e = .returned (.bool true) ∧ Below W.heap.size W w' :=
  law_callsT hK hf hs hval hA hlt hwt fun is h => by
    obtain ⟨keep, L, d, h⟩ := he is h
    exact ⟨keep, L, d, [], h⟩
end
section
open Go Go.RowKit
theorem law_callsS {H : Type} {enc : TypeId × Value → H} {W : World} {base : Nat} {K : Known} (hK : KnownOk K) {f : Nat} {fn : Func} (hf : Try.prog.funcs[f]? = some fn) {ts : List TypeId} {ss : List Shp} {args : Array Value} {ds : List (DataW H)} {p : List MemPlace} (hs : shpsOk Try.prog ts ss = true)
    (hval : ∀ (j : Nat) t v, ts[j]? = some t → args.toList[j]? = some v → Value.okWide Try.prog W .any base t v) (hA : DataW.TrodAll enc Try.prog W 0 (fun _ => true) true ts args.toList ds p) (hlt : ∀ x ∈ p, x.block < W.heap.size) (hwt : (DataW.weightsEach Try.prog ts ds).all (· ≤ reachBytes) = true)
    (he : ∀ is, InsOk ss is → ∃ keep tm d ℓ, LoopsSem (GT K keep 0 tm) (blksIn ss is).length ℓ ∧ (lfun (GT K keep 0 tm) ℓ d fn (avsIn 0 ss is) (blksIn ss is)).eval = some (Bo true, blksIn ss is)) :
    Calls Try.prog f args W fun e w' => e = .returned (.bool true) ∧ Below W.heap.size W w' := by
  obtain ⟨is, ml, h1, h2, h3⟩ := came_all hs hval hA hlt hwt
  obtain ⟨hH, ho⟩ := came_hr h2
  have hv : VRs ml (avsIn 0 ss is) args.toList := by simpa using h3 [] []
  have he' : (trueS K fn (avsIn 0 ss is) (blksIn ss is)).eval = some (Bo true, blksIn ss is) := Tr.eval_ask.2 ⟨he is h1, rfl⟩
  refine (trueS_ok hK hf _ _ _ _ _ he' ml W args hH (Nat.le_refl _) hv).mono fun e w' h => ?_
  obtain ⟨m', x, rfl, hst, hr⟩ := h
  have : x = .bool true := hr
  subst this
  refine ⟨rfl, hst.fr.below fun k _ => ?_⟩
  rintro ⟨id, b, p, A, hb, hown, _⟩
  rw [ho id b hb] at hown
  cases hown
end
section
open Go Go.RowKit
/-- From a state on the rounds of a loop come to an end, as told. -/
def LoopR (G : Ctx2) (n0 : Nat) (b : Code) (S : St) (r : Ex × St) : Prop :=
  ∃ L, ∀ (B : Nat) (m0 : List Pl) (h0 : AHeap) (w0 : World) (a : Act) (w : World), h0.length = n0 → m0.length = h0.length → RI B m0 h0 w0 S a w →
    ∀ Q, (∀ a' w', RI B m0 h0 w0 r.2 a' w' → Q (toExit r.1) a' w') → Code.rounds G.P b Q L a w
theorem LoopR.stop {G : Ctx2} {n0 : Nat} {b : Code} {S : St} {e : Ex} {Se : St} (he : e ≠ .normal) (h : CodeSem G n0 b S (e, Se)) : LoopR G n0 b S (e, Se) := by
  refine ⟨1, fun B m0 h0 w0 a w hn H0 hI Q hQ => ?_⟩
  rw [rounds_succ]
  refine h B m0 h0 w0 a w hn H0 hI _ ?_
  intro a' w' hI'
  cases e with
  | normal => exact absurd rfl he
  | exit id => exact hQ a' w' hI'
  | ret => exact hQ a' w' hI'
theorem LoopR.next {G : Ctx2} {n0 : Nat} {b : Code} {S S1 : St} {r : Ex × St} (h : CodeSem G n0 b S (.normal, S1)) (h2 : LoopR G n0 b S1 r) : LoopR G n0 b S r := by
  obtain ⟨L, h2⟩ := h2
  refine ⟨L + 1, fun B m0 h0 w0 a w hn H0 hI Q hQ => ?_⟩
  rw [rounds_succ]
  refine h B m0 h0 w0 a w hn H0 hI _ ?_
  intro a' w' hI'
  exact h2 B m0 h0 w0 a' w' hn H0 hI' Q hQ
theorem LoopR.sem {G : Ctx2} {n0 : Nat} {b : Code} {S : St} {r : Ex × St} (h : LoopR G n0 b S r) : CodeSem G n0 (.loop b) S r := by
  obtain ⟨L, h⟩ := h
  intro B m0 h0 w0 a w hn H0 hI Q hQ
  exact wp_loop_rounds L (h B m0 h0 w0 a w hn H0 hI Q hQ)
end
section
open Go Go.RowKit
section
variable {α β : Type}
def lastB (b : α → Bool) (l : List α) : Bool := match l.getLast? with
  | some x => b x
  | none => false
def put (b : α → Bool) (acc : List α) (g : α) : List α := bif b g && lastB b acc then acc else acc ++ [g]
def putAll (b : α → Bool) (acc l : List α) : List α := l.foldl (put b) acc
def headB (p : α → Bool) : List α → Bool
  | [] => true
  | x :: _ => p x
def trimF (b br : α → Bool) : Bool → List α → List α
  | _, [] => []
  | e, g :: l => bif b g && (e || headB br l) then trimF b br (br g) l else g :: trimF b br (br g) l
theorem putAll_app (b : α → Bool) (acc l l' : List α) : putAll b acc (l ++ l') = putAll b (putAll b acc l) l' := by simp [putAll, List.foldl_append]
theorem putAll_one (b : α → Bool) (acc : List α) (g : α) : putAll b acc [g] = put b acc g := rfl
theorem lastB_app (b : α → Bool) (l : List α) (x : α) : lastB b (l ++ [x]) = b x := by simp [lastB]
theorem lastB_map {b : α → Bool} {b' : β → Bool} {f : α → β} (hb : ∀ x, b' (f x) = b x) (l : List α) : lastB b' (l.map f) = lastB b l := by
  unfold lastB
  rw [List.getLast?_map]
  cases l.getLast? with
  | none => rfl
  | some x => simp [hb]
theorem put_map {b : α → Bool} {b' : β → Bool} {f : α → β} (hb : ∀ x, b' (f x) = b x) (l : List α) (g : α) : put b' (l.map f) (f g) = (put b l g).map f := by
  unfold put
  rw [lastB_map hb, hb]
  cases (b g && lastB b l) <;> simp
theorem putAll_map {b : α → Bool} {b' : β → Bool} {f : α → β} (hb : ∀ x, b' (f x) = b x) : ∀ (l acc : List α), putAll b' (acc.map f) (l.map f) = (putAll b acc l).map f
  | [], acc => rfl
  | g :: l, acc => by
    show putAll b' (put b' (acc.map f) (f g)) (l.map f) = (putAll b (put b acc g) l).map f
    rw [put_map hb]
    exact putAll_map hb l _
theorem headB_map {p : α → Bool} {p' : β → Bool} {f : α → β} (hp : ∀ x, p' (f x) = p x) : ∀ l : List α, headB p' (l.map f) = headB p l
  | [] => rfl
  | x :: l => hp x
theorem trimF_map {b br : α → Bool} {b' br' : β → Bool} {f : α → β} (hb : ∀ x, b' (f x) = b x) (hr : ∀ x, br' (f x) = br x) : ∀ (l : List α) (e : Bool), trimF b' br' e (l.map f) = (trimF b br e l).map f
  | [], e => rfl
  | g :: l, e => by
    show (bif b' (f g) && (e || headB br' (l.map f)) then trimF b' br' (br' (f g)) (l.map f) else f g :: trimF b' br' (br' (f g)) (l.map f)) = (bif b g && (e || headB br l) then trimF b br (br g) l else g :: trimF b br (br g) l).map f
    rw [hb, hr, headB_map hr, trimF_map hb hr l]
    cases (b g && (e || headB br l)) <;> rfl
theorem put_sub (b : α → Bool) {acc l : List α} (h : acc.Sublist l) (g : α) : (put b acc g).Sublist (l ++ [g]) := by
  unfold put
  cases (b g && lastB b acc)
  · exact List.Sublist.append h (List.Sublist.refl _)
  · exact h.trans (List.sublist_append_left _ _)
theorem putAll_sub (b : α → Bool) : ∀ (l acc k : List α), acc.Sublist k → (putAll b acc l).Sublist (k ++ l)
  | [], acc, k, h => by simpa [putAll] using h
  | g :: l, acc, k, h => by
    have := putAll_sub b l (put b acc g) (k ++ [g]) (put_sub b h g)
    rw [List.append_assoc] at this
    exact this
theorem trimF_sub (b br : α → Bool) : ∀ (l : List α) (e : Bool), (trimF b br e l).Sublist l
  | [], e => List.Sublist.refl _
  | g :: l, e => by
    unfold trimF
    cases (b g && (e || headB br l))
    · exact (trimF_sub b br l _).cons_cons g
    · exact (trimF_sub b br l _).cons g
/-- What is counted is never blank: as many as ever. -/
theorem put_count {b p : α → Bool} (hp : ∀ x, p x = true → b x = false) (acc : List α) (g : α) : (put b acc g).countP p = acc.countP p + [g].countP p := by
  unfold put
  cases h : (b g && lastB b acc)
  · simp [List.countP_append]
  · simp only [cond_true]
    have hb : b g = true := by simp only [Bool.and_eq_true] at h; exact h.1
    have : p g = false := by
      cases hpg : p g
      · rfl
      · rw [hp g hpg] at hb; cases hb
    simp [List.countP_cons, this]
theorem putAll_count {b p : α → Bool} (hp : ∀ x, p x = true → b x = false) : ∀ (l acc : List α), (putAll b acc l).countP p = acc.countP p + l.countP p
  | [], acc => by simp [putAll]
  | g :: l, acc => by
    show (putAll b (put b acc g) l).countP p = _
    rw [putAll_count hp l, put_count hp, List.countP_cons, List.countP_cons]
    simp; omega
theorem trimF_count {b br p : α → Bool} (hp : ∀ x, p x = true → b x = false) : ∀ (l : List α) (e : Bool), (trimF b br e l).countP p = l.countP p
  | [], e => rfl
  | g :: l, e => by
    unfold trimF
    cases h : (b g && (e || headB br l))
    · simp only [cond_false, List.countP_cons, trimF_count hp l]
    · simp only [cond_true, trimF_count hp l, List.countP_cons]
      have hb : b g = true := by simp only [Bool.and_eq_true] at h; exact h.1
      have : p g = false := by
        cases hpg : p g
        · rfl
        · rw [hp g hpg] at hb; cases hb
      simp [this]
/-- No two blanks side by side. -/
def noAdj (b : α → Bool) : Bool → List α → Prop
  | _, [] => True
  | p, g :: l => (b g = true → p = false) ∧ noAdj b (b g) l
theorem noAdj_app {b : α → Bool} : ∀ {l : List α} {p : Bool} {g : α}, noAdj b p l → (b g = true → (bif l.isEmpty then p else lastB b l) = false) → noAdj b p (l ++ [g])
  | [], p, g, _, h => ⟨by simpa using h, trivial⟩
  | [x], p, g, h1, h => ⟨h1.1, by simpa [lastB] using h, trivial⟩
  | x :: y :: l, p, g, h1, h => ⟨h1.1, noAdj_app (l := y :: l) h1.2 (by simpa [lastB] using h)⟩
theorem put_noAdj {b : α → Bool} {acc : List α} (h : noAdj b false acc) (g : α) : noAdj b false (put b acc g) := by
  unfold put
  cases hc : (b g && lastB b acc)
  · refine noAdj_app h fun hb => ?_
    rw [hb, Bool.true_and] at hc
    cases acc <;> simp [hc]
  · exact h
theorem putAll_noAdj {b : α → Bool} : ∀ (l acc : List α), noAdj b false acc → noAdj b false (putAll b acc l)
  | [], acc, h => h
  | g :: l, acc, h => putAll_noAdj l _ (put_noAdj h g)
/-- Each blank stands between two that are neither blank nor part. -/
def between (b br : α → Bool) : Bool → List α → Prop
  | _, [] => True
  | p, g :: l => (b g = true → p = false ∧ ∃ x l', l = x :: l' ∧ b x = false ∧ br x = false) ∧ between b br (b g || br g) l
theorem trimF_between {b br : α → Bool} (hx : ∀ x, b x = true → br x = false) : ∀ (l : List α) (e p pb : Bool), noAdj b pb l → (e = false → pb = false → p = false) → between b br p (trimF b br e l)
  | [], e, p, pb, _, _ => trivial
  | g :: l, e, p, pb, hn, hp => by
    unfold trimF
    cases hc : (b g && (e || headB br l))
    · simp only [cond_false]
      refine ⟨fun hb => ?_, trimF_between hx l (br g) _ (b g) hn.2 (fun h1 h2 => by simp [h1, h2])⟩
      rw [hb, Bool.true_and, Bool.or_eq_false_iff] at hc
      refine ⟨hp hc.1 (hn.1 hb), ?_⟩
      match l, hc.2, hn.2 with
      | [], h, _ => simp [headB] at h
      | x :: l', h, hn2 =>
        have hxb : b x = false := by
          cases hbx : b x
          · rfl
          · have := hn2.1 hbx; rw [hb] at this; cases this
        refine ⟨x, trimF b br (br x) l', ?_, hxb, h⟩
        simp [trimF, hxb]
    · simp only [cond_true]
      simp only [Bool.and_eq_true, Bool.or_eq_true] at hc
      have hb := hc.1
      -- what stands behind a blank is none
      match l, hn.2 with
      | [], _ => exact trivial
      | x :: l', hn2 =>
        have hxb : b x = false := by
          cases hbx : b x
          · rfl
          · have := hn2.1 hbx; rw [hb] at this; cases this
        have h2 := trimF_between hx (x :: l') (br g) (b g || br g) (b g) hn2 (fun h1 h2 => by simp [h1, h2])
        have e1 : trimF b br (br g) (x :: l') = x :: trimF b br (br x) l' := by simp [trimF, hxb]
        rw [e1] at h2 ⊢
        exact ⟨fun h => absurd h (by rw [hxb]; simp), h2.2⟩
theorem between_get {b br : α → Bool} : ∀ {l : List α} {p : Bool} {i : Nat} (hi : i < l.length), between b br p l → b l[i] = true → (i = 0 → p = false) ∧ (∀ h : 0 < i, b (l[i - 1]'(by omega)) = false ∧ br (l[i - 1]'(by omega)) = false) ∧ ∃ h : i + 1 < l.length, b l[i + 1] = false ∧ br l[i + 1] = false
  | g :: l, p, 0, hi, h, hb => by
    obtain ⟨h1, x, l', rfl, h2, h3⟩ := h.1 hb
    exact ⟨fun _ => h1, fun h => by omega, by simp, h2, h3⟩
  | g :: l, p, i + 1, hi, h, hb => by
    obtain ⟨h1, h2, h3, h4⟩ := between_get (i := i) (by simpa using hi) h.2 hb
    refine ⟨fun h => by omega, fun _ => ?_, by simpa using h3, h4⟩
    cases i with
    | zero =>
      have := h1 rfl
      simpa using this
    | succ j => exact h2 (by omega)
end
end
section
open Go Go.RowKit
structure Gl where
  k : Int
  r : Int
  a : Int
  w : Int
def zGl : Gl := ⟨0, 0, 0, 0⟩
def encG (g : Gl) : List Value := [.int .i64 g.k, .int .i64 g.r, .int .i64 g.a, .int .i64 g.w]
/-- A run: node, text, white-space, line-height. -/
structure Rn where
  n : Int
  s : ByteArray
  v : Int
  l : Int
def zRn : Rn := ⟨0, ⟨#[]⟩, 0, 0⟩
def encN (g : Rn) : List Value := [.int .i64 g.n, .string g.s, .int .i64 g.v, .int .i64 g.l]
/-- A list as a row. -/
def lrow {α : Type} (enc : α → List Value) (z : α) (l : List α) : Nat → List Value := fun j => enc (l.getD j z)
theorem upd_lrow {α : Type} (enc : α → List Value) (z : α) (l : List α) (x : α) : upd (lrow enc z l) l.length (enc x) = lrow enc z (l ++ [x]) := by
  funext j
  simp only [upd_def]; unfold lrow
  rcases Nat.lt_trichotomy j l.length with h | h | h
  · rw [if_neg (by omega), List.getD_eq_getElem?_getD, List.getD_eq_getElem?_getD, List.getElem?_append_left h]
  · subst h
    simp
  · rw [if_neg (by omega), List.getD_eq_getElem?_getD, List.getD_eq_getElem?_getD, List.getElem?_eq_none (by omega), List.getElem?_eq_none (by simp; omega)]
def blk (g : Gl) : Bool := g.k == 2 || g.k == 3
def brk (g : Gl) : Bool := g.k == 4
theorem blk_brk : ∀ g : Gl, blk g = true → brk g = false := by
  intro g h
  simp only [blk, brk, Bool.or_eq_true, beq_iff_eq] at h ⊢
  rcases h with h | h <;> simp [h]
def wht (c : Int) : Bool := c == 32 || c == 9 || c == 10 || c == 13
def gk (v c : Int) : Int := if v = 2 then (if c = 10 then 4 else 1) else if wht c then (if v = 1 then 3 else 2) else 1
def ga (M : Int → Int) (v c : Int) : Int := if v = 2 then (if c = 10 then 0 else M c) else if wht c then M 32 else M c
def gl (M : Int → Int) (v r : Int) (a : Nat) (c : Int) : Gl := ⟨gk v c, r, a, ga M v c⟩
/-- The glyphs of a run's first bytes, behind others; of the first runs. -/
def goB (M : Int → Int) (v r : Int) (s : ByteArray) (acc : List Gl) : Nat → List Gl
  | 0 => acc
  | n + 1 => put blk (goB M v r s acc n) (gl M v r n (bt s n))
def goR (M : Int → Int) (R : Nat → Rn) : Nat → List Gl
  | 0 => []
  | i + 1 => goB M (R i).v i (R i).s (goR M R i) (R i).s.size
def strB (M : Int → Int) (v r : Int) (s : ByteArray) (n : Nat) : List Gl := (List.range n).map fun a => gl M v r a (bt s a)
def strR (M : Int → Int) (R : Nat → Rn) (k : Nat) : List Gl := (List.range k).flatMap fun i => strB M (R i).v i (R i).s (R i).s.size
theorem goB_eq {M : Int → Int} {v r : Int} {s : ByteArray} {acc : List Gl} : ∀ n, goB M v r s acc n = putAll blk acc (strB M v r s n)
  | 0 => rfl
  | n + 1 => by
    have e : strB M v r s (n + 1) = strB M v r s n ++ [gl M v r n (bt s n)] := by simp [strB, List.range_succ]
    rw [goB, goB_eq n, e, putAll_app]
    rfl
theorem goR_eq {M : Int → Int} {R : Nat → Rn} : ∀ k, goR M R k = putAll blk [] (strR M R k)
  | 0 => rfl
  | k + 1 => by
    have e : strR M R (k + 1) = strR M R k ++ strB M (R k).v k (R k).s (R k).s.size := by simp [strR, List.range_succ]
    rw [goR, goB_eq, goR_eq k, e, putAll_app]
theorem goB_len {M : Int → Int} {v r : Int} {s : ByteArray} {acc : List Gl} : ∀ n, (goB M v r s acc n).length ≤ acc.length + n
  | 0 => Nat.le_refl _
  | n + 1 => by
    have := goB_len (M := M) (v := v) (r := r) (s := s) (acc := acc) n
    rw [goB, put]
    cases (blk (gl M v r n (bt s n)) && lastB blk (goB M v r s acc n)) <;> simp <;> omega
/-- All bytes of the first runs. -/
def lenR (R : Nat → Rn) : Nat → Nat
  | 0 => 0
  | i + 1 => lenR R i + (R i).s.size
theorem goR_len {M : Int → Int} {R : Nat → Rn} : ∀ k, (goR M R k).length ≤ lenR R k
  | 0 => Nat.le_refl _
  | k + 1 => by
    have h1 := goR_len (M := M) (R := R) k
    have h2 := goB_len (M := M) (v := (R k).v) (r := k) (s := (R k).s) (acc := goR M R k) (R k).s.size
    rw [goR, lenR]
    omega
/-- Is number i kept? -/
def keepAt (n : Nat) (g : Nat → Gl) (i : Nat) : Bool := !(blk (g i) && ((decide (i = 0) || brk (g (i - 1))) || (decide (i + 1 = n) || brk (g (i + 1)))))
def trimN (n : Nat) (g : Nat → Gl) : Nat → List Gl
  | 0 => []
  | i + 1 => bif keepAt n g i then trimN n g i ++ [g i] else trimN n g i
theorem trimN_len {n : Nat} {g : Nat → Gl} : ∀ i, (trimN n g i).length ≤ i
  | 0 => Nat.le_refl _
  | i + 1 => by
    have := trimN_len (n := n) (g := g) i
    rw [trimN]
    cases keepAt n g i <;> simp <;> omega
def at_ (l : List Gl) : Nat → Gl := fun j => l.getD j zGl
theorem trimN_inv (l : List Gl) : ∀ i, i ≤ l.length → trimN l.length (at_ l) i ++ trimF blk brk (decide (i = 0) || brk (at_ l (i - 1))) (l.drop i) = trimF blk brk true l
  | 0, _ => by simp [trimN]
  | i + 1, hi => by
    rw [← trimN_inv l i (by omega)]
    have hd : l.drop i = at_ l i :: l.drop (i + 1) := by
      rw [List.drop_eq_getElem_cons (by omega)]
      simp [at_, List.getD_eq_getElem?_getD, List.getElem?_eq_getElem (show i < l.length by omega)]
    have hh : headB brk (l.drop (i + 1)) = (decide (i + 1 = l.length) || brk (at_ l (i + 1))) := by
      by_cases e : i + 1 = l.length
      · rw [List.drop_eq_nil_of_le (by omega)]
        simp [headB, e]
      · rw [List.drop_eq_getElem_cons (show i + 1 < l.length by omega)]
        simp [headB, e, at_, List.getD_eq_getElem?_getD, List.getElem?_eq_getElem (show i + 1 < l.length by omega)]
    rw [hd]
    conv => rhs; rw [trimF]
    rw [trimN, keepAt, hh]
    have e1 : (decide (i + 1 = 0) || brk (at_ l (i + 1 - 1))) = brk (at_ l i) := by simp
    rw [e1]
    cases (blk (at_ l i) && ((decide (i = 0) || brk (at_ l (i - 1))) || (decide (i + 1 = l.length) || brk (at_ l (i + 1))))) <;> simp
theorem trimN_eq (l : List Gl) : trimN l.length (at_ l) l.length = trimF blk brk true l := by
  rw [← trimN_inv l l.length (Nat.le_refl _)]
  simp [trimF]
/-- The glyphs of runs. -/
def glyphs (M : Int → Int) (R : Nat → Rn) (k : Nat) : List Gl := trimF blk brk true (goR M R k)
theorem glyphs_len {M : Int → Int} {R : Nat → Rn} {k : Nat} : (glyphs M R k).length ≤ lenR R k :=
  Nat.le_trans (trimF_sub blk brk _ _).length_le (goR_len k)
end
section
open Go Go.RowKit
theorem strR_mem {M : Int → Int} {R : Nat → Rn} {k : Nat} {x : Gl} (h : x ∈ strR M R k) : ∃ r a, r < k ∧ a < (R r).s.size ∧ x = gl M (R r).v r a (bt (R r).s a) := by
  simp only [strR, strB, List.mem_flatMap, List.mem_range, List.mem_map] at h
  obtain ⟨r, hr, a, ha, rfl⟩ := h
  exact ⟨r, a, hr, ha, rfl⟩
theorem goR_sub {M : Int → Int} {R : Nat → Rn} {k : Nat} : (goR M R k).Sublist (strR M R k) := by
  rw [goR_eq]
  simpa using putAll_sub blk (strR M R k) [] [] (List.Sublist.refl _)
theorem glyphs_sub {M : Int → Int} {R : Nat → Rn} {k : Nat} : (glyphs M R k).Sublist (strR M R k) := (trimF_sub blk brk _ _).trans goR_sub
theorem glyphs_mem {M : Int → Int} {R : Nat → Rn} {k : Nat} {x : Gl} (h : x ∈ glyphs M R k) : ∃ r a, r < k ∧ a < (R r).s.size ∧ x = gl M (R r).v r a (bt (R r).s a) := strR_mem (glyphs_sub.subset h)
theorem at_get {l : List Gl} {i : Nat} (h : i < l.length) : at_ l i = l[i] := by simp [at_, List.getD_eq_getElem?_getD, List.getElem?_eq_getElem h]
theorem at_mem {l : List Gl} {i : Nat} (h : i < l.length) : at_ l i ∈ l := by rw [at_get h]; exact List.getElem_mem h
def ltG (x y : Gl) : Prop := x.r < y.r ∨ (x.r = y.r ∧ x.a < y.a)
theorem strR_lt {M : Int → Int} {R : Nat → Rn} {k : Nat} : (strR M R k).Pairwise ltG := by
  unfold strR
  rw [List.pairwise_flatMap]
  refine ⟨fun r _ => ?_, ?_⟩
  · unfold strB
    rw [List.pairwise_map]
    exact List.pairwise_lt_range.imp fun h => .inr ⟨rfl, by simp only [gl]; omega⟩
  · refine List.pairwise_lt_range.imp fun h x hx y hy => ?_
    simp only [strB, List.mem_map] at hx hy
    obtain ⟨_, _, rfl⟩ := hx
    obtain ⟨_, _, rfl⟩ := hy
    exact .inl (by simp only [gl]; omega)
theorem glyphs_lt {M : Int → Int} {R : Nat → Rn} {k i : Nat} (h0 : 0 < i) (hi : i < (glyphs M R k).length) : ltG (at_ (glyphs M R k) (i - 1)) (at_ (glyphs M R k) i) := by
  have := List.Pairwise.sublist glyphs_sub (strR_lt (M := M) (R := R) (k := k))
  rw [at_get hi, at_get (show i - 1 < _ by omega)]
  exact List.pairwise_iff_getElem.1 this (i - 1) i (by omega) hi (by omega)
theorem goR_noAdj {M : Int → Int} {R : Nat → Rn} {k : Nat} : noAdj blk false (goR M R k) := by
  rw [goR_eq]
  exact putAll_noAdj _ _ trivial
theorem glyphs_between {M : Int → Int} {R : Nat → Rn} {k : Nat} : between blk brk true (glyphs M R k) := trimF_between blk_brk _ _ _ _ goR_noAdj (fun h => by cases h)
theorem ink_of {M : Int → Int} {v r : Int} {a : Nat} {c : Int} (h1 : blk (gl M v r a c) = false) (h2 : brk (gl M v r a c) = false) : (gl M v r a c).k = 1 := by
  simp only [gl, blk, brk, gk, Bool.or_eq_false_iff, beq_eq_false_iff_ne] at h1 h2 ⊢
  repeat' split
  all_goals simp_all
theorem glyphs_blank {M : Int → Int} {R : Nat → Rn} {k i : Nat} (hi : i < (glyphs M R k).length) (hb : blk (at_ (glyphs M R k) i) = true) :
    0 < i ∧ i + 1 < (glyphs M R k).length ∧ (at_ (glyphs M R k) (i - 1)).k = 1 ∧ (at_ (glyphs M R k) (i + 1)).k = 1 := by
  rw [at_get hi] at hb
  obtain ⟨h1, h2, h3, h4⟩ := between_get hi glyphs_between hb
  have h0 : 0 < i := by
    rcases Nat.eq_zero_or_pos i with h | h
    · exact absurd (h1 h) (by simp)
    · exact h
  obtain ⟨h5, h6⟩ := h2 h0
  have ink : ∀ x ∈ glyphs M R k, blk x = false → brk x = false → x.k = 1 := by
    intro x hx h1 h2
    obtain ⟨r, a, _, _, rfl⟩ := glyphs_mem hx
    exact ink_of h1 h2
  refine ⟨h0, h3, ?_, ?_⟩
  · rw [at_get (show i - 1 < _ by omega)]; exact ink _ (List.getElem_mem _) h5 h6
  · rw [at_get h3]; exact ink _ (List.getElem_mem _) h4.1 h4.2
/-- How many of the first are not white. -/
def byteOf (R : Nat → Rn) (x : Gl) : Int := bt (R x.r.toNat).s x.a
def inkL (R : Nat → Rn) (l : List Gl) : Nat → Nat
  | 0 => 0
  | i + 1 => inkL R l i + (bif wht (byteOf R (at_ l i)) then 0 else 1)
def inkB (s : ByteArray) : Nat → Nat
  | 0 => 0
  | i + 1 => inkB s i + (bif wht (bt s i) then 0 else 1)
def inkR (R : Nat → Rn) : Nat → Nat
  | 0 => 0
  | i + 1 => inkR R i + inkB (R i).s (R i).s.size
theorem inkL_eq (R : Nat → Rn) (l : List Gl) : ∀ i, i ≤ l.length → inkL R l i = (l.take i).countP fun x => !wht (byteOf R x)
  | 0, _ => by simp [inkL]
  | i + 1, hi => by
    rw [inkL, inkL_eq R l i (by omega), List.take_add_one, List.getElem?_eq_getElem (by omega), at_get (by omega)]
    simp only [Option.toList_some, List.countP_append, List.countP_cons, List.countP_nil]
    cases wht (byteOf R l[i]) <;> simp
theorem inkL_le (R : Nat → Rn) (l : List Gl) : ∀ i, inkL R l i ≤ i
  | 0 => Nat.le_refl _
  | i + 1 => by
    have := inkL_le R l i
    rw [inkL]
    cases wht (byteOf R (at_ l i)) <;> simp <;> omega
theorem inkB_le (s : ByteArray) : ∀ i, inkB s i ≤ i
  | 0 => Nat.le_refl _
  | i + 1 => by
    have := inkB_le s i
    rw [inkB]
    cases wht (bt s i) <;> simp <;> omega
theorem inkR_le (R : Nat → Rn) : ∀ i, inkR R i ≤ lenR R i
  | 0 => Nat.le_refl _
  | i + 1 => by
    have := inkR_le R i
    have := inkB_le (R i).s (R i).s.size
    rw [inkR, lenR]
    omega
theorem byte_gl (M : Int → Int) (R : Nat → Rn) (r a : Nat) (v c : Int) : byteOf R (gl M v r a c) = bt (R r).s a := by simp [byteOf, gl]
theorem blk_wht {M : Int → Int} {v r : Int} {a : Nat} {c : Int} : blk (gl M v r a c) = (wht c && !(v == 2)) := by
  simp only [gl, blk, gk]
  by_cases h : v = 2
  · simp only [h, if_true, BEq.rfl, Bool.not_true, Bool.and_false]
    split <;> rfl
  · have : (v == 2) = false := by simpa using h
    simp only [h, if_false, this, Bool.not_false, Bool.and_true]
    cases hw : wht c
    · simp
    · simp only [if_true]
      split <;> rfl
theorem strB_ink (M : Int → Int) (R : Nat → Rn) (r : Nat) : ∀ n, (strB M (R r).v r (R r).s n).countP (fun x => !wht (byteOf R x)) = inkB (R r).s n
  | 0 => rfl
  | n + 1 => by
    have ih := strB_ink M R r n
    unfold strB at ih ⊢
    rw [List.range_succ, List.map_append, List.countP_append, ih, inkB]
    simp only [List.map_cons, List.map_nil, List.countP_cons, List.countP_nil, byte_gl]
    cases wht (bt (R r).s n) <;> simp
theorem strR_ink (M : Int → Int) (R : Nat → Rn) : ∀ k, (strR M R k).countP (fun x => !wht (byteOf R x)) = inkR R k
  | 0 => rfl
  | k + 1 => by
    have ih := strR_ink M R k
    unfold strR at ih ⊢
    rw [List.range_succ, List.flatMap_append, List.countP_append, ih, inkR]
    simp only [List.flatMap_cons, List.flatMap_nil, List.append_nil, strB_ink]
theorem glyphs_ink {M : Int → Int} {R : Nat → Rn} {k : Nat} : inkL R (glyphs M R k) (glyphs M R k).length = inkR R k := by
  rw [inkL_eq R _ _ (Nat.le_refl _), List.take_length, ← strR_ink M R k]
  have key : ∀ l : List Gl, l.Sublist (strR M R k) → l.countP (fun x => !wht (byteOf R x)) = l.countP (fun x => !blk x && !wht (byteOf R x)) := by
    intro l hl
    refine List.countP_congr fun x hx => ?_
    obtain ⟨r, a, _, _, rfl⟩ := strR_mem (hl.subset hx)
    rw [blk_wht, byte_gl]
    cases wht (bt (R r).s a) <;> simp
  have hp : ∀ x : Gl, (!blk x && !wht (byteOf R x)) = true → blk x = false := by
    intro x h
    simp only [Bool.and_eq_true, Bool.not_eq_true'] at h
    exact h.1
  rw [key _ glyphs_sub, key _ (List.Sublist.refl _)]
  unfold glyphs
  rw [trimF_count (p := fun x => !blk x && !wht (byteOf R x)) hp, goR_eq, putAll_count (p := fun x => !blk x && !wht (byteOf R x)) hp]
  simp

/- A row turned into another one, thing by thing. -/
theorem glyphs_map {β : Type} {M : Int → Int} {R : Nat → Rn} {k : Nat} {f : Gl → β} {b br : β → Bool} (hb : ∀ x, b (f x) = blk x) (hr : ∀ x, br (f x) = brk x) : (glyphs M R k).map f = trimF b br true (putAll b [] ((strR M R k).map f)) := by
  unfold glyphs
  rw [goR_eq, ← trimF_map hb hr, ← putAll_map hb]
  rfl
def holdG (x : Gl) : Gl := bif x.k == 2 then { x with k := 3 } else x
def setV (R : Nat → Rn) (v : Int) : Nat → Rn := fun i => { R i with v := v }
theorem glyphs_holds {M : Int → Int} {R : Nat → Rn} {k : Nat} : glyphs M (setV R 1) k = (glyphs M (setV R 0) k).map holdG := by
  have e := glyphs_map (M := M) (R := setV R 0) (k := k) (f := holdG) (b := blk) (br := brk) (fun x => by
    unfold holdG blk
    cases h : x.k == 2
    · simp [h]
    · have : x.k = 2 := by simpa using h
      simp [this]) (fun x => by
    unfold holdG brk
    cases h : x.k == 2
    · simp
    · have : x.k = 2 := by simpa using h
      simp [this])
  rw [e]
  unfold glyphs
  rw [goR_eq]
  congr 2
  unfold strR
  rw [List.map_flatMap]
  congr 1
  funext r
  unfold strB setV
  simp only [List.map_map]
  refine List.map_congr_left fun a _ => ?_
  simp only [Function.comp, gl, gk, ga, holdG]
  cases wht (bt (R r).s a) <;> rfl
end
section
open Go Go.RowKit
/-- A text's bytes. -/
def bs (s : ByteArray) : List Int := s.data.toList.map fun u => (u.toNat : Int)
theorem size_l (s : ByteArray) : s.data.toList.length = s.size := Array.length_toList
theorem bs_len (s : ByteArray) : (bs s).length = s.size := (List.length_map _).trans (size_l s)
theorem bs_app (a b : ByteArray) : bs (a ++ b) = bs a ++ bs b := by
  have : (a ++ b).data = a.data ++ b.data := ByteArray.data_append ..
  simp [bs, this]
theorem bt_bs (s : ByteArray) (i : Nat) (h : i < s.size) : bt s i = (bs s)[i]'(by rw [bs_len]; exact h) := by
  have : i < s.data.toList.length := by rw [size_l]; exact h
  simp [bt, bs, List.getD_eq_getElem?_getD, List.getElem?_eq_getElem this]
theorem strB_idx {M : Int → Int} {v r : Int} {s : ByteArray} : strB M v r s s.size = (bs s).mapIdx fun a c => gl M v r a c := by
  refine List.ext_getElem (by simp [strB, bs_len]) fun i h1 h2 => ?_
  simp only [strB, List.length_map, List.length_range] at h1
  simp only [strB, List.getElem_map, List.getElem_range, List.getElem_mapIdx]
  rw [bt_bs s i h1]
theorem strR_one {M : Int → Int} {R : Nat → Rn} : strR M R 1 = (bs (R 0).s).mapIdx fun a c => gl M (R 0).v 0 a c := by
  simp [strR, List.range_succ, strB_idx]
section
variable {α : Type}
theorem putAll_none {b : α → Bool} : ∀ (l acc : List α), (∀ x ∈ l, b x = false) → putAll b acc l = acc ++ l
  | [], acc, _ => by simp [putAll]
  | g :: l, acc, h => by
    show putAll b (put b acc g) l = _
    rw [putAll_none l _ fun x hx => h x (by simp [hx])]
    simp [put, h g (by simp)]
theorem trimF_none {b br : α → Bool} : ∀ (l : List α) (e : Bool), (∀ x ∈ l, b x = false) → trimF b br e l = l
  | [], e, _ => rfl
  | g :: l, e, h => by
    unfold trimF
    rw [h g (by simp), trimF_none l _ fun x hx => h x (by simp [hx])]
    rfl
theorem put_skip {b : α → Bool} {acc : List α} {g : α} (h1 : b g = true) (h2 : lastB b acc = true) : put b acc g = acc := by simp [put, h1, h2]
theorem put_last {b : α → Bool} {acc : List α} {g : α} (h1 : b g = true) : lastB b (put b acc g) = true := by
  unfold put
  cases h : (b g && lastB b acc)
  · simp [lastB_app, h1]
  · simp only [Bool.and_eq_true] at h
    simpa using h.2
end
theorem glyphs_pre {M : Int → Int} {R : Nat → Rn} (h : (R 0).v = 2) : (glyphs M R 1).length = (R 0).s.size := by
  have hn : ∀ x ∈ strR M R 1, blk x = false := by
    intro x hx
    obtain ⟨r, a, hr, _, rfl⟩ := strR_mem hx
    have : r = 0 := by omega
    subst this
    rw [blk_wht, h]
    simp
  unfold glyphs
  rw [goR_eq, putAll_none _ _ hn, List.nil_append, trimF_none _ _ hn, strR_one]
  simp [bs_len]
def kw (x : Gl) : Int × Int := (x.k, x.w)
def blk2 (p : Int × Int) : Bool := p.1 == 2 || p.1 == 3
def brk2 (p : Int × Int) : Bool := p.1 == 4
def kwB (M : Int → Int) (c : Int) : Int × Int := (gk 0 c, ga M 0 c)
theorem map_idx {α β γ : Type} (f : β → γ) (g : Nat → α → β) (l : List α) : (l.mapIdx g).map f = l.mapIdx fun i a => f (g i a) :=
  List.ext_getElem (by simp) fun i h1 h2 => by simp
theorem glyphs_kw {M : Int → Int} {R : Nat → Rn} (h : (R 0).v = 0) : (glyphs M R 1).map kw = trimF blk2 brk2 true (putAll blk2 [] ((bs (R 0).s).map (kwB M))) := by
  rw [glyphs_map (b := blk2) (br := brk2) (f := kw) (fun _ => rfl) (fun _ => rfl), strR_one]
  congr 2
  rw [map_idx, h]
  refine List.ext_getElem (by simp) fun i h1 h2 => ?_
  simp [Function.comp, kw, gl, kwB]
/-- A text with more blanks behind some. -/
def moreB : ByteArray := ⟨#[32, 10, 9]⟩
def moreS (s : ByteArray) (p : Nat → Bool) : Nat → ByteArray
  | 0 => ⟨#[]⟩
  | i + 1 => bif (bt s i == 32) && p i then moreS s p i ++ s.extract i (i + 1) ++ moreB else moreS s p i ++ s.extract i (i + 1)
theorem bs_ext (s : ByteArray) (i : Nat) (h : i < s.size) : bs (s.extract i (i + 1)) = [bt s i] := by
  have h' : i < s.data.toList.length := by rw [size_l]; exact h
  have e : (s.extract i (i + 1)).data.toList = (s.data.toList.drop i).take 1 := by
    simp [List.extract]
  rw [bs, e, List.drop_eq_getElem_cons h']
  simp [bt, List.getD_eq_getElem?_getD, List.getElem?_eq_getElem h']
theorem more_put (M : Int → Int) (s : ByteArray) (p : Nat → Bool) : ∀ i, i ≤ s.size → putAll blk2 [] ((bs (moreS s p i)).map (kwB M)) = putAll blk2 [] (((bs s).take i).map (kwB M))
  | 0, _ => rfl
  | i + 1, hi => by
    have ih := more_put M s p i (by omega)
    have e2 : (bs s).take (i + 1) = (bs s).take i ++ [bt s i] := by
      rw [List.take_add_one, List.getElem?_eq_getElem (by rw [bs_len]; omega), bt_bs s i (by omega)]
      rfl
    rw [e2, List.map_append, putAll_app, ← ih]
    rw [moreS]
    cases h : ((bt s i == 32) && p i)
    · simp only [cond_false]
      rw [bs_app, bs_ext s i (by omega), List.map_append, putAll_app]
    · simp only [cond_true]
      have h32 : bt s i = 32 := by
        simp only [Bool.and_eq_true, beq_iff_eq] at h
        exact h.1
      rw [bs_app, bs_app, bs_ext s i (by omega), List.map_append, List.map_append, putAll_app, putAll_app, h32]
      generalize putAll blk2 [] ((bs (moreS s p i)).map (kwB M)) = acc
      show put blk2 (put blk2 (put blk2 (put blk2 acc (kwB M 32)) (kwB M 32)) (kwB M 10)) (kwB M 9) = put blk2 acc (kwB M 32)
      have b1 : blk2 (kwB M 32) = true := rfl
      have hl := put_last (acc := acc) b1
      rw [put_skip b1 hl, put_skip (show blk2 (kwB M 10) = true from rfl) hl, put_skip (show blk2 (kwB M 9) = true from rfl) hl]
theorem glyphs_more {M : Int → Int} {R R' : Nat → Rn} {p : Nat → Bool} (h : (R 0).v = 0) (h' : (R' 0).v = 0) (hs : (R' 0).s = moreS (R 0).s p (R 0).s.size) : (glyphs M R 1).map kw = (glyphs M R' 1).map kw := by
  rw [glyphs_kw h, glyphs_kw h', hs, more_put M _ p _ (Nat.le_refl _), List.take_of_length_le (by rw [bs_len]; exact Nat.le_refl _)]
theorem kw_len {l l' : List Gl} (h : l.map kw = l'.map kw) : l.length = l'.length := by
  have := congrArg List.length h
  simpa using this
theorem kw_at {l l' : List Gl} (h : l.map kw = l'.map kw) {i : Nat} (hi : i < l.length) : (at_ l i).k = (at_ l' i).k ∧ (at_ l i).w = (at_ l' i).w := by
  have hl := kw_len h
  rw [at_get hi, at_get (by omega)]
  have e : (l.map kw)[i]'(by simpa using hi) = (l'.map kw)[i]'(by simp; omega) := by simp only [h]
  simp only [List.getElem_map, kw, Prod.mk.injEq] at e
  exact e
/- Parts of a text. -/
def bsR (P : Nat → Rn) : Nat → List Int
  | 0 => []
  | i + 1 => bsR P i ++ bs (P i).s
theorem bsR_len (P : Nat → Rn) : ∀ n, (bsR P n).length = lenR P n
  | 0 => rfl
  | n + 1 => by simp [bsR, lenR, bsR_len P n, bs_len]
def fP (P : Nat → Rn) (x : Gl) : Int × Int × Int := (x.k, x.w, lenR P x.r.toNat + x.a)
def f1 (x : Gl) : Int × Int × Int := (x.k, x.w, x.a)
def blk3 (p : Int × Int × Int) : Bool := p.1 == 2 || p.1 == 3
def brk3 (p : Int × Int × Int) : Bool := p.1 == 4
theorem parts_str {M : Int → Int} {P : Nat → Rn} {v : Int} : ∀ n, (∀ i, i < n → (P i).v = v) → (strR M P n).map (fP P) = (bsR P n).mapIdx fun a c => (gk v c, ga M v c, (a : Int))
  | 0, _ => rfl
  | n + 1, hv => by
    have ih := parts_str (M := M) n fun i hi => hv i (by omega)
    unfold strR at ih ⊢
    rw [List.range_succ, List.flatMap_append, List.map_append, ih, bsR, List.mapIdx_append]
    congr 1
    simp only [List.flatMap_cons, List.flatMap_nil, List.append_nil, strB_idx, map_idx, hv n (by omega)]
    refine List.ext_getElem (by simp) fun i h1 h2 => ?_
    simp only [List.getElem_mapIdx, fP, gl, Function.comp, bsR_len, Int.toNat_natCast, Prod.mk.injEq, true_and]
    omega
theorem glyphs_parts {M : Int → Int} {P R : Nat → Rn} {n : Nat} {v : Int} (hv : ∀ i, i < n → (P i).v = v) (h : (R 0).v = v) (hs : bs (R 0).s = bsR P n) : (glyphs M R 1).map f1 = (glyphs M P n).map (fP P) := by
  rw [glyphs_map (b := blk3) (br := brk3) (f := f1) (fun _ => rfl) (fun _ => rfl), glyphs_map (b := blk3) (br := brk3) (f := fP P) (fun _ => rfl) (fun _ => rfl), parts_str n hv, strR_one, ← hs, map_idx, h]
  rfl
theorem parts_len {l l' : List Gl} {f g : Gl → Int × Int × Int} (h : l.map f = l'.map g) : l.length = l'.length := by
  have := congrArg List.length h
  simpa using this
theorem parts_at {P : Nat → Rn} {l l' : List Gl} (h : l.map f1 = l'.map (fP P)) {i : Nat} (hi : i < l.length) : (at_ l i).k = (at_ l' i).k ∧ (at_ l i).w = (at_ l' i).w ∧ (at_ l i).a = lenR P (at_ l' i).r.toNat + (at_ l' i).a := by
  have hl := parts_len h
  rw [at_get hi, at_get (by omega)]
  have e : (l.map f1)[i]'(by simpa using hi) = (l'.map (fP P))[i]'(by simp; omega) := by simp only [h]
  simp only [List.getElem_map, f1, fP, Prod.mk.injEq] at e
  exact e
end
section
open Go Go.RowKit
theorem ntmps169 : Try.f169.ntmps = 8 := rfl
theorem ix_calls (s : ByteArray) (c : Int) (w : World) :
    Calls Try.prog 169 #[.string s, .int .u8 c] w fun e w' => e = .returned (.int .i64 (firstIdx s c.toNat.toUInt8)) ∧ w' = w := by
  go_enter Try.func169, ntmps169
  go_wp2
  rw [run_callFunc_extern Try.func175 (by kernel_rfl) (by kernel_rfl) (by kernel_rfl) (e := Extern.BytealgIndexByte.indexByte) (by kernel_rfl), run_indexByte_string]
  simp only [Result.andThen]
  rw [Oper.upon_value]
  go_wp2
  go_ret
  exact ⟨rfl, rfl⟩
noncomputable def ixF : Spec := fun args h => match args with
  | [.c (.v (.string s)), .c (.v (.int .u8 c))] => .ret (I64 (firstIdx s c.toNat.toUInt8), h)
  | _ => .fail
theorem ixF_ok : SpecOk Try.prog 169 ixF := by
  intro B args H r H' he m w vals hH hB hv
  unfold ixF at he
  split at he
  · rename_i s c
    simp only [Tr.eval, Option.some.injEq, Prod.mk.injEq] at he
    obtain ⟨rfl, rfl⟩ := he
    have e : vals = #[.string s, .int .u8 c] := by
      have hl := hv.length
      match vals, hl, hv with
      | ⟨[a, b]⟩, _, hv =>
        simp only [VRs, VR, CR] at hv
        obtain ⟨rfl, rfl, _⟩ := hv
        rfl
    subst e
    refine (ix_calls s c w).mono fun e w' h => ?_
    obtain ⟨rfl, rfl⟩ := h
    exact ⟨m, _, rfl, Step.refl hH, rfl⟩
  · cases he
noncomputable def KI : Known := [(169, ixF)]
theorem consK {K : Known} {f : Nat} {F : Spec} (h1 : SpecOk Try.prog f F) (h2 : nameOk Try.prog f = true) (h : KnownOk K) : KnownOk ((f, F) :: K) := by
  intro g G hg
  rcases List.mem_cons.1 hg with hg | hg
  · cases hg
    exact ⟨h1, h2⟩
  · exact h g G hg
theorem nilK : KnownOk [] := fun _ _ h => by cases h
theorem KI_ok : KnownOk KI := consK ixF_ok (by kernel_rfl) nilK
theorem white_ix (c : Int) (h0 : 0 ≤ c) (h1 : c < 256) : (decide (firstIdx ⟨#[32, 9, 10, 13]⟩ c.toNat.toUInt8 < 0)) = !(c == 32 || c == 9 || c == 10 || c == 13) := by
  obtain ⟨n, rfl⟩ := Int.eq_ofNat_of_zero_le h0
  have hn : n < 256 := by omega
  have key : ∀ m, m < 256 → (decide (firstIdx ⟨#[32, 9, 10, 13]⟩ ((m : Nat) : Int).toNat.toUInt8 < 0)) = !(((m : Nat) : Int) == 32 || ((m : Nat) : Int) == 9 || ((m : Nat) : Int) == 10 || ((m : Nat) : Int) == 13) := by
    decide +kernel
  exact key n hn
end
section
open Go Go.RowKit
def v1 (x : Int) : List Value := [.int .i64 x]
def rowA (a : Nat → Int) : Option ABlk := some ⟨35, true, .row 1 256 fun k => v1 (a k)⟩
def aA (a : Nat → Int) : AV := .arr 256 fun k => .int .i64 (a k)
theorem gKnil : KnownOk [] := fun _ _ h => by cases h
theorem gKcons {K : Known} {f : Nat} {F : Spec} (h1 : SpecOk Try.prog f F) (h2 : nameOk Try.prog f = true) (h : KnownOk K) : KnownOk ((f, F) :: K) := by
  intro g G hg
  rcases List.mem_cons.1 hg with hg | hg
  · cases hg
    exact ⟨h1, h2⟩
  · exact h g G hg
/- Brought near, not small. -/
noncomputable def tmG (L : Nat) : Ctx2 := GK [] (fun k => if k = 2 then [(1,none),(2,none),(4,none),(5,none)] else []) L
def tmS (a : Nat → Int) (small : Bool) (i : Int) : St := ⟨slots 55 [(1, Bo small), (2, .c (.ptr 0 0 0)), (4, .c (.ptr 1 0 0)), (5, I64 i)], [rowA a, rowA fun _ => 0]⟩
def tmE (a : Nat → Int) (small : Bool) (i : Int) : St := ⟨slots 55 [(1, Bo small), (2, .c (.ptr 0 0 0)), (4, .c (.ptr 1 0 0)), (5, I64 i), (6, I64 i), (7, Bo false)], [rowA a, rowA fun _ => 0]⟩
def tu (x : Int) : Int := w64 ((u64 x).tmod 65537)
def tmR (a : Nat → Int) (i : Nat) : Nat → List Value := updC (fun k => v1 (a k)) i (splice (v1 (a i)) 0 [.int .i64 (tu (a i))])
theorem tm_rnd {L : Nat} {a : Nat → Int} {i : Int} : rnd (arun (tmG L) 0 55 (bodyOf Try.f46 0)) (canon (tmG L).T 0 ((tmG L).keep 2)) (tmS a false i) =
  bif decide (i < 256) then bif decide (0 ≤ i) then bif decide (i < 256) then bif decide (i.toNat < 256) then bif decide (0 ≤ i) then bif decide (i < 256) then bif decide (i.toNat < 256) then
    some ⟨slots 55 [(1, Bo false), (2, .c (.ptr 0 0 0)), (4, .c (.ptr 1 0 0)), (5, I64 (w64 (i + 1)))], [some ⟨35, true, .row 1 256 (tmR a i.toNat)⟩, rowA fun _ => 0]⟩
  else none else none else none else none else none else none else none := by kernel_rfl
theorem tm_rndX {L : Nat} {a : Nat → Int} {i : Int} : rndX (arun (tmG L) 0 55 (bodyOf Try.f46 0)) (tmS a false i) =
  bif decide (i < 256) then bif decide (0 ≤ i) then bif decide (i < 256) then bif decide (i.toNat < 256) then bif decide (0 ≤ i) then bif decide (i < 256) then bif decide (i.toNat < 256) then none
  else none else none else none else none else none else none else some (.exit 0, tmE a false i) := by kernel_rfl
theorem updC_at (f : Nat → List Value) (n : Nat) (x : List Value) (k : Nat) : updC f n x k = if k = n then x else f k := by
  unfold updC
  rw [selL_eq]
  by_cases h : k = n <;> simp [h]
def ta (a : Nat → Int) (i : Nat) : Nat → Int := fun j => if j < i then tu (a j) else a j
theorem tmR_eq (a : Nat → Int) (i : Nat) : tmR (ta a i) i = fun j => v1 (ta a (i + 1) j) := by
  funext j
  unfold tmR
  rw [updC_at]
  by_cases h : j = i
  · subst h
    simp only [if_true, ta, Nat.lt_irrefl, if_false, Nat.lt_succ_self]
    rfl
  · simp only [h, if_false, ta]
    by_cases h2 : j < i
    · have : j < i + 1 := by omega
      simp [h2, this]
    · have : ¬ j < i + 1 := by omega
      simp [h2, this]
theorem tm_loop {L : Nat} {a : Nat → Int} (hL : 256 < L) :
    (iter (arun (tmG L) 0 55 (bodyOf Try.f46 0)) (canon (tmG L).T 0 ((tmG L).keep 2)) L (tmS (ta a 0) false 0)).eval = some (.exit 0, tmE (ta a 256) false 256) := by
  refine iter_upto (fun i => tmS (ta a i) false i) (N := 256) (by simp) ?_ L 0 (Nat.zero_le _) (by omega) ?_
  · refine rndX_ok ?_
    rw [tm_rndX]
    have h1 : ¬ (((256 : Nat) : Int) < 256) := by omega
    simp only [h1, decide_false, cond_false]
    rfl
  · intro j _ hj
    refine rnd_ok ?_
    rw [tm_rnd]
    have h1 : (j : Int) < 256 := by omega
    have h3 : w64 ((j : Int) + 1) = ((j + 1 : Nat) : Int) := by rw [w64_id (by omega) (by omega)]; omega
    have h5 : decide ((0 : Int) ≤ (j : Int)) = true := by simp
    simp only [h1, h3, h5, hj, decide_true, cond_true, Int.toNat_natCast, tmR_eq]
    rfl
theorem tm_whole {L : Nat} {a : Nat → Int} :
    (lfun (tmG L) (told 55 (bodyOf Try.f46 0) (tmS (ta a 0) false 0) (.exit 0, tmE (ta a 256) false 256)) 60 Try.f46 [aA a, Bo false] []).eval =
      bif yes (was 55 (bodyOf Try.f46 0) (tmS (ta a 0) false 0)) then some (aA (ta a 256), []) else none := by kernel_rfl
def dv : Value → Int
  | .int _ a => a
  | _ => 0
noncomputable def tmF : Spec := fun args h => match args, h with
  | [.arr 256 f, .c (.v (.bool false))], [] => .need (yes (f = fun k => .int .i64 (dv (f k)))) (.ret (aA (ta (fun k => dv (f k)) 256), []))
  | _, _ => .fail
theorem tmF_ok : SpecOk Try.prog 46 tmF := by
  refine known' gKnil Try.func46 fun args h r he => ?_
  unfold tmF at he
  split at he
  · rename_i f
    obtain ⟨h1, he⟩ := Tr.eval_ask.1 he
    cases he
    have hl : LoopsOk (tmG 257) 0 _ := told_ok (tm_loop (L := 257) (a := fun k => dv (f k)) (by decide))
    have hw := tm_whole (L := 257) (a := fun k => dv (f k))
    rw [yes_of ⟨rfl, rfl, rfl⟩] at hw
    have hf := lfun_ok (h := []) hl hw
    rw [aA, ← h1] at hf
    exact ⟨_, _, _, hf⟩
  · cases he

/- Wide. -/
noncomputable def sGOf : Spec := afun (GK [] (fun _ => []) 0) 60 Try.f114
noncomputable def KG0 : Known := [(114, sGOf)]
theorem KG0_ok : KnownOk KG0 := gKcons (known0 gKnil 60 Try.func114) (by kernel_rfl) gKnil
noncomputable def wdG (L : Nat) : Ctx2 := GK KG0 (fun k => if k = 3 then [(1,none),(2,none),(5,none),(8,none),(9,none)] else []) L
def wdS (a : Nat → Int) (s : ByteArray) (out i : Int) : St := ⟨slots 20 [(1, .c (.v (.string s))), (2, .c (.ptr 0 0 0)), (5, I64 out), (8, I64 s.size), (9, I64 i)], [rowA a]⟩
def wdE (a : Nat → Int) (s : ByteArray) (out i : Int) : St := ⟨slots 20 [(1, .c (.v (.string s))), (2, .c (.ptr 0 0 0)), (5, I64 out), (8, I64 s.size), (9, I64 i), (10, Bo false)], [rowA a]⟩
def cl (x : Int) : Int := mnI 65536 (mxI 0 x)
theorem wd_rnd {L : Nat} {a : Nat → Int} {s : ByteArray} {out i : Int} : rnd (arun (wdG L) 0 54 (bodyOf Try.f47 0)) (canon (wdG L).T 0 ((wdG L).keep 3)) (wdS a s out i) =
  bif decide (i < s.size) then bif decide (0 ≤ i) then bif decide (i < s.size) then bif decide (bt s i < 256) then bif decide ((bt s i).toNat < 256) then
    some (wdS a s (w64 (out + cl (a (bt s i).toNat))) (w64 (i + 1)))
  else none else none else none else none else none := by kernel_rfl
theorem wd_rndX {L : Nat} {a : Nat → Int} {s : ByteArray} {out i : Int} : rndX (arun (wdG L) 0 54 (bodyOf Try.f47 0)) (wdS a s out i) =
  bif decide (i < s.size) then bif decide (0 ≤ i) then bif decide (i < s.size) then bif decide (bt s i < 256) then bif decide ((bt s i).toNat < 256) then none
  else none else none else none else none else some (.exit 0, wdE a s out i) := by kernel_rfl
/-- The width of bytes. -/
def cs (a : Nat → Int) (l : List UInt8) : Int := (l.map fun b => cl (a b.toNat)).sum
theorem cl_b (x : Int) : 0 ≤ cl x ∧ cl x ≤ 65536 := by unfold cl mnI mxI; split <;> (try split) <;> (try split) <;> omega
theorem cs_b (a : Nat → Int) : ∀ l : List UInt8, 0 ≤ cs a l ∧ cs a l ≤ l.length * 65536
  | [] => ⟨Int.le_refl _, by simp [cs]⟩
  | b :: l => by
    have := cs_b a l
    have h := cl_b (a b.toNat)
    have e : cs a (b :: l) = cl (a b.toNat) + cs a l := by simp [cs]
    rw [e, List.length_cons]
    omega
theorem cs_append (a : Nat → Int) (l k : List UInt8) : cs a (l ++ k) = cs a l + cs a k := by simp [cs]
theorem cs_one (a : Nat → Int) (b : UInt8) : cs a [b] = cl (a b.toNat) := by simp [cs]
theorem bt_at (s : ByteArray) {j : Nat} (hj : j < s.data.toList.length) : bt s j = ((s.data.toList[j].toNat : Nat) : Int) := by
  unfold bt
  rw [Int.toNat_natCast, List.getD_eq_getElem?_getD, List.getElem?_eq_getElem hj]
  rfl
theorem size_len (s : ByteArray) : s.data.toList.length = s.size := Array.length_toList
theorem wd_loop {L : Nat} {a : Nat → Int} {s : ByteArray} (hs : s.size ≤ 2 ^ 40) (hL : s.size < L) :
    (iter (arun (wdG L) 0 54 (bodyOf Try.f47 0)) (canon (wdG L).T 0 ((wdG L).keep 3)) L (wdS a s 0 0)).eval = some (.exit 0, wdE a s (cs a s.data.toList) s.size) := by
  refine iter_upto (fun i => wdS a s (cs a (s.data.toList.take i)) i) (N := s.size) (by simp) ?_ L 0 (Nat.zero_le _) (by omega) ?_
  · refine rndX_ok ?_
    rw [wd_rndX]
    have e : s.data.toList.take s.size = s.data.toList := by rw [← size_len, List.take_length]
    simp [e]
  · intro j _ hj
    refine rnd_ok ?_
    rw [wd_rnd]
    have h1 : (j : Int) < s.size := by omega
    have h3 : w64 ((j : Int) + 1) = ((j + 1 : Nat) : Int) := by rw [w64_id (by omega) (by omega)]; omega
    have h5 : decide ((0 : Int) ≤ (j : Int)) = true := by simp
    have hjl : j < s.data.toList.length := by rw [size_len]; exact hj
    have hb := bt_at s hjl
    have hlt : s.data.toList[j].toNat < 256 := UInt8.toNat_lt _
    have h6 : bt s j < 256 := by rw [hb]; omega
    have h7 : (bt s j).toNat < 256 := by rw [hb]; omega
    have h8 : w64 (cs a (s.data.toList.take j) + cl (a (bt s j).toNat)) = cs a (s.data.toList.take (j + 1)) := by
      have hc := cs_b a (s.data.toList.take j)
      have hcl := cl_b (a (bt s j).toNat)
      have hlen : (s.data.toList.take j).length ≤ j := by simp; omega
      rw [List.take_add_one, List.getElem?_eq_getElem hjl, Option.toList_some, cs_append, cs_one]
      have e : (bt s j).toNat = s.data.toList[j].toNat := by rw [hb]; omega
      rw [e] at hcl ⊢
      exact w64_id (by omega) (by omega)
    simp only [h1, h3, h5, h6, h7, h8, decide_true, cond_true]
theorem wd_whole {L : Nat} {a : Nat → Int} {s : ByteArray} {w : Int} :
    (lfun (wdG L) (told 54 (bodyOf Try.f47 0) (wdS a s 0 0) (.exit 0, wdE a s w s.size)) 60 Try.f47 [aA a, .c (.v (.string s))] []).eval =
      bif yes (was 54 (bodyOf Try.f47 0) (wdS a s 0 0)) then some (I64 w, []) else none := by kernel_rfl
noncomputable def wdF (d : Spec) : Spec := fun args h => match args, h with
  | [.arr 256 f, .c (.v (.string s))], [] => .need (yes (s.size ≤ 2 ^ 40 ∧ f = fun k => .int .i64 (dv (f k)))) (.ret (I64 (cs (fun k => dv (f k)) s.data.toList), []))
  | args, h => d args h
theorem wdF_ok : SpecOk Try.prog 47 (wdF fun _ _ => .fail) := by
  refine known' KG0_ok Try.func47 fun args h r he => ?_
  unfold wdF at he
  split at he
  · rename_i f s
    obtain ⟨⟨h0, h1⟩, he⟩ := Tr.eval_ask.1 he
    cases he
    have hl : LoopsOk (wdG (s.size + 1)) 0 _ := told_ok (wd_loop (a := fun k => dv (f k)) h0 (Nat.lt_succ_self _))
    have hw := wd_whole (L := s.size + 1) (a := fun k => dv (f k)) (s := s) (w := cs (fun k => dv (f k)) s.data.toList)
    rw [yes_of ⟨rfl, rfl, rfl⟩] at hw
    have hf := lfun_ok (h := []) hl hw
    rw [aA, ← h1] at hf
    exact ⟨_, _, _, hf⟩
  · cases he

/- awake. -/
noncomputable def KG1 : Known := [(47, afun (wdG 10) 60 Try.f47), (48, afun (GK [] (fun k => if k = 2 then [(6,none),(7,none)] else []) 300) 60 Try.f48), (51, afun (GK [] (fun _ => []) 0) 60 Try.f51)]
theorem KG1_ok : KnownOk KG1 := gKcons (known' KG0_ok Try.func47 fun _ _ _ h => ⟨_, _, _, h⟩) (by kernel_rfl) (gKcons (known' gKnil Try.func48 fun _ _ _ h => ⟨_, _, _, h⟩) (by kernel_rfl) (gKcons (known0 gKnil 60 Try.func51) (by kernel_rfl) gKnil))
noncomputable def sAwakeG : Spec := fun args h => match args, h with
  | [], [] => .ret (Bo true, [])
  | _, _ => .fail
end
section
open Go Go.RowKit
def Mt (a : Nat → Int) : Int → Int := fun c => cl (a c.toNat)
abbrev U8 (c : Int) : AV := .c (.v (.int .u8 c))
noncomputable def KY : Known := [(166, afun (GK KI (fun _ => []) 0) 60 Try.f166), (114, sGOf)]
theorem KY_ok : KnownOk KY := consK (known0 KI_ok 60 Try.func166) (by kernel_rfl) (consK (known0 nilK 60 Try.func114) (by kernel_rfl) nilK)
noncomputable def gyG : Ctx2 := GT KY (fun _ => []) 0 []
noncomputable def KA1 : Known := [(150, afun (GK [] (fun _ => []) 0) 60 Try.f150)]
theorem KA1_ok : KnownOk KA1 := consK (known0 nilK 60 Try.func150) (by kernel_rfl) nilK
noncomputable def adG : Ctx2 := GT KA1 (fun _ => []) 0 []
noncomputable def niG : Ctx2 := GT [] (fun _ => []) 0 []
theorem gy_nf {a : Nat → Int} {v c : Int} : (lfun gyG nol 60 Try.f156 [.c (.ptr 0 0 0), I64 v, U8 c] [rowA a]).eval = bif v == (2 : Int) then bif c == (10 : Int) then some (.tup [I64 4, I64 0], [some ⟨35, true, .row 1 256 fun k => [.int .i64 (a k)]⟩]) else bif v == (2 : Int) then bif decide ((0 : Int) ≤ c) then bif decide (c < ↑(256 : Nat)) then bif decide (c.toNat < 256) then some (.tup [I64 1, I64 (mnI (65536 : Int) (mxI (0 : Int) (a c.toNat)))], [some ⟨35, true, .row 1 256 fun k => [.int .i64 (a k)]⟩]) else none else none else none else bif decide (firstIdx { data := #[32, 9, 10, 13] } c.toNat.toUInt8 < (0 : Int)) then bif decide ((0 : Int) ≤ c) then bif decide (c < ↑(256 : Nat)) then bif decide (c.toNat < 256) then some (.tup [I64 1, I64 (mnI (65536 : Int) (mxI (0 : Int) (a c.toNat)))], [some ⟨35, true, .row 1 256 fun k => [.int .i64 (a k)]⟩]) else none else none else none else bif v == (1 : Int) then some (.tup [I64 3, I64 (mnI (65536 : Int) (mxI (0 : Int) (a 32)))], [some ⟨35, true, .row 1 256 fun k => [.int .i64 (a k)]⟩]) else some (.tup [I64 2, I64 (mnI (65536 : Int) (mxI (0 : Int) (a 32)))], [some ⟨35, true, .row 1 256 fun k => [.int .i64 (a k)]⟩]) else bif v == (2 : Int) then bif decide ((0 : Int) ≤ c) then bif decide (c < ↑(256 : Nat)) then bif decide (c.toNat < 256) then some (.tup [I64 1, I64 (mnI (65536 : Int) (mxI (0 : Int) (a c.toNat)))], [some ⟨35, true, .row 1 256 fun k => [.int .i64 (a k)]⟩]) else none else none else none else bif decide (firstIdx { data := #[32, 9, 10, 13] } c.toNat.toUInt8 < (0 : Int)) then bif decide ((0 : Int) ≤ c) then bif decide (c < ↑(256 : Nat)) then bif decide (c.toNat < 256) then some (.tup [I64 1, I64 (mnI (65536 : Int) (mxI (0 : Int) (a c.toNat)))], [some ⟨35, true, .row 1 256 fun k => [.int .i64 (a k)]⟩]) else none else none else none else bif v == (1 : Int) then some (.tup [I64 3, I64 (mnI (65536 : Int) (mxI (0 : Int) (a 32)))], [some ⟨35, true, .row 1 256 fun k => [.int .i64 (a k)]⟩]) else some (.tup [I64 2, I64 (mnI (65536 : Int) (mxI (0 : Int) (a 32)))], [some ⟨35, true, .row 1 256 fun k => [.int .i64 (a k)]⟩]) := by kernel_rfl
theorem bk_nf {k r a w : Int} : (lfun niG nol 60 Try.f124 [.agg [i64 k, i64 r, i64 a, i64 w]] []).eval = bif k == (2 : Int) then some (Bo true, []) else some (Bo (k == (3 : Int)), []) := by kernel_rfl
theorem bk2_nf {k r a w : Int} : (lfun niG nol 60 Try.f126 [.agg [i64 k, i64 r, i64 a, i64 w]] []).eval = bif k == (2 : Int) then some (Bo true, []) else some (Bo (k == (3 : Int)), []) := by kernel_rfl
theorem wh_nf {c : Int} : (lfun niG nol 60 Try.f125 [U8 c] []).eval = bif c == (32 : Int) then some (Bo true, []) else bif c == (9 : Int) then some (Bo true, []) else bif c == (10 : Int) then some (Bo true, []) else some (Bo (c == (13 : Int)), []) := by kernel_rfl
theorem ad_nf {a : Nat → Int} {c : Int} : (lfun adG nol 60 Try.f115 [aA a, U8 c] []).eval = bif decide ((0 : Int) ≤ c) then bif decide (c < ↑(256 : Nat)) then bif decide (c.toNat < 256) then some (I64 (mnI (65536 : Int) (mxI (0 : Int) (a c.toNat))), []) else none else none else none := by kernel_rfl
def vd : List Value → Int
  | [.int _ x] => x
  | _ => 0
noncomputable def gyF : Spec := fun args h => match args, h with
  | [.c (.ptr 0 0 0), .c (.v (.int .i64 v)), .c (.v (.int .u8 c))], [some ⟨35, true, .row 1 256 f⟩] =>
    .need (yes (0 ≤ c ∧ c < 256 ∧ f = fun k => v1 (vd (f k)))) (.ret (.tup [I64 (gk v c), I64 (ga (Mt fun k => vd (f k)) v c)], [some ⟨35, true, .row 1 256 f⟩]))
  | _, _ => .fail
theorem gyF_ok : SpecOk Try.prog 156 gyF := by
  refine knownS KY_ok Try.func156 fun args h r he => ?_
  unfold gyF at he
  split at he
  · rename_i v c f
    obtain ⟨⟨h0, h1, h3⟩, he⟩ := Tr.eval_ask.1 he
    cases he
    refine ⟨fun _ => [], [], 60, nol, noLoopsS, ?_⟩
    have hw := gy_nf (a := fun k => vd (f k)) (v := v) (c := c)
    rw [show [some ⟨35, true, .row 1 256 f⟩] = [rowA fun k => vd (f k)] by rw [rowA, ← h3]]
    refine hw.trans ?_
    have c1 : c < ((256 : Nat) : Int) := h1
    have c2 : c.toNat < 256 := by omega
    have hwh := white_ix c h0 h1
    simp only [hwh, h0, c1, c2, decide_true, cond_true]
    rw [rowA]
    unfold gk ga
    by_cases e1 : v = 2
    · subst e1
      by_cases e2 : c = 10
      · subst e2; rfl
      · have : (c == 10) = false := by simpa using e2
        simp only [this, if_neg e2]
        rfl
    · have e1' : (v == 2) = false := by simpa using e1
      simp only [e1', if_neg e1]
      have hw2 : wht c = (c == 32 || c == 9 || c == 10 || c == 13) := rfl
      rw [← hw2]
      cases wht c
      · rfl
      · by_cases e3 : v = 1
        · subst e3; rfl
        · have : (v == 1) = false := by simpa using e3
          simp only [this, if_neg e3]
          rfl
  · cases he
noncomputable def bkF : Spec := fun args h => match args, h with
  | [.agg [.v (.int .i64 k), .v (.int .i64 r), .v (.int .i64 a), .v (.int .i64 w)]], [] => .ret (Bo (blk ⟨k, r, a, w⟩), [])
  | _, _ => .fail
theorem bkF_ok : SpecOk Try.prog 124 bkF := by
  refine knownS nilK Try.func124 fun args h r he => ?_
  unfold bkF at he
  split at he
  · cases he
    refine ⟨fun _ => [], [], 60, nol, noLoopsS, bk_nf.trans ?_⟩
    unfold blk
    rename_i k r a w
    cases (k == 2) <;> rfl
  · cases he
theorem bkF_ok2 : SpecOk Try.prog 126 bkF := by
  refine knownS nilK Try.func126 fun args h r he => ?_
  unfold bkF at he
  split at he
  · cases he
    refine ⟨fun _ => [], [], 60, nol, noLoopsS, bk2_nf.trans ?_⟩
    unfold blk
    rename_i k r a w
    cases (k == 2) <;> rfl
  · cases he
noncomputable def whF : Spec := fun args h => match args, h with
  | [.c (.v (.int .u8 c))], [] => .ret (Bo (wht c), [])
  | _, _ => .fail
theorem whF_ok : SpecOk Try.prog 125 whF := by
  refine knownS nilK Try.func125 fun args h r he => ?_
  unfold whF at he
  split at he
  · cases he
    refine ⟨fun _ => [], [], 60, nol, noLoopsS, wh_nf.trans ?_⟩
    unfold wht
    rename_i c
    cases (c == 32) <;> cases (c == 9) <;> cases (c == 10) <;> rfl
  · cases he
noncomputable def adF : Spec := fun args h => match args, h with
  | [.arr 256 f, .c (.v (.int .u8 c))], [] => .need (yes (0 ≤ c ∧ c < 256 ∧ f = fun k => .int .i64 (dv (f k)))) (.ret (I64 (Mt (fun k => dv (f k)) c), []))
  | _, _ => .fail
theorem adF_ok : SpecOk Try.prog 115 adF := by
  refine knownS KA1_ok Try.func115 fun args h r he => ?_
  unfold adF at he
  split at he
  · rename_i f c
    obtain ⟨⟨h0, h1, h3⟩, he⟩ := Tr.eval_ask.1 he
    cases he
    refine ⟨fun _ => [], [], 60, nol, noLoopsS, ?_⟩
    have hw := ad_nf (a := fun k => dv (f k)) (c := c)
    rw [show AV.arr 256 f = aA fun k => dv (f k) by rw [aA, ← h3]]
    refine hw.trans ?_
    have c1 : c < ((256 : Nat) : Int) := h1
    have c2 : c.toNat < 256 := by omega
    simp only [h0, c1, c2, decide_true, cond_true]
    rfl
  · cases he
end
section
open Go Go.RowKit
def ub (x : Int) : List Value := [.int .u8 x]
def rowU (own : Bool) (n : Nat) (B : Nat → Int) : Option ABlk := some ⟨5, own, .row 1 n fun j => ub (B j)⟩
def wrB (bad : Bool) (k : Nat) : Option ABlk := some ⟨168, true, .one [.sl 1 0 k, .v (.bool bad)]⟩
def wrN (bad : Bool) : Option ABlk := some ⟨168, true, .one [.v (.slice none 0 0), .v (.bool bad)]⟩
def rdB (bad : Bool) (i n : Nat) : Option ABlk := some ⟨175, true, .one [.sl 1 i n, .v (.bool bad)]⟩
noncomputable def nuG : Ctx2 := GK [] (fun k => if k = 2 then [(0,none),(1,none),(4,none)] else []) 6
theorem wb_nf {bad : Bool} {k : Nat} {B : Nat → Int} {n : Int} : (lfun niG nol 60 Try.f140 [.c (.ptr 0 0 0), I64 n] [wrB bad k, rowU true k B]).eval = bif bad then bif decide (k = k) then bif decide ((k + 1) * 1 ≤ maxCells) then some (.tup [], [some ⟨168, true, .one [.sl 2 0 (k + 1), .v (.bool true)]⟩, none, some ⟨5, true, .row 1 (k + 1) fun k_1 => [.int .u8 (bif decide (k_1 = k) then IntKind.u8.wrap n else B k_1)]⟩]) else none else none else bif decide (n < (0 : Int)) then bif decide (k = k) then bif decide ((k + 1) * 1 ≤ maxCells) then some (.tup [], [some ⟨168, true, .one [.sl 2 0 (k + 1), .v (.bool true)]⟩, none, some ⟨5, true, .row 1 (k + 1) fun k_1 => [.int .u8 (bif decide (k_1 = k) then IntKind.u8.wrap n else B k_1)]⟩]) else none else none else bif decide (k = k) then bif decide ((k + 1) * 1 ≤ maxCells) then some (.tup [], [some ⟨168, true, .one [.sl 2 0 (k + 1), .v (.bool (decide (n > (255 : Int))))]⟩, none, some ⟨5, true, .row 1 (k + 1) fun k_1 => [.int .u8 (bif decide (k_1 = k) then IntKind.u8.wrap n else B k_1)]⟩]) else none else none := by kernel_rfl
theorem wb0_nf {bad : Bool} {n : Int} : (lfun niG nol 60 Try.f140 [.c (.ptr 0 0 0), I64 n] [wrN bad]).eval = bif bad then some (.tup [], [some ⟨168, true, .one [.sl 1 0 1, .v (.bool true)]⟩, some ⟨5, true, .row 1 1 fun k => [.int .u8 (bif decide (k = 0) then IntKind.u8.wrap n else (0 : Int))]⟩]) else bif decide (n < (0 : Int)) then some (.tup [], [some ⟨168, true, .one [.sl 1 0 1, .v (.bool true)]⟩, some ⟨5, true, .row 1 1 fun k => [.int .u8 (bif decide (k = 0) then IntKind.u8.wrap n else (0 : Int))]⟩]) else some (.tup [], [some ⟨168, true, .one [.sl 1 0 1, .v (.bool (decide (n > (255 : Int))))]⟩, some ⟨5, true, .row 1 1 fun k => [.int .u8 (bif decide (k = 0) then IntKind.u8.wrap n else (0 : Int))]⟩]) := by kernel_rfl
theorem wn_nf {bad : Bool} {k : Nat} {B : Nat → Int} {n : Int} : (afun nuG 60 Try.f143 [.c (.ptr 0 0 0), I64 n] [wrB bad k, rowU true k B]).eval = bif bad then bif decide (k = k) then bif decide ((k + 1) * 1 ≤ maxCells) then bif decide (k + 1 = k + 1) then bif decide ((k + 1 + 1) * 1 ≤ maxCells) then bif decide (k + 1 + 1 = k + 1 + 1) then bif decide ((k + 1 + 1 + 1) * 1 ≤ maxCells) then bif decide (k + 1 + 1 + 1 = k + 1 + 1 + 1) then bif decide ((k + 1 + 1 + 1 + 1) * 1 ≤ maxCells) then some (.tup [], [some ⟨168, true, .one [.sl 2 0 (k + 1 + 1 + 1 + 1), .v (.bool true)]⟩, none, some ⟨5, true, .row 1 (k + 1 + 1 + 1 + 1) fun k_1 => [.int .u8 (bif decide (k_1 = k + 1 + 1 + 1) then IntKind.u8.wrap (n.fdiv (2 ^ min 0 IntKind.i64.bits)) else bif decide (k_1 = k + 1 + 1) then IntKind.u8.wrap (n.fdiv (2 ^ min 8 IntKind.i64.bits)) else bif decide (k_1 = k + 1) then IntKind.u8.wrap (n.fdiv (2 ^ min 16 IntKind.i64.bits)) else bif decide (k_1 = k) then IntKind.u8.wrap (n.fdiv (2 ^ min 24 IntKind.i64.bits)) else B k_1)]⟩]) else none else none else none else none else none else none else none else none else bif decide (n < (-2147483648 : Int)) then bif decide (k = k) then bif decide ((k + 1) * 1 ≤ maxCells) then bif decide (k + 1 = k + 1) then bif decide ((k + 1 + 1) * 1 ≤ maxCells) then bif decide (k + 1 + 1 = k + 1 + 1) then bif decide ((k + 1 + 1 + 1) * 1 ≤ maxCells) then bif decide (k + 1 + 1 + 1 = k + 1 + 1 + 1) then bif decide ((k + 1 + 1 + 1 + 1) * 1 ≤ maxCells) then some (.tup [], [some ⟨168, true, .one [.sl 2 0 (k + 1 + 1 + 1 + 1), .v (.bool true)]⟩, none, some ⟨5, true, .row 1 (k + 1 + 1 + 1 + 1) fun k_1 => [.int .u8 (bif decide (k_1 = k + 1 + 1 + 1) then IntKind.u8.wrap (n.fdiv (2 ^ min 0 IntKind.i64.bits)) else bif decide (k_1 = k + 1 + 1) then IntKind.u8.wrap (n.fdiv (2 ^ min 8 IntKind.i64.bits)) else bif decide (k_1 = k + 1) then IntKind.u8.wrap (n.fdiv (2 ^ min 16 IntKind.i64.bits)) else bif decide (k_1 = k) then IntKind.u8.wrap (n.fdiv (2 ^ min 24 IntKind.i64.bits)) else B k_1)]⟩]) else none else none else none else none else none else none else none else none else bif decide (k = k) then bif decide ((k + 1) * 1 ≤ maxCells) then bif decide (k + 1 = k + 1) then bif decide ((k + 1 + 1) * 1 ≤ maxCells) then bif decide (k + 1 + 1 = k + 1 + 1) then bif decide ((k + 1 + 1 + 1) * 1 ≤ maxCells) then bif decide (k + 1 + 1 + 1 = k + 1 + 1 + 1) then bif decide ((k + 1 + 1 + 1 + 1) * 1 ≤ maxCells) then some (.tup [], [some ⟨168, true, .one [.sl 2 0 (k + 1 + 1 + 1 + 1), .v (.bool (decide (n > (2147483647 : Int))))]⟩, none, some ⟨5, true, .row 1 (k + 1 + 1 + 1 + 1) fun k_1 => [.int .u8 (bif decide (k_1 = k + 1 + 1 + 1) then IntKind.u8.wrap (n.fdiv (2 ^ min 0 IntKind.i64.bits)) else bif decide (k_1 = k + 1 + 1) then IntKind.u8.wrap (n.fdiv (2 ^ min 8 IntKind.i64.bits)) else bif decide (k_1 = k + 1) then IntKind.u8.wrap (n.fdiv (2 ^ min 16 IntKind.i64.bits)) else bif decide (k_1 = k) then IntKind.u8.wrap (n.fdiv (2 ^ min 24 IntKind.i64.bits)) else B k_1)]⟩]) else none else none else none else none else none else none else none else none := by kernel_rfl
theorem wt_nf {bad : Bool} {k : Nat} {B : Nat → Int} {s : ByteArray} : (lfun niG nol 60 Try.f160 [.c (.ptr 0 0 0), .c (.v (.string s))] [wrB bad k, rowU true k B]).eval = bif bad then bif decide (k = k) then bif decide ((k + 2) * 1 ≤ maxCells) then bif decide (k + 2 = k + 2) then bif decide (0 + s.size ≤ s.size) then bif decide ((k + 2 + s.size) * 1 ≤ maxCells) then some (.tup [], [some ⟨168, true, .one [.sl 2 0 (k + 2 + s.size), .v (.bool true)]⟩, none, some ⟨5, true, .row 1 (k + 2 + s.size) fun k_1 => Decidable.rec (fun h => if k_1 < k + 2 + s.size then [.int .u8 (bt s ((0 + (k_1 - (k + 2)) : Nat) : Int))] else [.int .u8 (0 : Int)]) (fun h => updL (fun j => ub (B j)) k [[.int .u8 (IntKind.u8.wrap ((((s.size : Nat) : Int)).fdiv (2 ^ min 8 IntKind.i64.bits)))], [.int .u8 (IntKind.u8.wrap ((s.size : Nat) : Int))]] k_1) (k_1.decLt (k + 2))⟩]) else none else none else none else none else none else bif decide (k = k) then bif decide ((k + 2) * 1 ≤ maxCells) then bif decide (k + 2 = k + 2) then bif decide (0 + s.size ≤ s.size) then bif decide ((k + 2 + s.size) * 1 ≤ maxCells) then some (.tup [], [some ⟨168, true, .one [.sl 2 0 (k + 2 + s.size), .v (.bool (decide (((s.size : Nat) : Int) > (2000 : Int))))]⟩, none, some ⟨5, true, .row 1 (k + 2 + s.size) fun k_1 => Decidable.rec (fun h => if k_1 < k + 2 + s.size then [.int .u8 (bt s ((0 + (k_1 - (k + 2)) : Nat) : Int))] else [.int .u8 (0 : Int)]) (fun h => updL (fun j => ub (B j)) k [[.int .u8 (IntKind.u8.wrap ((((s.size : Nat) : Int)).fdiv (2 ^ min 8 IntKind.i64.bits)))], [.int .u8 (IntKind.u8.wrap ((s.size : Nat) : Int))]] k_1) (k_1.decLt (k + 2))⟩]) else none else none else none else none else none := by kernel_rfl
theorem rb_nf {bad own : Bool} {i n m : Nat} {B : Nat → Int} : (lfun niG nol 60 Try.f162 [.c (.ptr 0 0 0)] [rdB bad i n, rowU own m B]).eval = bif ((n : Nat) : Int) == (0 : Int) then some (I64 0, [some ⟨175, true, .one [.sl 1 i n, .v (.bool true)]⟩, some ⟨5, own, .row 1 m fun j => [.int .u8 (B j)]⟩]) else bif decide ((0 : Int) < ((n : Nat) : Int)) then bif decide (i < m) then bif decInt (1 : Int) (((n : Nat) : Int)) n then some (I64 (w64 (B i)), [some ⟨175, true, .one [.sl 1 (i + 1) (n - 1), .v (.bool bad)]⟩, some ⟨5, own, .row 1 m fun j => [.int .u8 (B j)]⟩]) else none else none else none := by kernel_rfl
theorem fi_nf {n : Int} : (lfun niG nol 60 Try.f146 [I64 n] []).eval = bif decide (n ≥ (-2147483648 : Int)) then some (Bo (decide (n < (2147483648 : Int))), []) else some (Bo false, []) := by kernel_rfl
theorem fo_nf {n : Int} : (lfun niG nol 60 Try.f147 [I64 n] []).eval = some (.c (.sl 0 0 4), [some ⟨5, true, .lst 1 [[.v (.int .u8 (IntKind.u8.wrap (n.fdiv (2 ^ min 24 IntKind.i64.bits))))], [.v (.int .u8 (IntKind.u8.wrap (n.fdiv (2 ^ min 16 IntKind.i64.bits))))], [.v (.int .u8 (IntKind.u8.wrap (n.fdiv (2 ^ min 8 IntKind.i64.bits))))], [.v (.int .u8 (IntKind.u8.wrap n))]] [.v (.int .u8 (0 : Int))]⟩]) := by kernel_rfl
theorem he_nf {n lo hi : Int} : (lfun niG nol 60 Try.f150 [I64 n, I64 lo, I64 hi] []).eval = some (I64 (mnI hi (mxI lo n)), []) := by kernel_rfl
theorem nm_nf {own : Bool} {m : Nat} {B : Nat → Int} {i : Int} : (lfun niG nol 60 Try.f151 [.c (.sl 0 0 m), I64 i] [rowU own m B]).eval = bif decide (w64 (i + (4 : Int)) > ((m : Nat) : Int)) then some (.tup [I64 0, Bo false], [some ⟨5, own, .row 1 m fun j => [.int .u8 (B j)]⟩]) else bif decide ((0 : Int) ≤ i) then bif decide (i < ((m : Nat) : Int)) then bif decide (0 + i.toNat < m) then bif decide ((0 : Int) ≤ w64 (i + (1 : Int))) then bif decide (w64 (i + (1 : Int)) < ((m : Nat) : Int)) then bif decide (0 + (w64 (i + (1 : Int))).toNat < m) then bif decide ((0 : Int) ≤ w64 (i + (2 : Int))) then bif decide (w64 (i + (2 : Int)) < ((m : Nat) : Int)) then bif decide (0 + (w64 (i + (2 : Int))).toNat < m) then bif decide ((0 : Int) ≤ w64 (i + (3 : Int))) then bif decide (w64 (i + (3 : Int)) < ((m : Nat) : Int)) then bif decide (0 + (w64 (i + (3 : Int))).toNat < m) then bif decide (w64 (((BitVec.ofInt IntKind.i64.bits (w64 (((BitVec.ofInt IntKind.i64.bits (w64 (((BitVec.ofInt IntKind.i64.bits (w64 (w64 (B (0 + i.toNat)) * (2 : Int) ^ min 24 IntKind.i64.bits)) ||| BitVec.ofInt IntKind.i64.bits (w64 (w64 (B (0 + (w64 (i + (1 : Int))).toNat)) * (2 : Int) ^ min 16 IntKind.i64.bits))).toNat : Nat) : Int)) ||| BitVec.ofInt IntKind.i64.bits (w64 (w64 (B (0 + (w64 (i + (2 : Int))).toNat)) * (2 : Int) ^ min 8 IntKind.i64.bits))).toNat : Nat) : Int)) ||| BitVec.ofInt IntKind.i64.bits (w64 (B (0 + (w64 (i + (3 : Int))).toNat)))).toNat : Nat) : Int) ≥ (2147483648 : Int)) then some (.tup [I64 (w64 (w64 (((BitVec.ofInt IntKind.i64.bits (w64 (((BitVec.ofInt IntKind.i64.bits (w64 (((BitVec.ofInt IntKind.i64.bits (w64 (w64 (B (0 + i.toNat)) * (2 : Int) ^ min 24 IntKind.i64.bits)) ||| BitVec.ofInt IntKind.i64.bits (w64 (w64 (B (0 + (w64 (i + (1 : Int))).toNat)) * (2 : Int) ^ min 16 IntKind.i64.bits))).toNat : Nat) : Int)) ||| BitVec.ofInt IntKind.i64.bits (w64 (w64 (B (0 + (w64 (i + (2 : Int))).toNat)) * (2 : Int) ^ min 8 IntKind.i64.bits))).toNat : Nat) : Int)) ||| BitVec.ofInt IntKind.i64.bits (w64 (B (0 + (w64 (i + (3 : Int))).toNat)))).toNat : Nat) : Int) - (4294967296 : Int))), Bo true], [some ⟨5, own, .row 1 m fun j => [.int .u8 (B j)]⟩]) else some (.tup [I64 (w64 (((BitVec.ofInt IntKind.i64.bits (w64 (((BitVec.ofInt IntKind.i64.bits (w64 (((BitVec.ofInt IntKind.i64.bits (w64 (w64 (B (0 + i.toNat)) * (2 : Int) ^ min 24 IntKind.i64.bits)) ||| BitVec.ofInt IntKind.i64.bits (w64 (w64 (B (0 + (w64 (i + (1 : Int))).toNat)) * (2 : Int) ^ min 16 IntKind.i64.bits))).toNat : Nat) : Int)) ||| BitVec.ofInt IntKind.i64.bits (w64 (w64 (B (0 + (w64 (i + (2 : Int))).toNat)) * (2 : Int) ^ min 8 IntKind.i64.bits))).toNat : Nat) : Int)) ||| BitVec.ofInt IntKind.i64.bits (w64 (B (0 + (w64 (i + (3 : Int))).toNat)))).toNat : Nat) : Int)), Bo true], [some ⟨5, own, .row 1 m fun j => [.int .u8 (B j)]⟩]) else none else none else none else none else none else none else none else none else none else none else none else none := by kernel_rfl
theorem sm_nf {own own2 : Bool} {m m2 : Nat} {B B2 : Nat → Int} : (lfun niG nol 60 Try.f153 [.c (.sl 0 0 m), .c (.sl 1 0 m2)] [rowU own m B, rowU own2 m2 B2]).eval = bif decide (0 + m ≤ m) then bif allB m fun k => isU8 (ub (B (0 + k))) then bif decide (0 + m2 ≤ m2) then bif allB m2 fun k => isU8 (ub (B2 (0 + k))) then some (Bo ((bytesOf (fun j => ub (B j)) 0 m).toList == (bytesOf (fun j => ub (B2 j)) 0 m2).toList), [some ⟨5, own, .row 1 m fun j => [.int .u8 (B j)]⟩, some ⟨5, own2, .row 1 m2 fun j => [.int .u8 (B2 j)]⟩]) else none else none else none else none := by kernel_rfl
end
section
open Go Go.RowKit
/-- A number's last byte; its four bytes; the number of four bytes. -/
def by8 (n : Int) : Int := n % 256
def four (n : Int) : List Int := [by8 (n / 16777216), by8 (n / 65536), by8 (n / 256), by8 n]
def num4 (a b c d : Int) : Int := if a * 16777216 + b * 65536 + c * 256 + d ≥ 2147483648 then a * 16777216 + b * 65536 + c * 256 + d - 4294967296 else a * 16777216 + b * 65536 + c * 256 + d
def fits (n : Int) : Bool := decide (-2147483648 ≤ n) && decide (n < 2147483648)
theorem num4_four {n : Int} (h : fits n = true) : num4 (by8 (n / 16777216)) (by8 (n / 65536)) (by8 (n / 256)) (by8 n) = n := by
  simp only [fits, Bool.and_eq_true, decide_eq_true_eq] at h
  unfold num4 by8
  split <;> omega
theorem num4_fits {a b c d : Int} (ha : 0 ≤ a ∧ a < 256) (hb : 0 ≤ b ∧ b < 256) (hc : 0 ≤ c ∧ c < 256) (hd : 0 ≤ d ∧ d < 256) : fits (num4 a b c d) = true := by
  simp only [fits, Bool.and_eq_true, decide_eq_true_eq]
  unfold num4
  split <;> omega
theorem four_num4 {a b c d : Int} (ha : 0 ≤ a ∧ a < 256) (hb : 0 ≤ b ∧ b < 256) (hc : 0 ≤ c ∧ c < 256) (hd : 0 ≤ d ∧ d < 256) : four (num4 a b c d) = [a, b, c, d] := by
  unfold four num4 by8
  split <;> simp only [List.cons.injEq, and_true] <;> omega
/-- An Op. -/
structure Opp where
  k : Int
  i : Int
  a : Int
  b : Int
  s : ByteArray
def zOpp : Opp := ⟨0, 0, 0, 0, ⟨#[]⟩⟩
def encO (o : Opp) : List Value := [.int .i64 o.k, .int .i64 o.i, .int .i64 o.a, .int .i64 o.b, .string o.s]
def decO : List Value → Opp
  | [.int _ k, .int _ i, .int _ a, .int _ b, .string s] => ⟨k, i, a, b, s⟩
  | _ => zOpp
def opB (o : Opp) : List Int := by8 o.k :: (four o.i ++ four o.a ++ four o.b ++ [by8 ((o.s.size : Int) / 256), by8 (o.s.size : Int)] ++ bs o.s)
def byOk (n : Int) : Bool := decide (0 ≤ n) && decide (n ≤ 255)
def opOk (o : Opp) : Bool := byOk o.k && fits o.i && fits o.a && fits o.b && decide (o.s.size ≤ 2000)
theorem opB_len (o : Opp) : (opB o).length = 15 + o.s.size := by
  simp [opB, four, bs_len]; omega
/- Reading: what is left, whether it ended too soon. -/
def rByte : List Int × Bool → Int × (List Int × Bool)
  | ([], _) => (0, [], true)
  | (x :: l, b) => (x, l, b)
def rNum (s : List Int × Bool) : Int × (List Int × Bool) :=
  let a := rByte s; let b := rByte a.2; let c := rByte b.2; let d := rByte c.2
  (num4 a.1 b.1 c.1 d.1, d.2)
def toB (l : List Int) : ByteArray := ⟨(l.map fun x => UInt8.ofNat x.toNat).toArray⟩
def rText (s : List Int × Bool) : ByteArray × (List Int × Bool) :=
  let a := rByte s; let b := rByte a.2
  bif b.2.2 || decide (a.1 * 256 + b.1 > (b.2.1.length : Int)) then (⟨#[]⟩, b.2.1, true) else (toB (b.2.1.take (a.1 * 256 + b.1).toNat), b.2.1.drop (a.1 * 256 + b.1).toNat, b.2.2)
def rOp (s : List Int × Bool) : Opp × (List Int × Bool) :=
  let k := rByte s; let i := rNum k.2; let a := rNum i.2; let b := rNum a.2; let t := rText b.2
  (⟨k.1, i.1, a.1, b.1, t.1⟩, t.2.1, t.2.2 || decide (t.1.size > 2000))
def rOps : Nat → List Int × Bool → List Opp × (List Int × Bool)
  | 0, s => ([], s)
  | n + 1, s => bif s.2 then ([], s) else
    let o := rOp s; let r := rOps n o.2
    (o.1 :: r.1, r.2)
theorem rNum_four {n : Int} (h : fits n = true) (l : List Int) (b : Bool) : rNum (four n ++ l, b) = (n, l, b) := by
  simp only [four, List.cons_append, List.nil_append, rNum, rByte, num4_four h]
theorem toB_bs (s : ByteArray) : toB (bs s) = s := by
  have : (bs s).map (fun x => UInt8.ofNat x.toNat) = s.data.toList := by
    unfold bs
    rw [List.map_map]
    conv => rhs; rw [← List.map_id s.data.toList]
    refine List.map_congr_left fun u _ => ?_
    simp [Function.comp]
  unfold toB
  rw [this]
theorem rText_bs {s : ByteArray} (h : s.size ≤ 2000) (l : List Int) : rText ([by8 ((s.size : Int) / 256), by8 (s.size : Int)] ++ bs s ++ l, false) = (s, l, false) := by
  have e : by8 ((s.size : Int) / 256) * 256 + by8 (s.size : Int) = s.size := by unfold by8; omega
  simp only [List.cons_append, List.nil_append, List.append_assoc, rText, rByte, e, Bool.false_or]
  have hl := bs_len s
  rw [decide_eq_false (by rw [List.length_append, hl]; omega)]
  simp only [cond_false, Int.toNat_natCast, Prod.mk.injEq, and_true]
  refine ⟨?_, ?_⟩
  · rw [List.take_append_of_le_length (by omega), List.take_of_length_le (by omega), toB_bs]
  · rw [List.drop_append_of_le_length (by omega), List.drop_of_length_le (by omega), List.nil_append]
theorem rOp_opB {o : Opp} (h : opOk o = true) (l : List Int) : rOp (opB o ++ l, false) = (o, l, false) := by
  simp only [opOk, Bool.and_eq_true, decide_eq_true_eq, byOk] at h
  obtain ⟨⟨⟨⟨⟨h1, h2⟩, h3⟩, h4⟩, h5⟩, h6⟩ := h
  have ek : by8 o.k = o.k := by unfold by8; omega
  have e : opB o ++ l = o.k :: (four o.i ++ (four o.a ++ (four o.b ++ ([by8 ((o.s.size : Int) / 256), by8 (o.s.size : Int)] ++ bs o.s ++ l)))) := by
    simp only [opB, ek, List.cons_append, List.append_assoc]
  rw [e]
  simp only [rOp, rByte, rNum_four h3, rNum_four h4, rNum_four h5, rText_bs h6]
  rw [decide_eq_false (by omega)]
  rfl
theorem rOps_opB : ∀ (os : List Opp) (l : List Int), (∀ o ∈ os, opOk o = true) → rOps os.length (os.flatMap opB ++ l, false) = (os, l, false)
  | [], l, _ => rfl
  | o :: os, l, h => by
    have e : (o :: os).flatMap opB ++ l = opB o ++ (os.flatMap opB ++ l) := by simp
    rw [e]
    simp only [List.length_cons, rOps, cond_false, rOp_opB (h o (by simp)), rOps_opB os l fun x hx => h x (by simp [hx])]
end
end Go.Proofs.Ytcpahifgdppkbaa.QAI
