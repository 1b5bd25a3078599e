/- The head of the program, sign by sign; what is asked of every row. -/
import Derived.Test.YtcpahifgdppkbaaQRowPieces6
import Derived.Test.YtcpahifgdppkbaaRows
import Derived.ProofKit
import Derived.KernelRfl
import Derived.OpenShut
import Derived.HandedShaped
section
set_option linter.unusedVariables false
set_option linter.unusedSimpArgs false
namespace Go.Proofs.Ytcpahifgdppkbaa.QAI
open Go Go.RowKit Go.ChangeShapes Go.WideShapes Go.ChangeAt
set_option maxRecDepth 100000
def headNums : List Nat := [104, 97, 114, 110, 101, 115, 115, 32, 48, 53, 49, 54, 98, 53, 97, 48, 101, 48, 54, 50, 102, 51, 97, 50, 102, 98, 54, 50, 56, 49, 54, 48, 102, 53, 54, 56, 52, 53, 52, 57, 99, 102, 51, 99, 52, 51, 48, 97, 51, 99, 97, 97, 53, 55, 102, 57, 56, 55, 52, 52, 52, 102, 52, 102, 101, 53, 51, 97, 100, 56, 48, 98, 32, 99, 117, 116, 32, 97, 116, 32, 113, 117, 111, 105, 110, 47, 113, 117, 111, 105, 110, 108, 97, 119, 49, 53, 46, 70, 111, 108, 100, 66, 111, 117, 110, 100, 115, 32, 113, 117, 111, 105, 110, 47, 113, 117, 111, 105, 110, 108, 97, 119, 49, 53, 46, 70, 111, 108, 100, 84, 101, 108, 108, 115, 32, 113, 117, 111, 105, 110, 47, 113, 117, 111, 105, 110, 108, 97, 119, 57, 46, 71, 97, 117, 103, 66, 121, 116, 101, 115, 32, 113, 117, 111, 105, 110, 47, 113, 117, 111, 105, 110, 108, 97, 119, 57, 46, 71, 97, 117, 103, 84, 101, 108, 108, 115, 32, 113, 117, 111, 105, 110, 47, 113, 117, 111, 105, 110, 108, 97, 119, 57, 46, 71, 97, 117, 103, 80, 97, 114, 116, 115, 32, 113, 117, 111, 105, 110, 47, 113, 117, 111, 105, 110, 108, 97, 119, 50, 46, 82, 101, 99, 116, 69, 100, 103, 101, 115, 32, 113, 117, 111, 105, 110, 47, 113, 117, 111, 105, 110, 108, 97, 119, 50, 46, 82, 101, 99, 116, 74, 111, 105, 110, 115, 32, 113, 117, 111, 105, 110, 47, 113, 117, 111, 105, 110, 108, 97, 119, 50, 46, 82, 101, 99, 116, 84, 101, 108, 108, 115, 32, 113, 117, 111, 105, 110, 47, 113, 117, 111, 105, 110, 108, 97, 119, 50, 46, 82, 101, 99, 116, 80, 111, 105, 110, 116, 115, 32, 113, 117, 111, 105, 110, 47, 113, 117, 111, 105, 110, 108, 97, 119, 49, 54, 46, 83, 116, 97, 107, 79, 112, 101, 110, 115, 32, 113, 117, 111, 105, 110, 47, 113, 117, 111, 105, 110, 108, 97, 119, 49, 54, 46, 83, 116, 97, 107, 82, 105, 115, 101, 115, 32, 113, 117, 111, 105, 110, 47, 113, 117, 111, 105, 110, 108, 97, 119, 49, 54, 46, 83, 116, 97, 107, 84, 101, 108, 108, 115, 32, 113, 117, 111, 105, 110, 47, 113, 117, 111, 105, 110, 108, 97, 119, 49, 54, 46, 83, 116, 97, 107, 77, 101, 101, 116, 115, 32, 113, 117, 111, 105, 110, 47, 113, 117, 111, 105, 110, 108, 97, 119, 49, 54, 46, 83, 116, 97, 107, 69, 109, 112, 116, 121, 32, 113, 117, 111, 105, 110, 47, 113, 117, 111, 105, 110, 108, 97, 119, 50, 48, 46, 67, 114, 111, 115, 70, 105, 108, 108, 115, 32, 113, 117, 111, 105, 110, 47, 113, 117, 111, 105, 110, 108, 97, 119, 50, 48, 46, 67, 114, 111, 115, 76, 105, 110, 101, 115, 32, 113, 117, 111, 105, 110, 47, 113, 117, 111, 105, 110, 108, 97, 119, 50, 48, 46, 67, 114, 111, 115, 84, 101, 108, 108, 115, 32, 113, 117, 111, 105, 110, 47, 113, 117, 111, 105, 110, 108, 97, 119, 50, 48, 46, 67, 114, 111, 115, 87, 105, 116, 104, 105, 110, 32, 113, 117, 111, 105, 110, 47, 113, 117, 111, 105, 110, 108, 97, 119, 49, 48, 46, 87, 104, 105, 116, 80, 97, 114, 116, 115, 32, 113, 117, 111, 105, 110, 47, 113, 117, 111, 105, 110, 108, 97, 119, 49, 48, 46, 87, 104, 105, 116, 72, 111, 108, 100, 115, 32, 113, 117, 111, 105, 110, 47, 113, 117, 111, 105, 110, 108, 97, 119, 49, 48, 46, 87, 104, 105, 116, 84, 101, 108, 108, 115, 32, 113, 117, 111, 105, 110, 47, 113, 117, 111, 105, 110, 108, 97, 119, 49, 48, 46, 87, 104, 105, 116, 82, 111, 119, 115, 32, 113, 117, 111, 105, 110, 47, 113, 117, 111, 105, 110, 108, 97, 119, 49, 48, 46, 87, 104, 105, 116, 80, 114, 101, 32, 113, 117, 111, 105, 110, 47, 113, 117, 111, 105, 110, 108, 97, 119, 49, 49, 46, 66, 114, 107, 87, 111, 114, 100, 115, 32, 113, 117, 111, 105, 110, 47, 113, 117, 111, 105, 110, 108, 97, 119, 49, 49, 46, 66, 114, 107, 87, 104, 111, 108, 101, 32, 113, 117, 111, 105, 110, 47, 113, 117, 111, 105, 110, 108, 97, 119, 49, 49, 46, 66, 114, 107, 84, 101, 108, 108, 115, 32, 113, 117, 111, 105, 110, 47, 113, 117, 111, 105, 110, 108, 97, 119, 49, 49, 46, 66, 114, 107, 70, 117, 108, 108, 32, 113, 117, 111, 105, 110, 47, 113, 117, 111, 105, 110, 108, 97, 119, 49, 49, 46, 66, 114, 107, 76, 101, 97, 115, 116, 32, 113, 117, 111, 105, 110, 47, 113, 117, 111, 105, 110, 108, 97, 119, 49, 50, 46, 82, 111, 119, 72, 101, 105, 103, 104, 116, 115, 32, 113, 117, 111, 105, 110, 47, 113, 117, 111, 105, 110, 108, 97, 119, 49, 50, 46, 82, 111, 119, 82, 111, 111, 109, 32, 113, 117, 111, 105, 110, 47, 113, 117, 111, 105, 110, 108, 97, 119, 49, 50, 46, 82, 111, 119, 80, 105, 101, 99, 101, 115, 32, 113, 117, 111, 105, 110, 47, 113, 117, 111, 105, 110, 108, 97, 119, 49, 50, 46, 82, 111, 119, 84, 101, 108, 108, 115, 32, 113, 117, 111, 105, 110, 47, 113, 117, 111, 105, 110, 108, 97, 119, 49, 50, 46, 82, 111, 119, 83, 116, 97, 110, 100, 115, 32, 113, 117, 111, 105, 110, 47, 113, 117, 111, 105, 110, 108, 97, 119, 49, 50, 46, 82, 111, 119, 65, 108, 105, 103, 110, 115, 32, 113, 117, 111, 105, 110, 47, 113, 117, 111, 105, 110, 108, 97, 119, 50, 53, 46, 87, 105, 114, 101, 76, 111, 110, 103, 32, 113, 117, 111, 105, 110, 47, 113, 117, 111, 105, 110, 108, 97, 119, 50, 53, 46, 87, 105, 114, 101, 84, 101, 108, 108, 115, 32, 113, 117, 111, 105, 110, 47, 113, 117, 111, 105, 110, 108, 97, 119, 50, 53, 46, 87, 105, 114, 101, 66, 97, 99, 107]
theorem head_str : Try.prog.initOrder = String.ofList (headNums.map Char.ofNat) := by kernel_rfl
theorem head_list : Try.prog.initOrder.toList = headNums.map Char.ofNat := by
  rw [head_str, String.toList_ofList]
theorem head_words : ∃ T, behindMainWord (wordsSigns Try.prog.initOrder.toList) = "cut".toList :: T :=
  ⟨(behindMainWord (wordsSigns (headNums.map Char.ofNat))).tail, by rw [head_list]; kernel_rfl⟩
theorem strip_cut (T : List (List Char)) : stripLifts liftWords ("cut".toList :: T) = ([], "cut".toList :: T) := by kernel_rfl
section
variable {P : Program} {T : List (List Char)}
theorem headLifts_of (h : behindMainWord (wordsSigns P.initOrder.toList) = "cut".toList :: T) : P.headLifts = [] := by
  unfold Program.headLifts
  rw [h, strip_cut]
  kernel_rfl
theorem mayEnter_of (h : behindMainWord (wordsSigns P.initOrder.toList) = "cut".toList :: T) (h1 : P.laysLater = false) (h2 : P.bearsReflect = false) (h3 : P.doorRows = []) : P.mayEnter = true := by
  unfold Program.mayEnter Program.doorFits
  rw [h]
  simp only [strip_cut, h1, h2, h3]
  simp
theorem liftsFinal_of (h : behindMainWord (wordsSigns P.initOrder.toList) = "cut".toList :: T) : P.liftsFinal = false := by
  have hl := headLifts_of h
  unfold Program.liftsFinal
  rw [h, hl]
  simp
theorem make_of (h : behindMainWord (wordsSigns P.initOrder.toList) = "cut".toList :: T) : P.make = some .cut := by
  have hl := headLifts_of h
  unfold Program.make
  rw [h]
  simp only [hl]
  simp
end
theorem laysLater_ok : Try.prog.laysLater = false := by kernel_rfl
theorem bearsReflect_ok : Try.prog.bearsReflect = false := by kernel_rfl
theorem doorRows_ok : Try.prog.doorRows = [] := by kernel_rfl
theorem mayEnter_ok : Try.prog.mayEnter = true := head_words.elim fun _ h => mayEnter_of h laysLater_ok bearsReflect_ok doorRows_ok
theorem liftsFinal_ok : Try.prog.liftsFinal = false := head_words.elim fun _ h => liftsFinal_of h
theorem make_ok : Try.prog.make = some .cut := head_words.elim fun _ h => make_of h
end Go.Proofs.Ytcpahifgdppkbaa.QAI
end
section
/- What comes in: values without addresses, rows of such; from a function that gives back 'true' whatever comes in to a call. -/
set_option linter.unusedVariables false
set_option linter.unusedSimpArgs false
namespace Go.Proofs.Ytcpahifgdppkbaa.QAI
open Go Go.RowKit Go.ChangeShapes Go.WideShapes Go.ChangeAt
set_option maxRecDepth 100000

inductive Kd where
  | int (k : IntKind)
  | bool
  | str
  deriving DecidableEq
def Kd.ok : Kd → Value → Prop
  | .int k, v => ∃ n, v = .int k n ∧ (Lit.int k n).wf = true
  | .bool, v => ∃ b, v = .bool b
  | .str, v => ∃ s : ByteArray, v = .string s ∧ s.size ≤ maxLen
def Kd.desc : Kd → TypeDesc
  | .int k => .int k
  | .bool => .bool
  | .str => .string
def Kd.zero : Kd → Value
  | .int k => .int k 0
  | .bool => .bool false
  | .str => .string ⟨#[]⟩
theorem Kd.zero_ok (k : Kd) : k.ok k.zero := by
  cases k with
  | int k => exact ⟨0, rfl, by cases k <;> decide⟩
  | bool => exact ⟨false, rfl⟩
  | str => exact ⟨⟨#[]⟩, rfl, by decide⟩
theorem Kd.zeros_ok : ∀ ks : List Kd, F2 Kd.ok ks (ks.map Kd.zero)
  | [] => .nil
  | k :: ks => .cons k.zero_ok (Kd.zeros_ok ks)
theorem Kd.one {k : Kd} {v : Value} (h : k.ok v) : oneV v = true := by
  cases k with
  | int k => obtain ⟨n, rfl, _⟩ := h; rfl
  | bool => obtain ⟨b, rfl⟩ := h; rfl
  | str => obtain ⟨s, rfl, _⟩ := h; rfl

def flatFs (P : Program) (g : TypeId → Option (List Kd)) : List Field → Nat → Option (List Kd)
  | [], _ => some []
  | f :: fs, off =>
    if f.offset != off then none else
    match g f.type, flatFs P g fs (off + P.cellsOf f.type) with
    | some a, some b => if a.length = P.cellsOf f.type then some (a ++ b) else none
    | _, _ => none
def flatIn (P : Program) : Nat → TypeId → Option (List Kd)
  | 0, _ => none
  | d + 1, t =>
    match P.underlying t with
    | some (.int k) => some [.int k]
    | some .bool => some [.bool]
    | some .string => some [.str]
    | some (.struct fs) => match flatFs P (flatIn P d) fs.toList 0 with
      | some ks => if ks.length = P.cellsOf t then some ks else none
      | none => none
    | some (.array n e) => match flatIn P d e with
      | some ks => if ks.length = P.cellsOf e ∧ n * ks.length = P.cellsOf t then some (List.replicate n ks).flatten else none
      | none => none
    | _ => none

section
variable {H : Type} {enc : TypeId × Value → H} {P : Program} {w : World} {base : Nat} {spare : Nat → Bool} {held : Bool}

theorem flatFs_mem {g : TypeId → Option (List Kd)} : ∀ {fs : List Field} {off : Nat} {ks}, flatFs P g fs off = some ks → ∀ f ∈ fs, ∃ a, g f.type = some a
  | [], _, _, _, f, hf => by cases hf
  | f' :: fs, off, ks, h, f, hf => by
    simp only [flatFs] at h
    split at h
    · cases h
    · split at h
      · rename_i a b ha hb
        rcases List.mem_cons.1 hf with rfl | hf
        · exact ⟨a, ha⟩
        · exact flatFs_mem hb f hf
      · cases h

theorem flatFs_ok {g : TypeId → Option (List Kd)} {n : Nat} {cs : List Value} (hg : ∀ t a, g t = some a → ∀ cs x, DataW.trod enc P w base spare held n t cs = some x → F2 Kd.ok a cs ∧ x.2 = []) :
    ∀ {fs : List Field} {off : Nat} {ks}, flatFs P g fs off = some ks → (∀ f ∈ fs, ∃ y, DataW.trod enc P w base spare held n f.type ((cs.drop f.offset).take (P.cellsOf f.type)) = some y) →
      F2 Kd.ok ks ((cs.drop off).take ks.length)
  | [], off, ks, h, _ => by
    simp only [flatFs, Option.some.injEq] at h
    subst h
    simpa using F2.nil
  | f :: fs, off, ks, h, hy => by
    simp only [flatFs] at h
    split at h
    · cases h
    · rename_i ho
      have ho' : f.offset = off := by simpa using ho
      split at h
      · rename_i a b ha hb
        split at h
        · rename_i hl
          simp only [Option.some.injEq] at h
          subst h
          obtain ⟨y, hyf⟩ := hy f List.mem_cons_self
          have h1 := (hg _ _ ha _ _ hyf).1
          have h2 := flatFs_ok (cs := cs) hg hb (fun f' hf' => hy f' (List.mem_cons_of_mem _ hf'))
          rw [ho', ← hl] at h1
          rw [← hl] at h2
          have := h1.append h2
          rw [List.length_append, List.take_add, List.drop_drop]
          exact this
        · cases h
      · cases h

theorem flatArr_ok {e : TypeId} {ks : List Kd} {n s : Nat} {cs : List Value} (hs : ks.length = s) (hg : ∀ i, i < n → F2 Kd.ok ks ((cs.drop (i * s)).take s)) :
    ∀ m, m ≤ n → F2 Kd.ok (List.replicate m ks).flatten (cs.take (m * s))
  | 0, _ => by simpa using F2.nil
  | m + 1, hm => by
    have ih := flatArr_ok (e := e) hs hg m (by omega)
    have h1 := hg m (by omega)
    rw [List.replicate_succ', List.flatten_append]
    simp only [List.flatten_cons, List.flatten_nil, List.append_nil]
    rw [Nat.succ_mul, List.take_add]
    exact ih.append h1

theorem trod_flat : ∀ (d : Nat) (t : TypeId) (ks : List Kd), flatIn P d t = some ks → ∀ (fuel : Nat) (cs : List Value) x, DataW.trod enc P w base spare held fuel t cs = some x → F2 Kd.ok ks cs ∧ x.2 = []
  | 0, t, ks, hk, _, _, _, _ => by simp [flatIn] at hk
  | d + 1, t, ks, hk, fuel, cs, x, h => by
    simp only [flatIn] at hk
    split at hk
    · rename_i k hu
      simp only [Option.some.injEq] at hk
      subst hk
      obtain ⟨n, rfl, rfl, hw⟩ := DataW.trod_int hu h
      exact ⟨.cons ⟨n, rfl, hw⟩ .nil, rfl⟩
    · rename_i hu
      simp only [Option.some.injEq] at hk
      subst hk
      obtain ⟨b, rfl, rfl⟩ := DataW.trod_bool hu h
      exact ⟨.cons ⟨b, rfl⟩ .nil, rfl⟩
    · rename_i hu
      simp only [Option.some.injEq] at hk
      subst hk
      obtain ⟨s, rfl, rfl, hw⟩ := DataW.trod_string hu h
      exact ⟨.cons ⟨s, rfl, hw⟩ .nil, rfl⟩
    · rename_i fs hu
      split at hk
      · rename_i ks' hfs
        split at hk
        · rename_i hl
          simp only [Option.some.injEq] at hk
          subst hk
          obtain ⟨xs, n, _, rfl, hlen, hxs, hf⟩ := DataW.trod_struct hu h
          have hall : ∀ f ∈ fs.toList, ∃ y, y ∈ xs ∧ DataW.trod enc P w base spare held n f.type ((cs.drop f.offset).take (P.cellsOf f.type)) = some y := by
            intro f hf'
            obtain ⟨i, hi, rfl⟩ := List.getElem_of_mem hf'
            have hi' : i < fs.size := by simpa using hi
            have := hf i fs.toList[i] (by simp [hi'])
            have hix : i < xs.length := by omega
            rw [List.getElem?_eq_getElem hix] at this
            exact ⟨_, List.getElem_mem hix, this⟩
          have h1 := flatFs_ok (cs := cs) (fun t a ha cs x => trod_flat d t a ha n cs x) hfs fun f hf' => (hall f hf').elim fun y hy => ⟨y, hy.2⟩
          rw [List.drop_zero, hl, ← hlen, List.take_length] at h1
          refine ⟨h1, ?_⟩
          show xs.flatMap (·.2) = []
          rw [List.flatMap_eq_nil_iff]
          intro y hy
          obtain ⟨i, hi, rfl⟩ := List.getElem_of_mem hy
          have hif : i < fs.size := by omega
          have hfi := hf i fs[i] (by simp [hif])
          rw [List.getElem?_eq_getElem hi] at hfi
          obtain ⟨a, ha⟩ := flatFs_mem hfs fs[i] (by simp)
          exact (trod_flat d _ a ha n _ _ hfi).2
        · cases hk
      · cases hk
    · rename_i n e hu
      split at hk
      · rename_i ks' he
        split at hk
        · rename_i hl
          simp only [Option.some.injEq] at hk
          subst hk
          obtain ⟨xs, m, _, rfl, hlen, hxs, hf⟩ := DataW.trod_array hu h
          have hall : ∀ i, i < n → F2 Kd.ok ks' ((cs.drop (i * P.cellsOf e)).take (P.cellsOf e)) ∧ ∀ y, xs[i]? = some y → y.2 = [] := by
            intro i hi
            have hix : i < xs.length := by omega
            have := hf i hi
            rw [List.getElem?_eq_getElem hix] at this
            have h2 := trod_flat d e ks' he m _ _ this
            refine ⟨h2.1, fun y hy => ?_⟩
            rw [List.getElem?_eq_getElem hix] at hy
            cases hy
            exact h2.2
          have h1 := flatArr_ok (e := e) (cs := cs) hl.1 (fun i hi => (hall i hi).1) n (Nat.le_refl _)
          have e1 : n * P.cellsOf e = cs.length := by rw [hlen, ← hl.1]; exact hl.2
          rw [e1, List.take_length] at h1
          refine ⟨h1, ?_⟩
          show xs.flatMap (·.2) = []
          rw [List.flatMap_eq_nil_iff]
          intro y hy
          obtain ⟨i, hi, rfl⟩ := List.getElem_of_mem hy
          exact (hall i (by omega)).2 _ (by simp [hi])
        · cases hk
      · cases hk
    · cases hk
end

/-- What a parameter is. -/
inductive Shp where
  | one (k : Kd)
  | agg (ks : List Kd)
  | arr (n : Nat) (k : Kd)
  | rows (e : TypeId) (ks : List Kd)
inductive In where
  | one (v : Value)
  | agg (cs : List Value)
  | arr (f : Nat → Value)
  | rows (k : Nat) (f : Nat → List Value)
def InOk : Shp → In → Prop
  | .one k, .one v => k.ok v ∧ ∀ s, v = .string s → s.size ≤ reachBytes
  | .agg ks, .agg cs => F2 Kd.ok ks cs
  | .arr _ k, .arr f => ∀ i, k.ok (f i)
  | .rows _ ks, .rows k f => k ≤ maxLen ∧ ∀ i, F2 Kd.ok ks (f i)
  | _, _ => False
def InsOk : List Shp → List In → Prop
  | [], [] => True
  | s :: ss, i :: is => InOk s i ∧ InsOk ss is
  | _, _ => False
def avIn (id : Nat) : Shp → In → AV
  | _, .one v => .c (.v v)
  | _, .agg cs => .agg (ofCells cs)
  | .arr n _, .arr f => .arr n f
  | _, .rows k _ => .c (.sl id 0 k)
  | _, _ => .c .any
def blkIn : Shp → In → AHeap
  | .rows e ks, .rows k f => [some ⟨e, false, .row ks.length k f⟩]
  | _, _ => []
def avsIn : Nat → List Shp → List In → List AV
  | id, s :: ss, i :: is => avIn id s i :: avsIn (id + (blkIn s i).length) ss is
  | _, _, _ => []
def blksIn : List Shp → List In → AHeap
  | s :: ss, i :: is => blkIn s i ++ blksIn ss is
  | _, _ => []

def descIs : Option TypeDesc → Kd → Bool
  | some (.int a), .int b => decide (a = b)
  | some .bool, .bool => true
  | some .string, .str => true
  | _, _ => false
theorem descIs_ok {o : Option TypeDesc} {k : Kd} (h : descIs o k = true) : o = some k.desc := by
  unfold descIs at h
  split at h
  · have := of_decide_eq_true h
    subst this
    rfl
  · rfl
  · rfl
  · cases h
def sliceIs : Option TypeDesc → TypeId → Bool
  | some (.slice a), e => decide (a = e)
  | _, _ => false
theorem sliceIs_ok {o : Option TypeDesc} {e : TypeId} (h : sliceIs o e = true) : o = some (.slice e) := by
  unfold sliceIs at h
  split at h
  · have := of_decide_eq_true h
    subst this
    rfl
  · cases h
theorem ins_nil {is : List In} (h : InsOk [] is) : is = [] := by
  cases is with
  | nil => rfl
  | cons i is => cases h
theorem ins_cons {s : Shp} {ss : List Shp} {is : List In} (h : InsOk (s :: ss) is) : ∃ i is', is = i :: is' ∧ InOk s i ∧ InsOk ss is' := by
  cases is with
  | nil => cases h
  | cons i is => exact ⟨i, is, rfl, h.1, h.2⟩
theorem ins_i64 {ss : List Shp} {is : List In} (h : InsOk (.one (.int .i64) :: ss) is) : ∃ (a : Int) (is' : List In), is = .one (.int .i64 a) :: is' ∧ InsOk ss is' := by
  obtain ⟨i, is', rfl, h1, h2⟩ := ins_cons h
  cases i with
  | one v =>
    obtain ⟨⟨a, rfl, _⟩, _⟩ := h1
    exact ⟨a, is', rfl, h2⟩
  | _ => cases h1
theorem ins_bool {ss : List Shp} {is : List In} (h : InsOk (.one .bool :: ss) is) : ∃ (a : Bool) (is' : List In), is = .one (.bool a) :: is' ∧ InsOk ss is' := by
  obtain ⟨i, is', rfl, h1, h2⟩ := ins_cons h
  cases i with
  | one v =>
    obtain ⟨⟨a, rfl⟩, _⟩ := h1
    exact ⟨a, is', rfl, h2⟩
  | _ => cases h1
theorem ins_str {ss : List Shp} {is : List In} (h : InsOk (.one .str :: ss) is) : ∃ (a : ByteArray) (is' : List In), is = .one (.string a) :: is' ∧ InsOk ss is' ∧ a.size ≤ reachBytes := by
  obtain ⟨i, is', rfl, h1, h2⟩ := ins_cons h
  cases i with
  | one v =>
    obtain ⟨⟨a, rfl, hs⟩, hr⟩ := h1
    exact ⟨a, is', rfl, h2, hr _ rfl⟩
  | _ => cases h1
theorem ins_arr {n : Nat} {ss : List Shp} {is : List In} (h : InsOk (.arr n (.int .i64) :: ss) is) : ∃ (g : Nat → Int) (is' : List In), is = .arr (fun k => .int .i64 (g k)) :: is' ∧ InsOk ss is' := by
  obtain ⟨i, is', rfl, h1, h2⟩ := ins_cons h
  cases i with
  | arr f =>
    have : ∀ i, ∃ a, f i = .int .i64 a := fun i => (h1 i).elim fun a ha => ⟨a, ha.1⟩
    refine ⟨fun i => (this i).choose, is', ?_, h2⟩
    congr 2
    funext i
    exact (this i).choose_spec
  | _ => cases h1
theorem ins_ints {e : TypeId} {ss : List Shp} {is : List In} (h : InsOk (.rows e [.int .i64] :: ss) is) : ∃ (k : Nat) (g : Nat → Int) (is' : List In), is = .rows k (fun i => [.int .i64 (g i)]) :: is' ∧ InsOk ss is' ∧ k ≤ maxLen := by
  obtain ⟨i, is', rfl, h1, h2⟩ := ins_cons h
  cases i with
  | rows k f =>
    obtain ⟨hk, h1⟩ := h1
    have : ∀ i, ∃ a, f i = [.int .i64 a] := fun i => by
      obtain ⟨b, hb, a, rfl, _⟩ := (h1 i).get 0 _ rfl
      have hl := (h1 i).length
      match hf : f i, hl with
      | [x], _ =>
        rw [hf] at hb
        cases hb
        exact ⟨a, rfl⟩
    refine ⟨k, fun i => (this i).choose, is', ?_, h2, hk⟩
    congr 2
    funext i
    exact (this i).choose_spec
  | _ => cases h1
/-- What the kernel looks at, of a parameter. -/
def shpOk (P : Program) (t : TypeId) (s : Shp) : Bool :=
  P.readableRec t && decide (t < P.types.size) &&
  match s with
  | .one k => descIs (P.underlying t) k
  | .agg ks => flatIn P 9 t == some ks && (match P.underlying t with | some (.struct _) => true | _ => false)
  | .arr n k => flatIn P 9 t == some (List.replicate n k) && (match P.underlying t with | some (.struct _) => true | _ => false)
  | .rows e ks => sliceIs (P.underlying t) e && flatIn P 9 e == some ks && ks.length == P.cellsOf e && decide (0 < ks.length)
def shpsOk (P : Program) : List TypeId → List Shp → Bool
  | [], [] => true
  | t :: ts, s :: ss => shpOk P t s && shpsOk P ts ss
  | _, _ => false

section
variable {H : Type} {enc : TypeId × Value → H} {P : Program} {W : World} {base : Nat}

/-- A block that came in, and where it lies. -/
def Came (B : Nat) (w : World) (o : Option ABlk) (p : Pl) : Prop := ∃ b, o = some b ∧ b.own = false ∧ ∀ m, BR B m b p w

theorem came_hr {B : Nat} {w : World} {h : AHeap} {m : List Pl} (H : F2 (Came B w) h m) : HR B m h w ∧ ∀ (id : Nat) b, h[id]? = some (some b) → b.own = false := by
  have hown : ∀ (id : Nat) b, h[id]? = some (some b) → b.own = false := by
    intro id b hb
    obtain ⟨p, _, b', e, ho, _⟩ := H.get id _ hb
    cases e
    exact ho
  refine ⟨{ len := H.length.symm, blk := ?_, apart := ?_ }, hown⟩
  · intro id b p hb hp
    obtain ⟨p', hp', b', e, _, hr⟩ := H.get id _ hb
    cases e
    rw [hp] at hp'
    cases hp'
    exact hr m
  · intro id id' b b' p p' A A' _ hb _ ho
    rw [hown id b hb] at ho
    cases ho

theorem came_one {t : TypeId} {s : Shp} {v : Value} {d : DataW H} {p : List MemPlace} (hs : shpOk P t s = true) (hval : Value.okWide P W .any base t v) (ht : DataW.Trod enc P W 0 (fun _ => true) true t v d p) (hlt : ∀ x ∈ p, x.block < W.heap.size) (hwt : (DataW.weights P t d).all (· ≤ reachBytes) = true) :
    ∃ (i : In) (ml : List Pl), InOk s i ∧ F2 (Came W.heap.size W) (blkIn s i) ml ∧ ∀ m0 : List Pl, ∀ mr, VR (m0 ++ (ml ++ mr)) (avIn m0.length s i) v := by
  obtain ⟨fuel, hf⟩ := ht
  unfold shpOk at hs
  simp only [Bool.and_eq_true] at hs
  obtain ⟨_, hs⟩ := hs
  cases s with
  | one k =>
    have hu : P.underlying t = some k.desc := descIs_ok hs
    refine ⟨.one v, [], ?_, .nil, fun m0 mr => (rfl : v = v)⟩
    show k.ok v ∧ _
    cases k with
    | int k =>
      obtain ⟨n, rfl⟩ := okWide_int hu hval
      obtain ⟨n', h, _, hw⟩ := DataW.trod_int hu hf
      simp [Value.cells] at h
      subst h
      exact ⟨⟨n, rfl, hw⟩, fun _ h => nomatch h⟩
    | bool =>
      obtain ⟨b, rfl⟩ := okWide_bool hu hval
      exact ⟨⟨b, rfl⟩, fun _ h => nomatch h⟩
    | str =>
      obtain ⟨n, rfl⟩ := okWide_string hu hval
      obtain ⟨n', h, hx, hw⟩ := DataW.trod_string hu hf
      simp [Value.cells] at h
      subst h
      refine ⟨⟨n, rfl, hw⟩, fun s' hs' => ?_⟩
      cases hs'
      simp only [Prod.mk.injEq] at hx
      rw [hx.1] at hwt
      simp only [DataW.weights, List.all_cons, Bool.and_eq_true, decide_eq_true_eq] at hwt
      simpa using hwt.1
  | agg ks =>
    simp only [Bool.and_eq_true, beq_iff_eq] at hs
    obtain ⟨hk, hu⟩ := hs
    split at hu
    · rename_i fs hu'
      obtain ⟨cs, rfl, _⟩ := okWide_struct hu' hval
      have := (trod_flat 9 t ks hk fuel _ _ hf).1
      exact ⟨.agg cs.toList, [], this, .nil, fun m0 mr => ⟨cs, rfl, F2_ofCells _ _⟩⟩
    · cases hu
  | arr n k =>
    simp only [Bool.and_eq_true, beq_iff_eq] at hs
    obtain ⟨hk, hu⟩ := hs
    split at hu
    · rename_i fs hu'
      obtain ⟨cs, rfl, _⟩ := okWide_struct hu' hval
      have h1 : F2 Kd.ok (List.replicate n k) cs.toList := (trod_flat 9 t _ hk fuel _ _ hf).1
      have hl : cs.size = n := by have := h1.length; simp at this; omega
      have hget : ∀ i, k.ok (cs.toList.getD i k.zero) := by
        intro i
        rcases Nat.lt_or_ge i n with hi | hi
        · obtain ⟨b, hb, hok⟩ := h1.get i k (by simp [hi])
          rw [List.getD_eq_getElem?_getD, hb]
          exact hok
        · rw [List.getD_eq_getElem?_getD, List.getElem?_eq_none (by simp; omega)]
          exact k.zero_ok
      refine ⟨.arr fun i => cs.toList.getD i k.zero, [], hget, .nil, fun m0 mr => ⟨?_, fun i _ => Kd.one (hget i)⟩⟩
      have : cs.toList = (List.range n).map fun i => cs.toList.getD i k.zero := by
        apply List.ext_getElem
        · simp [hl]
        · intro i h1 h2
          simp [List.getD_eq_getElem?_getD, List.getElem?_eq_getElem h1]
          have : i < cs.size := by simpa using h1
          simp [this]
      rw [← this]
    · cases hu
  | rows e ks =>
    simp only [Bool.and_eq_true, beq_iff_eq, decide_eq_true_eq] at hs
    obtain ⟨⟨⟨hu0, hk⟩, hc⟩, hpos⟩ := hs
    have hu := sliceIs_ok hu0
    obtain ⟨a0, len, cap, rfl⟩ := okWide_slice hu hval
    rcases DataW.trod_slice hu hf with ⟨hcs, hx⟩ | ⟨a, len', cap', elems, rest, n, _, hcs, hx, _, hl, hm, hlen, hel, _, _⟩
    · simp [Value.cells] at hcs
      obtain ⟨rfl, rfl, rfl⟩ := hcs
      refine ⟨.rows 0 fun _ => ks.map Kd.zero, [⟨none, 0, ks.length⟩], ⟨Nat.zero_le _, fun i => Kd.zeros_ok ks⟩, .cons ⟨_, rfl, rfl, fun m => ?_⟩ .nil, fun m0 mr => ?_⟩
      · exact { sz := rfl, len := fun i hi => absurd hi (Nat.not_lt_zero _), cap := Nat.le_refl _, cell := fun i j c hi => absurd hi (Nat.not_lt_zero _), own := fun h => (by cases h), came := fun _ A h => (by cases h) }
      · exact ⟨⟨none, 0, ks.length⟩, none, 0, by simp, rfl, ⟨Nat.le_refl _, fun _ => rfl⟩, fun _ => ⟨rfl, rfl⟩, fun h => absurd h (Nat.lt_irrefl _)⟩
    · simp [Value.cells] at hcs
      obtain ⟨rfl, rfl, rfl⟩ := hcs
      simp only [Prod.mk.injEq] at hx
      obtain ⟨rfl, rfl⟩ := hx
      have each : ∀ i, i < len → ∃ cs, W.cells? 0 (a.add (i * P.cellsOf e)) (P.cellsOf e) = some cs ∧ F2 Kd.ok ks cs ∧ ∀ j, j < P.cellsOf e → W.cell? ((a.add (i * P.cellsOf e)).add j) = cs[j]? := by
        intro i hi
        have := hel i hi
        rw [List.getElem?_eq_getElem (by omega), Option.bind_eq_some_iff] at this
        obtain ⟨cs, hcs, hy⟩ := this
        exact ⟨cs, hcs, (trod_flat 9 e ks hk _ _ _ hy).1, (World.cells?_some hcs).2.2⟩
      let f : Nat → List Value := fun i => if i < len then (W.cells? 0 (a.add (i * P.cellsOf e)) (P.cellsOf e)).getD [] else ks.map Kd.zero
      have hfi : ∀ i, i < len → F2 Kd.ok ks (f i) ∧ ∀ j, j < P.cellsOf e → W.cell? ((a.add (i * P.cellsOf e)).add j) = (f i)[j]? := by
        intro i hi
        obtain ⟨cs, h1, h2, h3⟩ := each i hi
        have : f i = cs := by simp only [f, h1, Option.getD_some, hi, if_true]
        rw [this]
        exact ⟨h2, h3⟩
      have hall : ∀ i, F2 Kd.ok ks (f i) := by
        intro i
        by_cases hi : i < len
        · exact (hfi i hi).1
        · simp only [f, hi, if_false]
          exact Kd.zeros_ok ks
      have hsp : 0 < len → a.spot = none := by
        intro h0
        obtain ⟨h1, h2⟩ := hfi 0 h0
        have h3 := h2 0 (by omega)
        have hl0 : (f 0).length = ks.length := h1.length.symm
        rw [List.getElem?_eq_getElem (by omega)] at h3
        simpa [Addr.add] using World.cell?_spot h3
      refine ⟨.rows len f, [⟨some a, cap, ks.length⟩], ⟨Nat.le_trans hl hm, hall⟩, .cons ⟨_, rfl, rfl, fun m => ?_⟩ .nil, fun m0 mr => ?_⟩
      · refine { sz := rfl, len := fun i hi => ?_, cap := hl, cell := ?_, own := fun h => (by cases h), came := ?_ }
        · show (ofCells (f i)).length = ks.length
          rw [ofCells, List.length_map]
          exact (hfi i hi).1.length.symm
        · intro i j c hi hcj
          obtain ⟨h1, h2⟩ := hfi i hi
          have hcj' : ((f i).map AC.v)[j]? = some c := hcj
          rw [List.getElem?_map, Option.map_eq_some_iff] at hcj'
          obtain ⟨x, hx, rfl⟩ := hcj'
          have hj : j < P.cellsOf e := by
            have := (List.getElem?_eq_some_iff.1 hx).1
            have := h1.length
            omega
          have h3 := h2 j hj
          have hs0 := hsp (by have : i < len := hi; omega)
          refine ⟨a, x, rfl, hs0, ?_, rfl, ?_⟩
          · obtain ⟨b, off, spot⟩ := a
            simp only at hs0
            subst hs0
            rw [add_plain, add_plain, hx] at h3
            rw [← h3]
            simp [hc, Nat.add_assoc]
          · have hj2 : j < ks.length := by omega
            obtain ⟨y, hy, hok⟩ := h1.get j ks[j] (by simp [hj2])
            rw [hx] at hy
            cases hy
            exact Kd.one hok
        · intro _ A hA hn
          cases hA
          have hn' : 0 < len := hn
          have : MemPlace.cell a.block a.off ∈ MemPlace.row a ((elems.length + rest.length) * P.cellsOf e) := by
            refine MemPlace.mem_row.2 ⟨0, ?_, by simp⟩
            have : 0 < P.cellsOf e := by omega
            exact Nat.mul_pos (by omega) this
          exact hlt _ (List.mem_append_left _ this)
      · refine ⟨⟨some a, cap, ks.length⟩, some a, cap, by simp, rfl, ⟨hl, fun e => nomatch e⟩, fun _ => ⟨rfl, rfl⟩, fun hpos' => ?_⟩
        have hs0 := hsp hpos'
        refine ⟨a, rfl, hs0, ?_⟩
        obtain ⟨b, off, spot⟩ := a
        simp only at hs0
        subst hs0
        simp

theorem came_all : ∀ {ts : List TypeId} {ss : List Shp} {vs : List Value} {ds : List (DataW H)} {p : List MemPlace}, shpsOk P ts ss = true → (∀ (j : Nat) t v, ts[j]? = some t → vs[j]? = some v → Value.okWide P W .any base t v) →
    DataW.TrodAll enc P W 0 (fun _ => true) true ts vs ds p → (∀ x ∈ p, x.block < W.heap.size) → (DataW.weightsEach P ts ds).all (· ≤ reachBytes) = true →
    ∃ (is : List In) (ml : List Pl), InsOk ss is ∧ F2 (Came W.heap.size W) (blksIn ss is) ml ∧ ∀ m0 : List Pl, ∀ mr, VRs (m0 ++ (ml ++ mr)) (avsIn m0.length ss is) vs
  | [], [], vs, ds, p, _, _, h, _, _ => by
    obtain ⟨h1, rfl, rfl⟩ := trodAll_nil h
    have : vs = [] := by simpa using h1
    subst this
    exact ⟨[], [], trivial, .nil, fun _ _ => trivial⟩
  | [], _ :: _, _, _, _, hs, _, _, _, _ => by cases hs
  | _ :: _, [], _, _, _, hs, _, _, _, _ => by cases hs
  | t :: ts, s :: ss, vs, ds, p, hs, hval, h, hlt, hwt => by
    simp only [shpsOk, Bool.and_eq_true] at hs
    obtain ⟨v, vs', d, ds', p1, p2, rfl, rfl, rfl, h1, h2⟩ := trodAll_cons h
    simp only [DataW.weightsEach, List.all_append, Bool.and_eq_true] at hwt
    obtain ⟨i, ml, a1, a2, a3⟩ := came_one hs.1 (hval 0 t v rfl rfl) h1 (fun x hx => hlt x (List.mem_append_left _ hx)) hwt.1
    obtain ⟨is, ml', b1, b2, b3⟩ := came_all hs.2 (fun j t' v' ht' hv' => hval (j + 1) t' v' (by simpa using ht') (by simpa using hv')) h2 (fun x hx => hlt x (List.mem_append_right _ hx)) hwt.2
    refine ⟨i :: is, ml ++ ml', ⟨a1, b1⟩, a2.append b2, fun m0 mr => ?_⟩
    have e1 := a3 m0 (ml' ++ mr)
    have e2 := b3 (m0 ++ ml) mr
    rw [List.length_append, ← a2.length] at e2
    simp only [avsIn]
    refine ⟨?_, ?_⟩
    · simpa [List.append_assoc] using e1
    · simpa [List.append_assoc] using e2

theorem trodAll_len {w : World} {spare : Nat → Bool} {held : Bool} : ∀ {ts : List TypeId} {vs : List Value} {ds : List (DataW H)} {p : List MemPlace}, DataW.TrodAll enc P w base spare held ts vs ds p → ds.length = ts.length
  | [], vs, ds, p, h => by
    obtain ⟨_, rfl, _⟩ := trodAll_nil h
    rfl
  | t :: ts, vs, ds, p, h => by
    obtain ⟨v, vs', d, ds', p1, p2, rfl, rfl, rfl, _, h2⟩ := trodAll_cons h
    simp [trodAll_len h2]
theorem Below.trodAll' {W' : World} (hl : laidOutB P = true) : ∀ {ts : List TypeId} {ss : List Shp} {vs : List Value} {ds : List (DataW H)} {p : List MemPlace}, shpsOk P ts ss = true →
    DataW.TrodAll enc P W 0 (fun _ => true) true ts vs ds p → (∀ x ∈ p, x.block < W.heap.size) → Below W.heap.size W W' → DataW.TrodAll enc P W' 0 (fun b => decide (b < W.heap.size)) true ts vs ds p
  | [], [], vs, ds, p, _, h, _, _ => by
    obtain ⟨h1, rfl, rfl⟩ := trodAll_nil h
    have : vs = [] := by simpa using h1
    subst this
    exact trodAll_mk0
  | [], _ :: _, _, _, _, hs, _, _, _ => by cases hs
  | _ :: _, [], _, _, _, hs, _, _, _ => by cases hs
  | t :: ts, s :: ss, vs, ds, p, hs, h, hlt, hb => by
    simp only [shpsOk, Bool.and_eq_true] at hs
    obtain ⟨v, vs', d, ds', p1, p2, rfl, rfl, rfl, h1, h2⟩ := trodAll_cons h
    have hso := hs.1
    unfold shpOk at hso
    simp only [Bool.and_eq_true, decide_eq_true_eq] at hso
    exact trodAll_cons_mk (Below.trod hl hso.1.1 hso.1.2 h1 hb fun x hx => hlt x (List.mem_append_left _ hx)) (Below.trodAll' hl hs.2 h2 (fun x hx => hlt x (List.mem_append_right _ hx)) hb)
end

theorem Fr.below {X : Nat → Prop} {w w' : World} (h : Fr X w w') (hx : ∀ k, k < w.heap.size → ¬ X k) : Below w.heap.size w w' :=
  ⟨h.os, h.tape, h.output, h.size, fun k hk => h.blk k hk (hx k hk)⟩

theorem laidOut : laidOutB Try.prog = true := by kernel_rfl
theorem ownK : ownKnob Try.prog.godebug = none := by kernel_rfl
theorem un4 : Try.prog.underlying 4 = some .bool := by kernel_rfl

noncomputable def trueF (K : Known) (fn : Func) : Spec := fun args h => .need (yes (∃ keep L d ts, (afun (GT K keep L ts) d fn args h).eval = some (Bo true, h))) (.ret (Bo true, h))
theorem trueF_ok {K : Known} (hK : KnownOk K) {f : Nat} {fn : Func} (hf : Try.prog.funcs[f]? = some fn) : SpecOk Try.prog f (trueF K fn) := by
  refine knownT hK hf fun args h r he => ?_
  obtain ⟨h1, he⟩ := Tr.eval_ask.1 he
  cases he
  exact h1

/-- A function that gives back 'true', whatever came in. -/
theorem law_callsT {H : Type} {enc : TypeId × Value → H} {W : World} {base : Nat} {K : Known} (hK : KnownOk K) {f : Nat} {fn : Func} (hf : Try.prog.funcs[f]? = some fn) {ts : List TypeId} {ss : List Shp} {args : Array Value} {ds : List (DataW H)} {p : List MemPlace} (hs : shpsOk Try.prog ts ss = true)
    (hval : ∀ (j : Nat) t v, ts[j]? = some t → args.toList[j]? = some v → Value.okWide Try.prog W .any base t v) (hA : DataW.TrodAll enc Try.prog W 0 (fun _ => true) true ts args.toList ds p) (hlt : ∀ x ∈ p, x.block < W.heap.size) (hwt : (DataW.weightsEach Try.prog ts ds).all (· ≤ reachBytes) = true)
    (he : ∀ is, InsOk ss is → ∃ keep L d tm, (afun (GT K keep L tm) d fn (avsIn 0 ss is) (blksIn ss is)).eval = some (Bo true, blksIn ss is)) :
    Calls Try.prog f args W fun e w' => e = .returned (.bool true) ∧ Below W.heap.size W w' := by
  obtain ⟨is, ml, h1, h2, h3⟩ := came_all hs hval hA hlt hwt
  obtain ⟨hH, ho⟩ := came_hr h2
  have hv : VRs ml (avsIn 0 ss is) args.toList := by simpa using h3 [] []
  have he' : (trueF K fn (avsIn 0 ss is) (blksIn ss is)).eval = some (Bo true, blksIn ss is) := Tr.eval_ask.2 ⟨he is h1, rfl⟩
  refine (trueF_ok hK hf _ _ _ _ _ he' ml W args hH (Nat.le_refl _) hv).mono fun e w' h => ?_
  obtain ⟨m', x, rfl, hst, hr⟩ := h
  have : x = .bool true := hr
  subst this
  refine ⟨rfl, hst.fr.below fun k _ => ?_⟩
  rintro ⟨id, b, p, A, hb, hown, _⟩
  rw [ho id b hb] at hown
  cases hown

theorem law_calls {H : Type} {enc : TypeId × Value → H} {W : World} {base : Nat} {K : Known} (hK : KnownOk K) {f : Nat} {fn : Func} (hf : Try.prog.funcs[f]? = some fn) {ts : List TypeId} {ss : List Shp} {args : Array Value} {ds : List (DataW H)} {p : List MemPlace} (hs : shpsOk Try.prog ts ss = true)
    (hval : ∀ (j : Nat) t v, ts[j]? = some t → args.toList[j]? = some v → Value.okWide Try.prog W .any base t v) (hA : DataW.TrodAll enc Try.prog W 0 (fun _ => true) true ts args.toList ds p) (hlt : ∀ x ∈ p, x.block < W.heap.size) (hwt : (DataW.weightsEach Try.prog ts ds).all (· ≤ reachBytes) = true)
    (he : ∀ is, InsOk ss is → ∃ keep L d, (afun (GK K keep L) d fn (avsIn 0 ss is) (blksIn ss is)).eval = some (Bo true, blksIn ss is)) :
    Calls Try.prog f args W fun e w' => e = .returned (.bool true) ∧ Below W.heap.size W w' :=
  law_callsT hK hf hs hval hA hlt hwt fun is h => by
    obtain ⟨keep, L, d, h⟩ := he is h
    exact ⟨keep, L, d, [], h⟩

end Go.Proofs.Ytcpahifgdppkbaa.QAI
end
section
/- GaugBytes: the walk and the plain law. -/
set_option linter.unusedVariables false
set_option linter.unusedSimpArgs false
namespace Go.Proofs.Ytcpahifgdppkbaa.QAI
open Go Go.RowKit
set_option maxRecDepth 100000
abbrev Str (s : ByteArray) : AV := .c (.v (.string s))
noncomputable def gbG (L : Nat) : Ctx2 := GK KG2 (fun k => if k = 7 then [(1,none),(2,none),(5,none),(6,none),(7,none)] else []) L
def gbS (a : Nat → Int) (s : ByteArray) (sum : Int) (back : ByteArray) (i : Int) : St := ⟨slots 64 [(1, Str s), (2, .c (.ptr 0 0 0)), (5, I64 sum), (6, Str back), (7, I64 i)], [rowA a]⟩
def gbE (a : Nat → Int) (s : ByteArray) (sum : Int) (back : ByteArray) (i : Int) : St := ⟨slots 64 [(1, Str s), (2, .c (.ptr 0 0 0)), (5, I64 sum), (6, Str back), (7, I64 i), (14, I64 i), (15, Str s), (16, I64 s.size), (17, Bo false)], [rowA a]⟩
theorem gb_go {L : Nat} {a : Nat → Int} {s : ByteArray} {sum : Int} {back : ByteArray} {i : Int} : (roundT (arun (gbG L) 0 51 (bodyOf Try.f5 0)) (canon (gbG L).T 0 ((gbG L).keep 7)) (gbS a s sum back i)).go [true, true, true, true, true, true, true, true, true, false] =
  some
    ([decide (i < ↑s.size), true, decInt i (w64 (i + 1)) s.size, decide (0 ≤ i), decide (i < ↑s.size), true,
        decide (bt s i < 256), decide ((bt s i).toNat < 256),
        yes
          ((s.extract i.toNat (w64 (i + 1)).toNat).size ≤ 2 ^ 40 ∧
            (fun k => ((fun k => v1 (a k)) k).headD undef) = fun k =>
              Value.int IntKind.i64 (dv ((fun k => ((fun k => v1 (a k)) k).headD undef) k))),
        !cs (fun k => dv ((fun k => ((fun k => v1 (a k)) k).headD undef) k))
              (s.extract i.toNat (w64 (i + 1)).toNat).data.toList !=
            a (bt s i).toNat,
        decide (0 ≤ i), decide (i < ↑s.size), true, decide (bt s i < 256), decide ((bt s i).toNat < 256),
        decInt i (w64 (i + 1)) s.size,
        decide (↑((s.extract i.toNat (w64 (i + 1)).toNat).size + back.size) ≤ IntKind.i64.max)],
      Ex.normal,
      {
        sl :=
          slots 64
            [(1, AV.c (AC.v (Value.string s))), (2, AV.c (AC.ptr 0 0 0)), (5, I64 (w64 (sum + a (bt s i).toNat))),
              (6, AV.c (AC.v (Value.string (s.extract i.toNat (w64 (i + 1)).toNat ++ back)))), (7, I64 (w64 (i + 1)))],
        h := [some { t := 35, own := true, c := Cont.row 1 256 fun k => [Value.int IntKind.i64 (a k)] }] }) := by kernel_rfl
theorem gb_end {L : Nat} {a : Nat → Int} {s : ByteArray} {sum : Int} {back : ByteArray} {i : Int} : (roundT (arun (gbG L) 0 51 (bodyOf Try.f5 0)) (canon (gbG L).T 0 ((gbG L).keep 7)) (gbS a s sum back i)).go [false] =
  some
    ([!decide (i < ↑s.size)], Ex.exit 0,
      {
        sl :=
          slots 64
            [(1, AV.c (AC.v (Value.string s))), (2, AV.c (AC.ptr 0 0 0)), (5, I64 sum),
              (6, AV.c (AC.v (Value.string back))), (7, I64 i), (14, I64 i), (15, AV.c (AC.v (Value.string s))),
              (16, I64 ↑s.size), (17, Bo false)],
        h := [some { t := 35, own := true, c := Cont.row 1 256 fun k => [Value.int IntKind.i64 (a k)] }] }) := by kernel_rfl
theorem cut_listG (s : ByteArray) (a b : Nat) : (s.extract a b).data.toList = (s.data.toList.drop a).take (b - a) := by simp [List.extract]
def backB (s : ByteArray) : Nat → ByteArray
  | 0 => ⟨#[]⟩
  | j + 1 => s.extract j (j + 1) ++ backB s j
theorem one_list (s : ByteArray) {j : Nat} (hj : j < s.data.toList.length) : (s.extract j (j + 1)).data.toList = [s.data.toList[j]] := by
  rw [cut_listG, show j + 1 - j = 1 by omega, List.take_one, List.head?_drop, List.getElem?_eq_getElem hj]
  rfl
theorem back_list (s : ByteArray) : ∀ j, j ≤ s.size → (backB s j).data.toList = (s.data.toList.take j).reverse
  | 0, _ => rfl
  | j + 1, h => by
    have hj : j < s.data.toList.length := by rw [size_len]; omega
    rw [backB, ByteArray.data_append, Array.toList_append, back_list s j (by omega), one_list s hj, List.take_add_one, List.getElem?_eq_getElem hj]
    simp
theorem back_size (s : ByteArray) (j : Nat) (h : j ≤ s.size) : (backB s j).size = j := by
  rw [← size_len, back_list s j h, List.length_reverse, List.length_take, size_len]
  omega
theorem cs_reverse (a : Nat → Int) : ∀ l : List UInt8, cs a l.reverse = cs a l
  | [] => rfl
  | b :: l => by
    rw [List.reverse_cons, cs_append, cs_reverse a l, show b :: l = [b] ++ l from rfl, cs_append]
    omega
def aOk (a : Nat → Int) : Prop := ∀ k, k < 256 → 0 ≤ a k ∧ a k ≤ 65536
theorem aOk_cl {a : Nat → Int} (h : aOk a) {k : Nat} (hk : k < 256) : cl (a k) = a k := by
  have := h k hk
  unfold cl mnI mxI
  split <;> (try split) <;> omega
def gbI (a : Nat → Int) (s : ByteArray) (j : Nat) : St := gbS a s (cs a (s.data.toList.take j)) (backB s j) j
theorem gb_loop {L : Nat} {a : Nat → Int} {s : ByteArray} (ha : aOk a) (hs : s.size ≤ 1000) (hL : s.size < L) :
    (iter (arun (gbG L) 0 51 (bodyOf Try.f5 0)) (canon (gbG L).T 0 ((gbG L).keep 7)) L (gbI a s 0)).eval = some (.exit 0, gbE a s (cs a s.data.toList) (backB s s.size) s.size) := by
  refine iter_upto (fun i => gbI a s i) (N := s.size) (by simp) ?_ L 0 (Nat.zero_le _) (by omega) ?_
  · have e : s.data.toList.take s.size = s.data.toList := by rw [← size_len, List.take_length]
    simp only [gbI, e]
    exact round_go gb_end (by simp [AllT])
  · intro j _ hj
    have hjl : j < s.data.toList.length := by rw [size_len]; exact hj
    have h3 : w64 ((j : Int) + 1) = ((j + 1 : Nat) : Int) := by rw [w64_id (by omega) (by omega)]; omega
    have hb := bt_at s hjl
    have hlt : s.data.toList[j].toNat < 256 := UInt8.toNat_lt _
    have h6 : bt s j < 256 := by rw [hb]; omega
    have h7 : (bt s j).toNat < 256 := by rw [hb]; omega
    have e8 : (bt s j).toNat = s.data.toList[j].toNat := by rw [hb]; omega
    have hcl := aOk_cl ha h7
    have hone := one_list s hjl
    have hbs := back_size s j (by omega)
    have hcut : (s.extract j (j + 1)).size = 1 := by rw [← size_len, hone]; rfl
    have hstep : cs a (s.data.toList.take (j + 1)) = cs a (s.data.toList.take j) + a (bt s j).toNat := by
      rw [List.take_add_one, List.getElem?_eq_getElem hjl, Option.toList_some, cs_append, cs_one, ← e8, hcl]
    have hb1 := (cs_b a (s.data.toList.take j))
    have hlen : (s.data.toList.take j).length ≤ j := by simp; omega
    have hb2 := ha _ h7
    have hw : w64 (cs a (s.data.toList.take j) + a (bt s j).toNat) = cs a (s.data.toList.take (j + 1)) := by rw [hstep, w64_id (by omega) (by omega)]
    have hcs : cs a (s.extract j (j + 1)).data.toList = a (bt s j).toNat := by rw [hone, cs_one, ← e8, hcl]
    have hmax : IntKind.i64.max = 9223372036854775807 := by decide
    have hgo := gb_go (L := L) (a := a) (s := s) (sum := cs a (s.data.toList.take j)) (back := backB s j) (i := j)
    rw [h3, hw] at hgo
    simp only [Int.toNat_natCast] at hgo
    refine round_go hgo ?_
    have hd : decInt (j : Int) ((j + 1 : Nat) : Int) s.size = true := by simp [decInt]; omega
    have hij : (j : Int) < s.size := by omega
    have hi0 : decide ((0 : Int) ≤ (j : Int)) = true := by simp
    refine ⟨decide_eq_true hij, rfl, hd, hi0, decide_eq_true hij, rfl, decide_eq_true h6, decide_eq_true h7, yes_of ⟨by omega, rfl⟩, ?_, hi0, decide_eq_true hij, rfl, decide_eq_true h6, decide_eq_true h7, hd, ?_, trivial⟩
    · have : (cs a (s.extract j (j + 1)).data.toList != a (bt s j).toNat) = false := by rw [hcs]; simp
      show (!(cs a (s.extract j (j + 1)).data.toList != a (bt s j).toNat)) = true
      rw [this]; rfl
    · rw [decide_eq_true_eq, hcut, hbs, hmax]; omega
end Go.Proofs.Ytcpahifgdppkbaa.QAI
end
section
/- GaugTells: what is called. -/
set_option linter.unusedVariables false
set_option linter.unusedSimpArgs false
namespace Go.Proofs.Ytcpahifgdppkbaa.QAI
open Go Go.RowKit
set_option maxRecDepth 100000
noncomputable def okG (L : Nat) : Ctx2 := GK [] (fun k => if k = 2 then [(6,none),(7,none)] else []) L
noncomputable def mkG (L : Nat) : Ctx2 := GK [] (fun k => if k = 2 then [(1,none),(3,none)] else []) L
noncomputable def KG4 : Known := [(150, afun (GK [] (fun _ => []) 0) 60 Try.f150)]
noncomputable def KG3 : Known := [(115, afun (GK KG4 (fun _ => []) 0) 60 Try.f115)]
theorem KG4_ok : KnownOk KG4 := gKcons (known0 gKnil 60 Try.func150) (by kernel_rfl) gKnil
theorem KG3_ok : KnownOk KG3 := gKcons (known0 KG4_ok 60 Try.func115) (by kernel_rfl) gKnil
noncomputable def rwG (L : Nat) : Ctx2 := GK KG3 (fun k => if k = 3 then [(1,none),(2,none),(5,none),(6,none)] else []) L
def okS (a : Nat → Int) (i : Int) : St := ⟨slots 17 [(6, aA a), (7, I64 i)], []⟩
def mkS (a : Nat → Int) (i : Int) : St := ⟨slots 20 [(1, .c (.ptr 0 0 0)), (3, I64 i)], [rowA a]⟩
def rwS (a : Nat → Int) (s : ByteArray) (n i : Int) : St := ⟨slots 21 [(1, Str s), (2, .c (.ptr 0 0 0)), (5, I64 n), (6, I64 i)], [rowA a]⟩
noncomputable def okR (L : Nat) (S : St) : Tr (Ex × St) := roundT (arun (okG L) 0 55 (bodyOf Try.f48 0)) (canon (okG L).T 0 ((okG L).keep 2)) S
noncomputable def mkR (L : Nat) (S : St) : Tr (Ex × St) := roundT (arun (mkG L) 0 55 (bodyOf Try.f49 0)) (canon (mkG L).T 0 ((mkG L).keep 2)) S
noncomputable def rwR (L : Nat) (S : St) : Tr (Ex × St) := roundT (arun (rwG L) 0 54 (bodyOf Try.f50 0)) (canon (rwG L).T 0 ((rwG L).keep 3)) S
noncomputable def tsR (L : Nat) (S : St) : Tr (Ex × St) := roundT (arun (tmG L) 0 55 (bodyOf Try.f46 0)) (canon (tmG L).T 0 ((tmG L).keep 2)) S
def ok_lor (a : Nat → Int) (i : Int) : Ex × St := (Ex.ret,
      {
        sl :=
          slots 17
            [(2, Bo false), (4, I64 (a i.toNat)),
              (6, AV.arr 256 fun k => Value.int IntKind.i64 (a k)), (7, I64 i),
              (8, Bo true), (9, I64 (a i.toNat)), (10, I64 (a i.toNat)),
              (11, Bo (decide (a i.toNat < (0 : Int)))), (12, Bo true),
              (13, AV.c (AC.v (Value.tuple { toList := [] }))),
              (14, AV.c (AC.v (Value.tuple { toList := [] }))), (15, Bo true)],
        h := [] })
theorem ok_lo {L : Nat} {a : Nat → Int} {i : Int} : (okR L (okS a i)).go [] =
  some
    ([decide (i < (256 : Int)), decide ((0 : Int) ≤ i), decide (i < ↑(256 : Nat)), decide (a i.toNat < (0 : Int)), true,
        true, true], ok_lor a i) := by kernel_rfl
def ok_hir (a : Nat → Int) (i : Int) : Ex × St := (Ex.ret,
      {
        sl :=
          slots 17
            [(2, Bo false), (4, I64 (a i.toNat)),
              (6, AV.arr 256 fun k => Value.int IntKind.i64 (a k)), (7, I64 i),
              (8, Bo true), (9, I64 (a i.toNat)), (10, I64 (a i.toNat)),
              (11, Bo (decide (a i.toNat < (0 : Int)))), (12, Bo false), (13, I64 (a i.toNat)),
              (14, Bo (decide (a i.toNat > (65536 : Int)))), (15, Bo true)],
        h := [] })
theorem ok_hi {L : Nat} {a : Nat → Int} {i : Int} : (okR L (okS a i)).go [true, true, true, false, false, false] =
  some
    ([decide (i < (256 : Int)), decide ((0 : Int) ≤ i), decide (i < ↑(256 : Nat)), !decide (a i.toNat < (0 : Int)),
        true, true, decide (a i.toNat > (65536 : Int))], ok_hir a i) := by kernel_rfl
theorem ok_go {L : Nat} {a : Nat → Int} {i : Int} : (okR L (okS a i)).go [true, true, true, false, false, false, false] =
  some
    ([decide (i < (256 : Int)), decide ((0 : Int) ≤ i), decide (i < ↑(256 : Nat)), !decide (a i.toNat < (0 : Int)),
        true, true, !decide (a i.toNat > (65536 : Int))],
      Ex.normal,
      {
        sl :=
          slots 17
            [(6, AV.arr 256 fun k => Value.int IntKind.i64 (a k)),
              (7, I64 (w64 (i + (1 : Int))))],
        h := [] }) := by kernel_rfl
def ok_endr (a : Nat → Int) (i : Int) : Ex × St := (Ex.exit 0,
      {
        sl :=
          slots 17
            [(6, AV.arr 256 fun k => Value.int IntKind.i64 (a k)), (7, I64 i),
              (8, Bo false)],
        h := [] })
theorem ok_end {L : Nat} {a : Nat → Int} {i : Int} : (okR L (okS a i)).go [false] =
  some
    ([!decide (i < (256 : Int))], ok_endr a i) := by kernel_rfl
def mk_lor (a : Nat → Int) (i : Int) : Ex × St := (Ex.ret,
      {
        sl :=
          slots 20
            [(1, AV.c (AC.ptr 0 0 0)), (2, Bo false), (3, I64 i),
              (4, I64 i), (5, Bo true), (8, I64 i),
              (9, AV.c (AC.ptr 0 0 0)),
              (10, AV.c (AC.ptr 0 i.toNat 0)), (11, I64 (a i.toNat)),
              (12, Bo (decide (a i.toNat < (0 : Int)))), (13, Bo true),
              (14, AV.c (AC.v (Value.tuple { toList := [] }))),
              (15, AV.c (AC.v (Value.tuple { toList := [] }))),
              (16, AV.c (AC.v (Value.tuple { toList := [] }))),
              (17, AV.c (AC.v (Value.tuple { toList := [] }))),
              (18, AV.c (AC.v (Value.tuple { toList := [] }))), (19, Bo true)],
        h :=
          [some
              { t := 35, own := true,
                c := Cont.row 1 256 fun k => [Value.int IntKind.i64 (a k)] }] })
theorem mk_lo {L : Nat} {a : Nat → Int} {i : Int} : (mkR L (mkS a i)).go [] =
  some
    ([decide (i < (256 : Int)), decide ((0 : Int) ≤ i), decide (i < ↑(256 : Nat)), decide (i.toNat < 256),
        decide (a i.toNat < (0 : Int)), true, true, true, true, true, true], mk_lor a i) := by kernel_rfl
def mk_hir (a : Nat → Int) (i : Int) : Ex × St := (Ex.ret,
      {
        sl :=
          slots 20
            [(1, AV.c (AC.ptr 0 0 0)), (2, Bo false), (3, I64 i),
              (4, I64 i), (5, Bo true), (8, I64 i),
              (9, AV.c (AC.ptr 0 0 0)),
              (10, AV.c (AC.ptr 0 i.toNat 0)), (11, I64 (a i.toNat)),
              (12, Bo (decide (a i.toNat < (0 : Int)))), (13, Bo false), (14, I64 i),
              (15, AV.c (AC.ptr 0 0 0)),
              (16, AV.c (AC.ptr 0 i.toNat 0)), (17, I64 (a i.toNat)),
              (18, Bo (decide (a i.toNat > (65536 : Int)))), (19, Bo true)],
        h :=
          [some
              { t := 35, own := true,
                c := Cont.row 1 256 fun k => [Value.int IntKind.i64 (a k)] }] })
theorem mk_hi {L : Nat} {a : Nat → Int} {i : Int} : (mkR L (mkS a i)).go [true, true, true, true, false, false, false, true, true, false, true, false, false] =
  some
    ([decide (i < (256 : Int)), decide ((0 : Int) ≤ i), decide (i < ↑(256 : Nat)), decide (i.toNat < 256),
        !decide (a i.toNat < (0 : Int)), true, true, decide ((0 : Int) ≤ i), decide (i < ↑(256 : Nat)), true,
        decide (i.toNat < 256), true, true, decide (a i.toNat > (65536 : Int))], mk_hir a i) := by kernel_rfl
theorem mk_go {L : Nat} {a : Nat → Int} {i : Int} : (mkR L (mkS a i)).go [true, true, true, true, false, false, false, true, true, false, true, false, false, false] =
  some
    ([decide (i < (256 : Int)), decide ((0 : Int) ≤ i), decide (i < ↑(256 : Nat)), decide (i.toNat < 256),
        !decide (a i.toNat < (0 : Int)), true, true, decide ((0 : Int) ≤ i), decide (i < ↑(256 : Nat)), true,
        decide (i.toNat < 256), true, true, !decide (a i.toNat > (65536 : Int))],
      Ex.normal,
      {
        sl :=
          slots 20
            [(1, AV.c (AC.ptr 0 0 0)), (3, I64 (w64 (i + (1 : Int))))],
        h :=
          [some
              { t := 35, own := true,
                c := Cont.row 1 256 fun k => [Value.int IntKind.i64 (a k)] }] }) := by kernel_rfl
def mk_endr (a : Nat → Int) (i : Int) : Ex × St := (Ex.exit 0,
      {
        sl :=
          slots 20
            [(1, AV.c (AC.ptr 0 0 0)), (3, I64 i), (4, I64 i),
              (5, Bo false)],
        h :=
          [some
              { t := 35, own := true,
                c := Cont.row 1 256 fun k => [Value.int IntKind.i64 (a k)] }] })
theorem mk_end {L : Nat} {a : Nat → Int} {i : Int} : (mkR L (mkS a i)).go [false] =
  some
    ([!decide (i < (256 : Int))], mk_endr a i) := by kernel_rfl
theorem rw_go {L : Nat} {a : Nat → Int} {s : ByteArray} {n i : Int} : (rwR L (rwS a s n i)).go [] =
  some
    ([decide (i < ↑s.size), true, decide ((0 : Int) ≤ i), decide (i < ↑s.size), true, decide (bt s i < ↑(256 : Nat)),
        decide ((bt s i).toNat < 256)],
      Ex.normal,
      {
        sl :=
          slots 21
            [(1, AV.c (AC.v (Value.string s))), (2, AV.c (AC.ptr 0 0 0)),
              (5, I64 (w64 (n + mnI (65536 : Int) (mxI (0 : Int) (a (bt s i).toNat))))),
              (6, I64 (w64 (i + (1 : Int))))],
        h :=
          [some
              { t := 35, own := true,
                c := Cont.row 1 256 fun k => [Value.int IntKind.i64 (a k)] }] }) := by kernel_rfl
def rw_endr (a : Nat → Int) (s : ByteArray) (n : Int) (i : Int) : Ex × St := (Ex.exit 0,
      {
        sl :=
          slots 21
            [(1, AV.c (AC.v (Value.string s))), (2, AV.c (AC.ptr 0 0 0)),
              (5, I64 n), (6, I64 i), (7, I64 i), (8, AV.c (AC.v (Value.string s))),
              (9, I64 ↑s.size), (10, Bo false)],
        h :=
          [some
              { t := 35, own := true,
                c := Cont.row 1 256 fun k => [Value.int IntKind.i64 (a k)] }] })
theorem rw_end {L : Nat} {a : Nat → Int} {s : ByteArray} {n i : Int} : (rwR L (rwS a s n i)).go [false] =
  some
    ([!decide (i < ↑s.size)], rw_endr a s n i) := by kernel_rfl
theorem ts_go {L : Nat} {a : Nat → Int} {i : Int} : (tsR L (tmS a true i)).go [] =
  some
    ([decide (i < (256 : Int)), decide ((0 : Int) ≤ i), decide (i < ↑(256 : Nat)), decide (i.toNat < 256), true,
        decide ((0 : Int) ≤ i), decide (i < ↑(256 : Nat)), decide (i.toNat < 256), true, decide ((0 : Int) ≤ i),
        decide (i < ↑(256 : Nat)), decide (i.toNat < 256), decide ((0 : Int) ≤ i), decide (i < ↑(256 : Nat)),
        decide (i.toNat < 256)],
      Ex.normal,
      {
        sl :=
          slots 55
            [(1, Bo true), (2, AV.c (AC.ptr 0 0 0)),
              (4, AV.c (AC.ptr 1 0 0)), (5, I64 (w64 (i + (1 : Int))))],
        h :=
          [some
              { t := 35, own := true,
                c :=
                  Cont.row 1 256 fun k =>
                    [Value.int IntKind.i64
                        (bif decide (k = i.toNat) then
                          and64
                            (bif decide (i.toNat = i.toNat) then w64 ((u64 (a i.toNat)).tmod (65537 : Int))
                            else a i.toNat)
                            (15 : Int)
                        else bif decide (k = i.toNat) then w64 ((u64 (a i.toNat)).tmod (65537 : Int)) else a k)] },
            some
              { t := 35, own := true,
                c := Cont.row 1 256 fun k => [Value.int IntKind.i64 (0 : Int)] }] }) := by kernel_rfl
def ts_endr (a : Nat → Int) (i : Int) : Ex × St := (Ex.exit 0,
      {
        sl :=
          slots 55
            [(1, Bo true), (2, AV.c (AC.ptr 0 0 0)),
              (4, AV.c (AC.ptr 1 0 0)), (5, I64 i), (6, I64 i),
              (7, Bo false)],
        h :=
          [some
              { t := 35, own := true,
                c := Cont.row 1 256 fun k => [Value.int IntKind.i64 (a k)] },
            some
              { t := 35, own := true,
                c := Cont.row 1 256 fun k => [Value.int IntKind.i64 (0 : Int)] }] })
theorem ts_end {L : Nat} {a : Nat → Int} {i : Int} : (tsR L (tmS a true i)).go [false] =
  some
    ([!decide (i < (256 : Int))], ts_endr a i) := by kernel_rfl
theorem first_bad (p : Nat → Bool) : ∀ n, (∀ k, k < n → p k = true) ∨ ∃ N, N < n ∧ p N = false ∧ ∀ k, k < N → p k = true
  | 0 => .inl fun k hk => by omega
  | n + 1 => by
    rcases first_bad p n with h | ⟨N, h1, h2, h3⟩
    · cases hp : p n with
      | true =>
        refine .inl fun k hk => ?_
        by_cases e : k = n
        · rw [e, hp]
        · exact h k (by omega)
      | false => exact .inr ⟨n, by omega, hp, h⟩
    · exact .inr ⟨N, by omega, h2, h3⟩
def inR (x : Int) : Bool := decide (0 ≤ x) && decide (x ≤ 65536)
def okB (a : Nat → Int) : Bool := allB 256 fun k => inR (a k)
theorem okB_true {a : Nat → Int} (h : ∀ k, k < 256 → inR (a k) = true) : okB a = true := by
  simp only [okB, allB, List.all_eq_true, List.mem_range]
  exact h
theorem okB_false {a : Nat → Int} {N : Nat} (h : N < 256) (hb : inR (a N) = false) : okB a = false := by
  cases e : okB a with
  | false => rfl
  | true =>
    simp only [okB, allB, List.all_eq_true, List.mem_range] at e
    rw [e N h] at hb
    cases hb
theorem inR_iff (x : Int) : inR x = true ↔ 0 ≤ x ∧ x ≤ 65536 := by simp [inR]
theorem ok_upto {L : Nat} {a : Nat → Int} {N : Nat} {r : Ex × St} (hL : 256 < L) (hN : N ≤ 256) (hr : r.1 ≠ .normal) (h : round (arun (okG L) 0 55 (bodyOf Try.f48 0)) (canon (okG L).T 0 ((okG L).keep 2)) (okS a N) = some r) (hb : ∀ k, k < N → inR (a k) = true) :
    (iter (arun (okG L) 0 55 (bodyOf Try.f48 0)) (canon (okG L).T 0 ((okG L).keep 2)) L (okS a 0)).eval = some r := by
  refine iter_upto (fun i => okS a i) (N := N) (e := r.1) hr h L 0 (Nat.zero_le _) (by omega) fun j _ hj => ?_
  have hx := (inR_iff _).1 (hb j hj)
  have h3 : w64 ((j : Int) + 1) = ((j + 1 : Nat) : Int) := by rw [w64_id (by omega) (by omega)]; omega
  have hg := ok_go (L := L) (a := a) (i := j)
  rw [h3] at hg
  simp only [Int.toNat_natCast] at hg
  refine round_go hg ?_
  repeat' (first | exact AllT.nil | refine AllT.cons ?_ ?_)
  all_goals first | rfl | exact decide_eq_true (by omega) | (simp; done) | (simp; omega)
theorem mk_upto {L : Nat} {a : Nat → Int} {N : Nat} {r : Ex × St} (hL : 256 < L) (hN : N ≤ 256) (hr : r.1 ≠ .normal) (h : round (arun (mkG L) 0 55 (bodyOf Try.f49 0)) (canon (mkG L).T 0 ((mkG L).keep 2)) (mkS a N) = some r) (hb : ∀ k, k < N → inR (a k) = true) :
    (iter (arun (mkG L) 0 55 (bodyOf Try.f49 0)) (canon (mkG L).T 0 ((mkG L).keep 2)) L (mkS a 0)).eval = some r := by
  refine iter_upto (fun i => mkS a i) (N := N) (e := r.1) hr h L 0 (Nat.zero_le _) (by omega) fun j _ hj => ?_
  have hx := (inR_iff _).1 (hb j hj)
  have h3 : w64 ((j : Int) + 1) = ((j + 1 : Nat) : Int) := by rw [w64_id (by omega) (by omega)]; omega
  have hg := mk_go (L := L) (a := a) (i := j)
  rw [h3] at hg
  simp only [Int.toNat_natCast] at hg
  refine round_go hg ?_
  repeat' (first | exact AllT.nil | refine AllT.cons ?_ ?_)
  all_goals first | rfl | exact decide_eq_true (by omega) | (simp; done) | (simp; omega)
theorem ok_w1 {L : Nat} {a : Nat → Int} {i : Int} : (lfun (okG L) (told 55 (bodyOf Try.f48 0) (okS a 0) (ok_lor a i)) 60 Try.f48 [aA a] []).go [] =
  some ([true, yes (was 55 (bodyOf Try.f48 0) (okS a 0))], Bo false, []) := by kernel_rfl
theorem ok_w2 {L : Nat} {a : Nat → Int} {i : Int} : (lfun (okG L) (told 55 (bodyOf Try.f48 0) (okS a 0) (ok_hir a i)) 60 Try.f48 [aA a] []).go [] =
  some ([true, yes (was 55 (bodyOf Try.f48 0) (okS a 0))], Bo false, []) := by kernel_rfl
theorem ok_w3 {L : Nat} {a : Nat → Int} {i : Int} : (lfun (okG L) (told 55 (bodyOf Try.f48 0) (okS a 0) (ok_endr a i)) 60 Try.f48 [aA a] []).go [] =
  some ([true, yes (was 55 (bodyOf Try.f48 0) (okS a 0))], Bo true, []) := by kernel_rfl
theorem mk_w1 {L : Nat} {a : Nat → Int} {i : Int} : (lfun (mkG L) (told 55 (bodyOf Try.f49 0) (mkS a 0) (mk_lor a i)) 60 Try.f49 [aA a] []).go [] =
  some ([yes (was 55 (bodyOf Try.f49 0) (mkS a 0))], Bo false, []) := by kernel_rfl
theorem mk_w2 {L : Nat} {a : Nat → Int} {i : Int} : (lfun (mkG L) (told 55 (bodyOf Try.f49 0) (mkS a 0) (mk_hir a i)) 60 Try.f49 [aA a] []).go [] =
  some ([yes (was 55 (bodyOf Try.f49 0) (mkS a 0))], Bo false, []) := by kernel_rfl
theorem mk_w3 {L : Nat} {a : Nat → Int} {i : Int} : (lfun (mkG L) (told 55 (bodyOf Try.f49 0) (mkS a 0) (mk_endr a i)) 60 Try.f49 [aA a] []).go [] =
  some ([yes (was 55 (bodyOf Try.f49 0) (mkS a 0))], Bo true, []) := by kernel_rfl
noncomputable def okF : Spec := fun args h => match args, h with
  | [.arr 256 f], [] => .need (yes (f = fun k => .int .i64 (dv (f k)))) (.ret (Bo (okB fun k => dv (f k)), []))
  | _, _ => .fail
theorem okF_ok : SpecOk Try.prog 48 okF := by
  refine known' gKnil Try.func48 fun args h r he => ?_
  unfold okF at he
  split at he
  · rename_i f
    obtain ⟨h1, he⟩ := Tr.eval_ask.1 he
    cases he
    have key : (afun (okG 257) 60 Try.f48 [aA fun k => dv (f k)] []).eval = some (Bo (okB fun k => dv (f k)), []) := by
      rcases first_bad (fun k => inR (dv (f k))) 256 with h | ⟨N, h2, h3, h4⟩
      · rw [okB_true h]
        exact lfun_go (h := []) (told_ok (ok_upto (L := 257) (N := 256) (by decide) (Nat.le_refl _) (by simp [ok_endr]) (round_go ok_end ⟨by simp, trivial⟩) h)) ok_w3 ⟨rfl, yes_of ⟨rfl, rfl, rfl⟩, trivial⟩
      · rw [okB_false h2 h3]
        have h5 : ¬ (0 ≤ dv (f N) ∧ dv (f N) ≤ 65536) := fun e => by rw [(inR_iff _).2 e] at h3; cases h3
        by_cases h6 : dv (f N) < 0
        · refine lfun_go (h := []) (told_ok (ok_upto (L := 257) (N := N) (by decide) (by omega) (by simp [ok_lor]) (round_go (ok_lo (i := N)) ?_) h4)) ok_w1 ⟨rfl, yes_of ⟨rfl, rfl, rfl⟩, trivial⟩
          simp only [Int.toNat_natCast]
          repeat' (first | exact AllT.nil | refine AllT.cons ?_ ?_)
          all_goals first | rfl | exact decide_eq_true (by omega) | (simp; done) | (simp; omega)
        · refine lfun_go (h := []) (told_ok (ok_upto (L := 257) (N := N) (by decide) (by omega) (by simp [ok_hir]) (round_go (ok_hi (i := N)) ?_) h4)) ok_w2 ⟨rfl, yes_of ⟨rfl, rfl, rfl⟩, trivial⟩
          simp only [Int.toNat_natCast]
          repeat' (first | exact AllT.nil | refine AllT.cons ?_ ?_)
          all_goals first | rfl | exact decide_eq_true (by omega) | (simp; done) | (simp; omega)
    rw [aA, ← h1] at key
    exact ⟨_, _, _, key⟩
  · cases he
theorem mkF_ok : SpecOk Try.prog 49 okF := by
  refine known' gKnil Try.func49 fun args h r he => ?_
  unfold okF at he
  split at he
  · rename_i f
    obtain ⟨h1, he⟩ := Tr.eval_ask.1 he
    cases he
    have key : (afun (mkG 257) 60 Try.f49 [aA fun k => dv (f k)] []).eval = some (Bo (okB fun k => dv (f k)), []) := by
      rcases first_bad (fun k => inR (dv (f k))) 256 with h | ⟨N, h2, h3, h4⟩
      · rw [okB_true h]
        exact lfun_go (h := []) (told_ok (mk_upto (L := 257) (N := 256) (by decide) (Nat.le_refl _) (by simp [mk_endr]) (round_go mk_end ⟨by simp, trivial⟩) h)) mk_w3 ⟨yes_of ⟨rfl, rfl, rfl⟩, trivial⟩
      · rw [okB_false h2 h3]
        have h5 : ¬ (0 ≤ dv (f N) ∧ dv (f N) ≤ 65536) := fun e => by rw [(inR_iff _).2 e] at h3; cases h3
        by_cases h6 : dv (f N) < 0
        · refine lfun_go (h := []) (told_ok (mk_upto (L := 257) (N := N) (by decide) (by omega) (by simp [mk_lor]) (round_go (mk_lo (i := N)) ?_) h4)) mk_w1 ⟨yes_of ⟨rfl, rfl, rfl⟩, trivial⟩
          simp only [Int.toNat_natCast]
          repeat' (first | exact AllT.nil | refine AllT.cons ?_ ?_)
          all_goals first | rfl | exact decide_eq_true (by omega) | (simp; done) | (simp; omega)
        · refine lfun_go (h := []) (told_ok (mk_upto (L := 257) (N := N) (by decide) (by omega) (by simp [mk_hir]) (round_go (mk_hi (i := N)) ?_) h4)) mk_w2 ⟨yes_of ⟨rfl, rfl, rfl⟩, trivial⟩
          simp only [Int.toNat_natCast]
          repeat' (first | exact AllT.nil | refine AllT.cons ?_ ?_)
          all_goals first | rfl | exact decide_eq_true (by omega) | (simp; done) | (simp; omega)
    rw [aA, ← h1] at key
    exact ⟨_, _, _, key⟩
  · cases he
theorem rw_loop {L : Nat} {a : Nat → Int} {s : ByteArray} (hs : s.size ≤ 2 ^ 40) (hL : s.size < L) :
    (iter (arun (rwG L) 0 54 (bodyOf Try.f50 0)) (canon (rwG L).T 0 ((rwG L).keep 3)) L (rwS a s 0 0)).eval = some (rw_endr a s (cs a s.data.toList) s.size) := by
  refine iter_upto (fun i => rwS a s (cs a (s.data.toList.take i)) i) (N := s.size) (e := .exit 0) (by simp) ?_ L 0 (Nat.zero_le _) (by omega) ?_
  · have e : s.data.toList.take s.size = s.data.toList := by rw [← size_len, List.take_length]
    simp only [e]
    exact round_go rw_end ⟨by simp, trivial⟩
  · intro j _ hj
    have hjl : j < s.data.toList.length := by rw [size_len]; exact hj
    have h3 : w64 ((j : Int) + 1) = ((j + 1 : Nat) : Int) := by rw [w64_id (by omega) (by omega)]; omega
    have hb := bt_at s hjl
    have hlt : s.data.toList[j].toNat < 256 := UInt8.toNat_lt _
    have h8 : w64 (cs a (s.data.toList.take j) + cl (a (bt s j).toNat)) = cs a (s.data.toList.take (j + 1)) := by
      have hc := cs_b a (s.data.toList.take j)
      have hcl := cl_b (a (bt s j).toNat)
      have hlen : (s.data.toList.take j).length ≤ j := by simp; omega
      rw [List.take_add_one, List.getElem?_eq_getElem hjl, Option.toList_some, cs_append, cs_one]
      have e : (bt s j).toNat = s.data.toList[j].toNat := by rw [hb]; omega
      rw [e] at hcl ⊢
      exact w64_id (by omega) (by omega)
    have hg := rw_go (L := L) (a := a) (s := s) (n := cs a (s.data.toList.take j)) (i := j)
    rw [h3, show mnI 65536 (mxI 0 (a (bt s j).toNat)) = cl (a (bt s j).toNat) from rfl, h8] at hg
    refine round_go hg ?_
    repeat' (first | exact AllT.nil | refine AllT.cons ?_ ?_)
    all_goals first | rfl | exact decide_eq_true (by omega) | (simp; done) | (simp; omega)
theorem rw_w {L : Nat} {a : Nat → Int} {s : ByteArray} {n : Int} : (lfun (rwG L) (told 54 (bodyOf Try.f50 0) (rwS a s 0 0) (rw_endr a s n s.size)) 60 Try.f50 [aA a, Str s] []).go [] =
  some ([yes (was 54 (bodyOf Try.f50 0) (rwS a s 0 0))], I64 n, []) := by kernel_rfl
theorem rwF_ok : SpecOk Try.prog 50 (wdF fun _ _ => .fail) := by
  refine known' KG3_ok Try.func50 fun args h r he => ?_
  unfold wdF at he
  split at he
  · rename_i f s
    obtain ⟨⟨h0, h1⟩, he⟩ := Tr.eval_ask.1 he
    cases he
    have key : (afun (rwG (s.size + 1)) 60 Try.f50 [aA fun k => dv (f k), Str s] []).eval = some (I64 (cs (fun k => dv (f k)) s.data.toList), []) := by
      refine lfun_go (h := []) (told_ok (rw_loop h0 (Nat.lt_succ_self _))) rw_w ?_
      repeat' (first | exact AllT.nil | refine AllT.cons ?_ ?_)
      all_goals first | rfl | exact yes_of ⟨rfl, rfl, rfl⟩
    rw [aA, ← h1] at key
    exact ⟨_, _, _, key⟩
  · cases he
/- Brought near, small. -/
def tsm (a : Nat → Int) (i : Nat) : Nat → Int := fun j => if j < i then and64 (tu (a j)) 15 else a j
theorem ts_loop {L : Nat} {a : Nat → Int} (hL : 256 < L) :
    (iter (arun (tmG L) 0 55 (bodyOf Try.f46 0)) (canon (tmG L).T 0 ((tmG L).keep 2)) L (tmS (tsm a 0) true 0)).eval = some (ts_endr (tsm a 256) 256) := by
  refine iter_upto (fun i => tmS (tsm a i) true i) (N := 256) (e := .exit 0) (by simp) ?_ L 0 (Nat.zero_le _) (by omega) ?_
  · exact round_go ts_end ⟨by simp, trivial⟩
  · intro j _ hj
    have h3 : w64 ((j : Int) + 1) = ((j + 1 : Nat) : Int) := by rw [w64_id (by omega) (by omega)]; omega
    have hg := ts_go (L := L) (a := tsm a j) (i := j)
    rw [h3, Int.toNat_natCast] at hg
    have e : (fun k => [Value.int IntKind.i64 (bif decide (k = j) then and64 (bif decide (j = j) then w64 ((u64 (tsm a j j)).tmod 65537) else tsm a j j) 15 else bif decide (k = j) then w64 ((u64 (tsm a j j)).tmod 65537) else tsm a j k)]) = fun k => v1 (tsm a (j + 1) k) := by
      funext k
      by_cases h : k = j
      · subst h
        simp [tsm, v1, tu]
      · by_cases h2 : k < j
        · have : k < j + 1 := by omega
          simp [h, tsm, v1, h2, this]
        · have : ¬ k < j + 1 := by omega
          simp [h, tsm, v1, h2, this]
    rw [e] at hg
    refine round_go hg ?_
    repeat' (first | exact AllT.nil | refine AllT.cons ?_ ?_)
    all_goals first | rfl | exact decide_eq_true (by omega) | (simp; done) | (simp; omega)
def ts_wr (a : Nat → Int) : AV × AHeap := (AV.arr 256 fun k =>
        Value.int IntKind.i64
          (bif decide (k = Int.toNat (32 : Int)) then w64 (tsm a 256 (Int.toNat (32 : Int)) + (32 : Int))
          else
            bif decide (k = Int.toNat (99 : Int)) then w64 (tsm a 256 (Int.toNat (99 : Int)) + (640 : Int))
            else
              bif decide (k = Int.toNat (98 : Int)) then w64 (tsm a 256 (Int.toNat (98 : Int)) + (100 : Int))
              else
                bif decide (k = Int.toNat (97 : Int)) then w64 (tsm a 256 (Int.toNat (97 : Int)) + (64 : Int))
                else tsm a 256 k),
      [])
theorem ts_w {L : Nat} {a : Nat → Int} : (lfun (tmG L) (told 55 (bodyOf Try.f46 0) (tmS (tsm a 0) true 0) (ts_endr (tsm a 256) 256)) 60 Try.f46 [aA a, Bo true] []).go [] =
  some
    ([yes (was 55 (bodyOf Try.f46 0) (tmS (tsm a 0) true 0)), true, true, true, true, true, true, true, true, true, true, true, true, true, true, true, true, true,
        true, true, true, true, true, true, true, true, true, true], ts_wr a) := by kernel_rfl
def tz (a : Nat → Int) : Nat → Int := fun k =>
  if k = 32 then w64 (tsm a 256 32 + 32) else if k = 99 then w64 (tsm a 256 99 + 640) else if k = 98 then w64 (tsm a 256 98 + 100) else if k = 97 then w64 (tsm a 256 97 + 64) else tsm a 256 k
theorem ts_wr_eq (a : Nat → Int) : ts_wr a = (aA (tz a), []) := by
  unfold ts_wr aA tz
  congr 2
  funext k
  congr 1
  by_cases h1 : k = 32
  · subst h1; rfl
  by_cases h2 : k = 99
  · subst h2; rfl
  by_cases h3 : k = 98
  · subst h3; rfl
  by_cases h4 : k = 97
  · subst h4; rfl
  have e1 : ¬ k = Int.toNat 32 := h1
  have e2 : ¬ k = Int.toNat 99 := h2
  have e3 : ¬ k = Int.toNat 98 := h3
  have e4 : ¬ k = Int.toNat 97 := h4
  simp only [e1, e2, e3, e4, h1, h2, h3, h4, decide_false, cond_false, if_false]
theorem tsm_b (a : Nat → Int) {k : Nat} (hk : k < 256) : 0 ≤ tsm a 256 k ∧ tsm a 256 k ≤ 15 := by
  unfold tsm
  simp only [hk, if_true]
  rw [and_mask 4 (by decide) _ 15 rfl]
  omega
theorem tz_b (a : Nat → Int) {k : Nat} (hk : k < 256) : 0 ≤ tz a k ∧ tz a k ≤ 655 := by
  have h1 := tsm_b a (k := 32) (by decide)
  have h2 := tsm_b a (k := 99) (by decide)
  have h3 := tsm_b a (k := 98) (by decide)
  have h4 := tsm_b a (k := 97) (by decide)
  have h5 := tsm_b a hk
  unfold tz
  rw [w64_id (by omega) (by omega), w64_id (by omega) (by omega), w64_id (by omega) (by omega), w64_id (by omega) (by omega)]
  split
  · omega
  · split
    · omega
    · split
      · omega
      · split <;> omega
noncomputable def tmF2 : Spec := fun args h => match args, h with
  | [.arr 256 f, .c (.v (.bool false))], [] => .need (yes (f = fun k => .int .i64 (dv (f k)))) (.ret (aA (ta (fun k => dv (f k)) 256), []))
  | [.arr 256 f, .c (.v (.bool true))], [] => .need (yes (f = fun k => .int .i64 (dv (f k)))) (.ret (aA (tz fun k => dv (f k)), []))
  | _, _ => .fail
theorem tmF2_ok : SpecOk Try.prog 46 tmF2 := by
  refine known' gKnil Try.func46 fun args h r he => ?_
  unfold tmF2 at he
  split at he
  · rename_i f
    obtain ⟨h1, he⟩ := Tr.eval_ask.1 he
    cases he
    have hl : LoopsOk (tmG 257) 0 _ := told_ok (tm_loop (L := 257) (a := fun k => dv (f k)) (by decide))
    have hw := tm_whole (L := 257) (a := fun k => dv (f k))
    rw [yes_of ⟨rfl, rfl, rfl⟩] at hw
    have hf := lfun_ok (h := []) hl hw
    rw [aA, ← h1] at hf
    exact ⟨_, _, _, hf⟩
  · rename_i f
    obtain ⟨h1, he⟩ := Tr.eval_ask.1 he
    cases he
    have key : (afun (tmG 257) 60 Try.f46 [aA fun k => dv (f k), Bo true] []).eval = some (aA (tz fun k => dv (f k)), []) := by
      rw [← ts_wr_eq]
      refine lfun_go (h := []) (told_ok (ts_loop (L := 257) (by decide))) ts_w ?_
      repeat' (first | exact AllT.nil | refine AllT.cons ?_ ?_)
      all_goals first | rfl | exact yes_of ⟨rfl, rfl, rfl⟩
    rw [aA, ← h1] at key
    exact ⟨_, _, _, key⟩
  · cases he
noncomputable def KGT : Known := [(45, sAwakeG), (46, tmF2), (47, wdF fun _ _ => .fail), (48, okF), (49, okF), (50, wdF fun _ _ => .fail), (51, afun (GK [] (fun _ => []) 0) 60 Try.f51), (52, afun (GK [] (fun _ => []) 0) 60 Try.f52)]
theorem KGT_ok : KnownOk KGT := gKcons awakeG_ok (by kernel_rfl) (gKcons tmF2_ok (by kernel_rfl) (gKcons wdF_ok (by kernel_rfl) (gKcons okF_ok (by kernel_rfl) (gKcons mkF_ok (by kernel_rfl) (gKcons rwF_ok (by kernel_rfl) (gKcons (known0 gKnil 60 Try.func51) (by kernel_rfl) (gKcons (known0 gKnil 60 Try.func52) (by kernel_rfl) gKnil)))))))
end Go.Proofs.Ytcpahifgdppkbaa.QAI
end
section
/- WhitTells: few runs, two rows the same, what is fixed. -/
set_option linter.unusedVariables false
set_option linter.unusedSimpArgs false
namespace Go.Proofs.Ytcpahifgdppkbaa.QAI
open Go Go.RowKit
set_option maxRecDepth 100000
abbrev fwK : List (Nat × Option TypeId) := [(0,none),(3,none),(4,none)]
abbrev smK : List (Nat × Option TypeId) := [(0,none),(1,none),(5,none)]
noncomputable def fwG : Ctx2 := GT [] (fun k => if k = 3 then fwK else []) 0 []
theorem fwG_ok : XOk fwG := GT_ok nilK _ _ _
noncomputable def smG : Ctx2 := GT [] (fun k => if k = 4 then smK else []) 0 []
theorem smG_ok : XOk smG := GT_ok nilK _ _ _
def fwS (own : Bool) (o k n : Nat) (R : Nat → Rn) (x i : Int) : St := ⟨slots 31 [(0, .c (.sl 0 o k)), (3, I64 x), (4, I64 i)], [rowRn own n R]⟩
theorem fw_go {own : Bool} {o k n : Nat} {R : Nat → Rn} {x i : Int} : (rT fwG nol 1 54 (bodyOf Try.f84 0) fwK fwK (fwS own o k n R x i)).go [] =
  some
    ([decide (i < ((k : Nat) : Int)), true, true, decide (i < (30 : Int)), decide ((0 : Int) ≤ i), decide (i < ((k : Nat) : Int)),
        decide (o + i.toNat < n)],
      Ex.normal,
      {
        sl :=
          slots 31
            [(0, AV.c (AC.sl 0 o k)),
              (3, I64 (w64 (x + mnI (5000 : Int) (((R (o + i.toNat)).s.size : Nat) : Int)))),
              (4, I64 (w64 (i + (1 : Int))))],
        h :=
          [some
              { t := 83, own := own,
                c :=
                  Cont.row 4 n fun j =>
                    [Value.int IntKind.i64 (R j).n, Value.string (R j).s, Value.int IntKind.i64 (R j).v,
                      Value.int IntKind.i64 (R j).l] }] }) := by kernel_rfl
theorem fw_e1 {own : Bool} {o k n : Nat} {R : Nat → Rn} {x i : Int} : (rT fwG nol 1 54 (bodyOf Try.f84 0) fwK fwK (fwS own o k n R x i)).go [false, false, false, false] =
  some
    ([!decide (i < ((k : Nat) : Int)), true, true, true], Ex.exit 0,
      { sl := slots 31 [(0, AV.c (AC.sl 0 o k)), (3, I64 x), (4, I64 i)],
        h :=
          [some
              { t := 83, own := own,
                c :=
                  Cont.row 4 n fun j =>
                    [Value.int IntKind.i64 (R j).n, Value.string (R j).s, Value.int IntKind.i64 (R j).v,
                      Value.int IntKind.i64 (R j).l] }] }) := by kernel_rfl
theorem fw_e2 {own : Bool} {o k n : Nat} {R : Nat → Rn} {x i : Int} : (rT fwG nol 1 54 (bodyOf Try.f84 0) fwK fwK (fwS own o k n R x i)).go [true, true, true, false] =
  some
    ([decide (i < ((k : Nat) : Int)), true, true, !decide (i < (30 : Int))], Ex.exit 0,
      { sl := slots 31 [(0, AV.c (AC.sl 0 o k)), (3, I64 x), (4, I64 i)],
        h :=
          [some
              { t := 83, own := own,
                c :=
                  Cont.row 4 n fun j =>
                    [Value.int IntKind.i64 (R j).n, Value.string (R j).s, Value.int IntKind.i64 (R j).v,
                      Value.int IntKind.i64 (R j).l] }] }) := by kernel_rfl
theorem fw_wt {own : Bool} {o k n : Nat} {R : Nat → Rn} {x i : Int} : (lfun fwG (tell (bodyOf Try.f84 0) (fwS own o k n R 0 0) (.exit 0, fwS own o k n R x i)) 60 Try.f84 [.c (.sl 0 o k)] [rowRn own n R]).go [] =
  some
    ([yes (wasS (bodyOf Try.f84 0) (fwS own o k n R 0 0)), decide (((k : Nat) : Int) ≤ (25 : Int)), true, true], Bo (decide (x ≤ (2000 : Int))),
      [some
          { t := 83, own := own,
            c :=
              Cont.row 4 n fun j =>
                [Value.int IntKind.i64 (R j).n, Value.string (R j).s, Value.int IntKind.i64 (R j).v,
                  Value.int IntKind.i64 (R j).l] }]) := by kernel_rfl
theorem fw_wf {own : Bool} {o k n : Nat} {R : Nat → Rn} {x i : Int} : (lfun fwG (tell (bodyOf Try.f84 0) (fwS own o k n R 0 0) (.exit 0, fwS own o k n R x i)) 60 Try.f84 [.c (.sl 0 o k)] [rowRn own n R]).go [true, false, false, false] =
  some
    ([yes (wasS (bodyOf Try.f84 0) (fwS own o k n R 0 0)), !decide (((k : Nat) : Int) ≤ (25 : Int)), true, true], Bo false,
      [some
          { t := 83, own := own,
            c :=
              Cont.row 4 n fun j =>
                [Value.int IntKind.i64 (R j).n, Value.string (R j).s, Value.int IntKind.i64 (R j).v,
                  Value.int IntKind.i64 (R j).l] }]) := by kernel_rfl
def rowGo (own : Bool) (n : Nat) (L : Nat → Gl) : Option ABlk := some ⟨87, own, .row 4 n fun j => encG (L j)⟩
def smS (own own' : Bool) (k n n' : Nat) (L L' : Nat → Gl) (i : Int) : St := ⟨slots 26 [(0, .c (.sl 0 0 k)), (1, .c (.sl 1 0 k)), (5, I64 i)], [rowGo own n L, rowGo own' n' L']⟩
theorem sm_go {own own' : Bool} {k n n' : Nat} {L L' : Nat → Gl} {i : Int} : (rT smG nol 2 54 (bodyOf Try.f85 0) smK smK (smS own own' k n n' L L' i)).go [true, true, true, true, true, true, true, false] =
  some
    ([decide (i < ((k : Nat) : Int)), decide ((0 : Int) ≤ i), decide (i < ((k : Nat) : Int)), decide (0 + i.toNat < n),
        decide ((0 : Int) ≤ i), decide (i < ((k : Nat) : Int)), decide (0 + i.toNat < n'),
        !!((L (0 + i.toNat)).k == (L' (0 + i.toNat)).k &&
              ((L (0 + i.toNat)).r == (L' (0 + i.toNat)).r &&
                ((L (0 + i.toNat)).a == (L' (0 + i.toNat)).a &&
                  ((L (0 + i.toNat)).w == (L' (0 + i.toNat)).w && true))))],
      Ex.normal,
      {
        sl :=
          slots 26
            [(0, AV.c (AC.sl 0 0 k)), (1, AV.c (AC.sl 1 0 k)),
              (5, I64 (w64 (i + (1 : Int))))],
        h :=
          [some
              { t := 87, own := own,
                c :=
                  Cont.row 4 n fun j =>
                    [Value.int IntKind.i64 (L j).k, Value.int IntKind.i64 (L j).r, Value.int IntKind.i64 (L j).a,
                      Value.int IntKind.i64 (L j).w] },
            some
              { t := 87, own := own',
                c :=
                  Cont.row 4 n' fun j =>
                    [Value.int IntKind.i64 (L' j).k, Value.int IntKind.i64 (L' j).r, Value.int IntKind.i64 (L' j).a,
                      Value.int IntKind.i64 (L' j).w] }] }) := by kernel_rfl
theorem sm_ex {own own' : Bool} {k n n' : Nat} {L L' : Nat → Gl} {i : Int} : (rT smG nol 2 54 (bodyOf Try.f85 0) smK smK (smS own own' k n n' L L' i)).go [false] =
  some
    ([!decide (i < ((k : Nat) : Int))], Ex.exit 0,
      {
        sl :=
          slots 26
            [(0, AV.c (AC.sl 0 0 k)), (1, AV.c (AC.sl 1 0 k)),
              (5, I64 i)],
        h :=
          [some
              { t := 87, own := own,
                c :=
                  Cont.row 4 n fun j =>
                    [Value.int IntKind.i64 (L j).k, Value.int IntKind.i64 (L j).r, Value.int IntKind.i64 (L j).a,
                      Value.int IntKind.i64 (L j).w] },
            some
              { t := 87, own := own',
                c :=
                  Cont.row 4 n' fun j =>
                    [Value.int IntKind.i64 (L' j).k, Value.int IntKind.i64 (L' j).r, Value.int IntKind.i64 (L' j).a,
                      Value.int IntKind.i64 (L' j).w] }] }) := by kernel_rfl
theorem sm_w {own own' : Bool} {k n n' : Nat} {L L' : Nat → Gl} {i : Int} : (lfun smG (tell (bodyOf Try.f85 0) (smS own own' k n n' L L' 0) (.exit 0, smS own own' k n n' L L' i)) 60 Try.f85 [.c (.sl 0 0 k), .c (.sl 1 0 k)] [rowGo own n L, rowGo own' n' L']).go [false] =
  some
    ([!((k : Nat) : Int) != ((k : Nat) : Int), yes (wasS (bodyOf Try.f85 0) (smS own own' k n n' L L' 0))], Bo true,
      [some
          { t := 87, own := own,
            c :=
              Cont.row 4 n fun j =>
                [Value.int IntKind.i64 (L j).k, Value.int IntKind.i64 (L j).r, Value.int IntKind.i64 (L j).a,
                  Value.int IntKind.i64 (L j).w] },
        some
          { t := 87, own := own',
            c :=
              Cont.row 4 n' fun j =>
                [Value.int IntKind.i64 (L' j).k, Value.int IntKind.i64 (L' j).r, Value.int IntKind.i64 (L' j).a,
                  Value.int IntKind.i64 (L' j).w] }]) := by kernel_rfl
noncomputable def KH1 : Known := [(156, afun (GK KY (fun _ => []) 0) 60 Try.f156), (124, afun (GK [] (fun _ => []) 0) 60 Try.f124)]
theorem KH1_ok : KnownOk KH1 := consK (known0 KY_ok 60 Try.func156) (by kernel_rfl) (consK (known0 nilK 60 Try.func124) (by kernel_rfl) nilK)
noncomputable def KH2 : Known := [(123, afun (GK KH1 (fun k => if k = 3 then allK else if k = 6 then allKi else []) 20) 60 Try.f123), (124, afun (GK [] (fun _ => []) 0) 60 Try.f124)]
theorem KH2_ok : KnownOk KH2 := consK (known' KH1_ok Try.func123 fun _ _ _ h => ⟨_, _, _, h⟩) (by kernel_rfl) (consK (known0 nilK 60 Try.func124) (by kernel_rfl) nilK)
noncomputable def KH3 : Known := [(82, afun (GK KH2 (fun k => if k = 4 then glK else []) 20) 60 Try.f82)]
theorem KH3_ok : KnownOk KH3 := consK (known' KH2_ok Try.func82 fun _ _ _ h => ⟨_, _, _, h⟩) (by kernel_rfl) nilK
noncomputable def sAwakeT : Spec := fun args h => match args, h with
  | [], [] => .ret (Bo true, [])
  | _, _ => .fail
theorem awake10_eq : (afun (GK KH3 (fun _ => []) 0) 60 Try.f83 [] []).eval = some (Bo true, []) := by kernel_rfl
theorem awake10_ok : SpecOk Try.prog 83 sAwakeT := by
  refine known' KH3_ok Try.func83 fun args h r he => ?_
  unfold sAwakeT at he
  split at he
  · cases he
    exact ⟨_, _, _, awake10_eq⟩
  · cases he
end Go.Proofs.Ytcpahifgdppkbaa.QAI
end
section
/- Where lines end: the program's walk. -/
set_option linter.unusedVariables false
set_option linter.unusedSimpArgs false
namespace Go.Proofs.Ytcpahifgdppkbaa.QAI
open Go Go.RowKit
set_option maxRecDepth 100000
abbrev Fn (k : Nat) : AV := .c (.v (.func (.func k) #[] #[]))
noncomputable def KB1 : Known := [(128, afun (GK [] (fun _ => []) 0) 60 Try.f128)]
theorem KB1_ok : KnownOk KB1 := consK (known0 nilK 60 Try.func128) (by kernel_rfl) nilK
abbrev ixK : List (Nat × Option TypeId) := [(0,none),(1,none),(7,none),(8,none)]
noncomputable def ixG : Ctx2 := GT KB1 (fun k => if k = 2 then ixK else []) 0 []
theorem ixG_ok : XOk ixG := GT_ok KB1_ok _ _ _
def ixS (own : Bool) (o k n : Nat) (L : Nat → Gl) (i : Int) : St := ⟨slots 19 [(0, .c (.sl 0 o k)), (1, Fn 128), (7, I64 k), (8, I64 i)], [rowGo own n L]⟩
theorem ixf_go {own : Bool} {o k n : Nat} {L : Nat → Gl} {i : Int} : (rT ixG nol 1 55 (bodyOf Try.f157 0) ixK ixK (ixS own o k n L i)).go [true, true, true, true, false] =
  some
    ([decide (i < ((k : Nat) : Int)), decide ((0 : Int) ≤ i), decide (i < ((k : Nat) : Int)), decide (o + i.toNat < n),
        !decide ((L (o + i.toNat)).w < (0 : Int))],
      Ex.normal,
      {
        sl :=
          slots 19
            [(0, AV.c (AC.sl 0 o k)),
              (1, AV.c (AC.v (Value.func (Fn.func 128) { toList := [] } { toList := [] }))),
              (7, I64 ((k : Nat) : Int)), (8, I64 (w64 (i + (1 : Int))))],
        h :=
          [some
              { t := 87, own := own,
                c :=
                  Cont.row 4 n fun j =>
                    [Value.int IntKind.i64 (L j).k, Value.int IntKind.i64 (L j).r, Value.int IntKind.i64 (L j).a,
                      Value.int IntKind.i64 (L j).w] }] }) := by kernel_rfl
theorem ixf_ex {own : Bool} {o k n : Nat} {L : Nat → Gl} {i : Int} : (rT ixG nol 1 55 (bodyOf Try.f157 0) ixK ixK (ixS own o k n L i)).go [false] =
  some
    ([!decide (i < ((k : Nat) : Int))], Ex.exit 0,
      {
        sl :=
          slots 19
            [(0, AV.c (AC.sl 0 o k)),
              (1, AV.c (AC.v (Value.func (Fn.func 128) { toList := [] } { toList := [] }))),
              (7, I64 ((k : Nat) : Int)), (8, I64 i)],
        h :=
          [some
              { t := 87, own := own,
                c :=
                  Cont.row 4 n fun j =>
                    [Value.int IntKind.i64 (L j).k, Value.int IntKind.i64 (L j).r, Value.int IntKind.i64 (L j).a,
                      Value.int IntKind.i64 (L j).w] }] }) := by kernel_rfl
theorem ixf_w {own : Bool} {o k n : Nat} {L : Nat → Gl} {i : Int} : (lfun ixG (tell (bodyOf Try.f157 0) (ixS own o k n L 0) (.exit 0, ixS own o k n L i)) 60 Try.f157 [.c (.sl 0 o k), Fn 128] [rowGo own n L]).go [] =
  some
    ([yes (wasS (bodyOf Try.f157 0) (ixS own o k n L 0))], I64 (-1 : Int),
      [some
          { t := 87, own := own,
            c :=
              Cont.row 4 n fun j =>
                [Value.int IntKind.i64 (L j).k, Value.int IntKind.i64 (L j).r, Value.int IntKind.i64 (L j).a,
                  Value.int IntKind.i64 (L j).w] }]) := by kernel_rfl
theorem ixf_loop {own : Bool} {o k n : Nat} {L : Nat → Gl} (hn : o + k ≤ n) (hk : k < 2 ^ 40) (h : ∀ i, i < k → 0 ≤ (L (o + i)).w) : CodeSem ixG 1 (.loop (bodyOf Try.f157 0)) (ixS own o k n L 0) (.exit 0, ixS own o k n L k) := by
  refine loop_of (fun i => ixS own o k n L (i : Int)) k (by simp) ?_ fun j hj => ?_
  · exact rT_sem ixG_ok noLoopsS (rT_go ixf_ex ⟨by simp, trivial⟩)
  · have h3 : w64 ((j : Int) + 1) = ((j + 1 : Nat) : Int) := by rw [w64_id (by omega) (by omega)]; omega
    have hw := h j hj
    refine rT_sem ixG_ok noLoopsS ((rT_go ixf_go ?_).trans ?_)
    · simp only [Int.toNat_natCast]
      repeat' (first | exact AllT.nil | refine AllT.cons ?_ ?_)
      all_goals first | (with_reducible rfl) | exact decide_eq_true (by omega) | (simp; omega)
    · rw [h3]
      rfl
noncomputable def ixfF : Spec := fun args h => match args, h with
  | [.c (.sl 0 o k), .c (.v (.func (.func 128) ⟨[]⟩ ⟨[]⟩))], [some ⟨87, own, .row 4 n q⟩] =>
    .need (yes (o + k ≤ n ∧ k < 2 ^ 40 ∧ (q = fun j => encG (decG (q j))) ∧ ∀ i, i < k → 0 ≤ (decG (q (o + i))).w)) (.ret (I64 (-1), [some ⟨87, own, .row 4 n q⟩]))
  | _, _ => .fail
theorem ixfF_ok : SpecOk Try.prog 157 ixfF := by
  refine knownS KB1_ok Try.func157 fun args h r he => ?_
  unfold ixfF at he
  split at he
  · rename_i o k own n q
    obtain ⟨⟨h1, h2, h3, h4⟩, he⟩ := Tr.eval_ask.1 he
    cases he
    refine ⟨_, [], 60, _, tell_ok (ixf_loop (own := own) (L := fun j => decG (q j)) h1 h2 h4), ?_⟩
    have e1 : some ⟨87, own, .row 4 n q⟩ = rowGo own n fun j => decG (q j) := by rw [rowGo, ← h3]
    rw [e1]
    exact Tr.go_eval ixf_w ⟨yes_of ⟨rfl, rfl⟩, trivial⟩
  · cases he
noncomputable def KB2 : Known := [(157, ixfF)]
theorem KB2_ok : KnownOk KB2 := consK ixfF_ok (by kernel_rfl) nilK
noncomputable def cfG : Ctx2 := GT KB2 (fun _ => []) 0 []
theorem cf_w {own : Bool} {o k n : Nat} {L : Nat → Gl} : (lfun cfG nol 60 Try.f127 [.c (.sl 0 o k), Fn 128] [rowGo own n L]).go [] =
  some
    ([yes
          (o + k ≤ n ∧
            k < 2 ^ 40 ∧
              ((fun j => encG (L j)) = fun j => encG (decG (encG (L j)))) ∧
                ∀ (i : Nat), i < k → (0 : Int) ≤ (decG (encG (L (o + i)))).w)],
      Bo false,
      [some
          { t := 87, own := own,
            c :=
              Cont.row 4 n fun j =>
                [Value.int IntKind.i64 (L j).k, Value.int IntKind.i64 (L j).r, Value.int IntKind.i64 (L j).a,
                  Value.int IntKind.i64 (L j).w] }]) := by kernel_rfl
noncomputable def cfF : Spec := fun args h => match args, h with
  | [.c (.sl 0 o k), .c (.v (.func (.func 128) ⟨[]⟩ ⟨[]⟩))], [some ⟨87, own, .row 4 n q⟩] =>
    .need (yes (o + k ≤ n ∧ k < 2 ^ 40 ∧ (q = fun j => encG (decG (q j))) ∧ ∀ i, i < k → 0 ≤ (decG (q (o + i))).w)) (.ret (Bo false, [some ⟨87, own, .row 4 n q⟩]))
  | _, _ => .fail
theorem cfF_ok : SpecOk Try.prog 127 cfF := by
  refine knownS KB2_ok Try.func127 fun args h r he => ?_
  unfold cfF at he
  split at he
  · rename_i o k own n q
    obtain ⟨⟨h1, h2, h3, h4⟩, he⟩ := Tr.eval_ask.1 he
    cases he
    refine ⟨fun _ => [], [], 60, nol, noLoopsS, ?_⟩
    have e1 : some ⟨87, own, .row 4 n q⟩ = rowGo own n fun j => decG (q j) := by rw [rowGo, ← h3]
    rw [e1]
    exact Tr.go_eval cf_w ⟨yes_of ⟨h1, h2, rfl, h4⟩, trivial⟩
  · cases he
abbrev lnK : List (Nat × Option TypeId) := [(0,none),(2,none),(3,none),(8,none),(9,none),(10,none),(11,none)]
abbrev lnKa : List (Nat × Option TypeId) := [(8,none)]
noncomputable def lnG : Ctx2 := GT [] (fun k => if k = 5 then lnK else []) 0 []
theorem lnG_ok : XOk lnG := GT_ok nilK _ _ _
def lnS (own : Bool) (k n : Nat) (L : Nat → Gl) (A fr to ow w i : Int) : St :=
  ⟨slots 73 [(0, .c (.sl 0 0 k)), (2, I64 A), (3, Bo true), (8, .c (.ptr 1 0 0)), (9, .c (.ptr 2 0 0)), (10, I64 w), (11, I64 i)], [rowGo own n L, some ⟨98, true, .one [i64 0, i64 0, i64 0]⟩, some ⟨98, true, .one [i64 fr, i64 to, i64 ow]⟩]⟩
def lnZ (own : Bool) (n : Nat) (L : Nat → Gl) (fr to ow : Int) : St := ⟨slots 73 [(8, .c (.ptr 1 0 0))], [rowGo own n L, some ⟨98, true, .one [i64 fr, i64 to, i64 ow]⟩]⟩
noncomputable def lnT (own : Bool) (k n : Nat) (L : Nat → Gl) (A fr to ow w i : Int) : Tr (Ex × St) := rT lnG nol 1 54 (bodyOf Try.f129 0) lnK lnKa (lnS own k n L A fr to ow w i)
theorem ln_Et {own : Bool} {k n : Nat} {L : Nat → Gl} {A fr to ow w i : Int} : (lnT own k n L A fr to ow w i).go [] =
  some
    ([i == ((k : Nat) : Int), true, true, true, true, true, true, true, true, true, true, true, true, true, true,
        decide (to < (0 : Int)), true, true, true, true, true, true, true, true, true, true, true],
      Ex.ret,
      { sl := slots 73 [(8, AV.c (AC.ptr 1 0 0))],
        h :=
          [some
              { t := 87, own := own,
                c :=
                  Cont.row 4 n fun j =>
                    [Value.int IntKind.i64 (L j).k, Value.int IntKind.i64 (L j).r, Value.int IntKind.i64 (L j).a,
                      Value.int IntKind.i64 (L j).w] },
            some { t := 98, own := true, c := Cont.one [i64 fr, i64 i, i64 w] }] }) := by kernel_rfl
theorem ln_Eft {own : Bool} {k n : Nat} {L : Nat → Gl} {A fr to ow w i : Int} : (lnT own k n L A fr to ow w i).go [true, true, true, true, true, true, true, true, true, true, true, true, true, true, true, false, false, false, false] =
  some
    ([i == ((k : Nat) : Int), true, true, true, true, true, true, true, true, true, true, true, true, true, true,
        !decide (to < (0 : Int)), true, true, true, decide (w ≤ A), true, true, true, true, true, true, true],
      Ex.ret,
      { sl := slots 73 [(8, AV.c (AC.ptr 1 0 0))],
        h :=
          [some
              { t := 87, own := own,
                c :=
                  Cont.row 4 n fun j =>
                    [Value.int IntKind.i64 (L j).k, Value.int IntKind.i64 (L j).r, Value.int IntKind.i64 (L j).a,
                      Value.int IntKind.i64 (L j).w] },
            some { t := 98, own := true, c := Cont.one [i64 fr, i64 i, i64 w] }] }) := by kernel_rfl
theorem ln_Eff {own : Bool} {k n : Nat} {L : Nat → Gl} {A fr to ow w i : Int} : (lnT own k n L A fr to ow w i).go [true, true, true, true, true, true, true, true, true, true, true, true, true, true, true, false, false, false, false, false] =
  some
    ([i == ((k : Nat) : Int), true, true, true, true, true, true, true, true, true, true, true, true, true, true,
        !decide (to < (0 : Int)), true, true, true, !decide (w ≤ A), true, true, true, true, true, true, true],
      Ex.ret,
      { sl := slots 73 [(8, AV.c (AC.ptr 1 0 0))],
        h :=
          [some
              { t := 87, own := own,
                c :=
                  Cont.row 4 n fun j =>
                    [Value.int IntKind.i64 (L j).k, Value.int IntKind.i64 (L j).r, Value.int IntKind.i64 (L j).a,
                      Value.int IntKind.i64 (L j).w] },
            some { t := 98, own := true, c := Cont.one [i64 fr, i64 to, i64 ow] }] }) := by kernel_rfl
theorem ln_Bt {own : Bool} {k n : Nat} {L : Nat → Gl} {A fr to ow w i : Int} : (lnT own k n L A fr to ow w i).go [false, false, false, true, true, false, false, true, false, false] =
  some
    ([!i == ((k : Nat) : Int), true, true, decide ((0 : Int) ≤ i), decide (i < ((k : Nat) : Int)), true, true, decide (0 + i.toNat < n), true,
        true, (L (0 + i.toNat)).k == (4 : Int), true, true, true, true, true, true, true,
        decide (to < (0 : Int)), true, true, true, true, (L (0 + i.toNat)).k == (4 : Int), true, true, true,
        true, true, true],
      Ex.ret,
      { sl := slots 73 [(8, AV.c (AC.ptr 1 0 0))],
        h :=
          [some
              { t := 87, own := own,
                c :=
                  Cont.row 4 n fun j =>
                    [Value.int IntKind.i64 (L j).k, Value.int IntKind.i64 (L j).r, Value.int IntKind.i64 (L j).a,
                      Value.int IntKind.i64 (L j).w] },
            some { t := 98, own := true, c := Cont.one [i64 fr, i64 i, i64 w] }] }) := by kernel_rfl
theorem ln_Bft {own : Bool} {k n : Nat} {L : Nat → Gl} {A fr to ow w i : Int} : (lnT own k n L A fr to ow w i).go [false, false, false, true, true, false, false, true, false, false, true, true, true, true, true, true, true, true, false, false, false, false] =
  some
    ([!i == ((k : Nat) : Int), true, true, decide ((0 : Int) ≤ i), decide (i < ((k : Nat) : Int)), true, true, decide (0 + i.toNat < n), true,
        true, (L (0 + i.toNat)).k == (4 : Int), true, true, true, true, true, true, true,
        !decide (to < (0 : Int)), true, true, true, decide (w ≤ A), (L (0 + i.toNat)).k == (4 : Int), true,
        true, true, true, true, true],
      Ex.ret,
      { sl := slots 73 [(8, AV.c (AC.ptr 1 0 0))],
        h :=
          [some
              { t := 87, own := own,
                c :=
                  Cont.row 4 n fun j =>
                    [Value.int IntKind.i64 (L j).k, Value.int IntKind.i64 (L j).r, Value.int IntKind.i64 (L j).a,
                      Value.int IntKind.i64 (L j).w] },
            some { t := 98, own := true, c := Cont.one [i64 fr, i64 i, i64 w] }] }) := by kernel_rfl
theorem ln_Bff {own : Bool} {k n : Nat} {L : Nat → Gl} {A fr to ow w i : Int} : (lnT own k n L A fr to ow w i).go [false, false, false, true, true, false, false, true, false, false, true, true, true, true, true, true, true, true, false, false, false, false, false] =
  some
    ([!i == ((k : Nat) : Int), true, true, decide ((0 : Int) ≤ i), decide (i < ((k : Nat) : Int)), true, true, decide (0 + i.toNat < n), true,
        true, (L (0 + i.toNat)).k == (4 : Int), true, true, true, true, true, true, true,
        !decide (to < (0 : Int)), true, true, true, !decide (w ≤ A), (L (0 + i.toNat)).k == (4 : Int), true,
        true, true, true, true, true],
      Ex.ret,
      { sl := slots 73 [(8, AV.c (AC.ptr 1 0 0))],
        h :=
          [some
              { t := 87, own := own,
                c :=
                  Cont.row 4 n fun j =>
                    [Value.int IntKind.i64 (L j).k, Value.int IntKind.i64 (L j).r, Value.int IntKind.i64 (L j).a,
                      Value.int IntKind.i64 (L j).w] },
            some { t := 98, own := true, c := Cont.one [i64 fr, i64 to, i64 ow] }] }) := by kernel_rfl
theorem ln_Stt {own : Bool} {k n : Nat} {L : Nat → Gl} {A fr to ow w i : Int} : (lnT own k n L A fr to ow w i).go [false, false, false, true, true, false, false, true, false, false, false, false, false, true, true, false, false, true, false, false, true, true, true, true, true, true, false, false, true, true, true, false, true, false, true, true, true, false, true, false] =
  some
    ([!i == ((k : Nat) : Int), true, true, decide ((0 : Int) ≤ i), decide (i < ((k : Nat) : Int)), true, true, decide (0 + i.toNat < n), true,
        true, !(L (0 + i.toNat)).k == (4 : Int), true, true, decide ((0 : Int) ≤ i), decide (i < ((k : Nat) : Int)), true,
        true, decide (0 + i.toNat < n), true, true, (L (0 + i.toNat)).k == (2 : Int),
        decide (to < (0 : Int)), true, true, true, true, !(L (0 + i.toNat)).k == (4 : Int), true, true, true,
        true, true, true, true, decide (i ≥ (0 : Int)), true, true, true, true, true, decide (w > A)],
      Ex.ret,
      { sl := slots 73 [(8, AV.c (AC.ptr 1 0 0))],
        h :=
          [some
              { t := 87, own := own,
                c :=
                  Cont.row 4 n fun j =>
                    [Value.int IntKind.i64 (L j).k, Value.int IntKind.i64 (L j).r, Value.int IntKind.i64 (L j).a,
                      Value.int IntKind.i64 (L j).w] },
            some { t := 98, own := true, c := Cont.one [i64 fr, i64 i, i64 w] }] }) := by kernel_rfl
theorem ln_Stf {own : Bool} {k n : Nat} {L : Nat → Gl} {A fr to ow w i : Int} : (lnT own k n L A fr to ow w i).go [false, false, false, true, true, false, false, true, false, false, false, false, false, true, true, false, false, true, false, false, true, true, true, true, true, true, false, false, true, true, true, false, true, false, true, true, true, false, true, false, false] =
  some
    ([!i == ((k : Nat) : Int), true, true, decide ((0 : Int) ≤ i), decide (i < ((k : Nat) : Int)), true, true, decide (0 + i.toNat < n), true,
        true, !(L (0 + i.toNat)).k == (4 : Int), true, true, decide ((0 : Int) ≤ i), decide (i < ((k : Nat) : Int)), true,
        true, decide (0 + i.toNat < n), true, true, (L (0 + i.toNat)).k == (2 : Int),
        decide (to < (0 : Int)), true, true, true, true, !(L (0 + i.toNat)).k == (4 : Int), true, true, true,
        true, true, true, true, decide (i ≥ (0 : Int)), true, true, true, true, true, !decide (w > A),
        decide ((0 : Int) ≤ i), decide (i < ((k : Nat) : Int)), decide (0 + i.toNat < n)],
      Ex.normal,
      {
        sl :=
          slots 73
            [(0, AV.c (AC.sl 0 0 k)), (2, I64 A), (3, Bo true),
              (8, AV.c (AC.ptr 1 0 0)),
              (9, AV.c (AC.ptr 2 0 0)),
              (10, I64 (w64 (w + (L (0 + i.toNat)).w))), (11, I64 (w64 (i + (1 : Int))))],
        h :=
          [some
              { t := 87, own := own,
                c :=
                  Cont.row 4 n fun j =>
                    [Value.int IntKind.i64 (L j).k, Value.int IntKind.i64 (L j).r, Value.int IntKind.i64 (L j).a,
                      Value.int IntKind.i64 (L j).w] },
            some { t := 98, own := true, c := Cont.one [i64 (0 : Int), i64 (0 : Int), i64 (0 : Int)] },
            some { t := 98, own := true, c := Cont.one [i64 fr, i64 i, i64 w] }] }) := by kernel_rfl
theorem ln_Sft {own : Bool} {k n : Nat} {L : Nat → Gl} {A fr to ow w i : Int} : (lnT own k n L A fr to ow w i).go [false, false, false, true, true, false, false, true, false, false, false, false, false, true, true, false, false, true, false, false, true, false, false, false, false, true, false, false, true, true, true, false, true, false, true, true, true, false, true, false, false] =
  some
    ([!i == ((k : Nat) : Int), true, true, decide ((0 : Int) ≤ i), decide (i < ((k : Nat) : Int)), true, true, decide (0 + i.toNat < n), true,
        true, !(L (0 + i.toNat)).k == (4 : Int), true, true, decide ((0 : Int) ≤ i), decide (i < ((k : Nat) : Int)), true,
        true, decide (0 + i.toNat < n), true, true, (L (0 + i.toNat)).k == (2 : Int),
        !decide (to < (0 : Int)), true, true, true, decide (w ≤ A), !(L (0 + i.toNat)).k == (4 : Int), true,
        true, true, true, true, true, true, decide (i ≥ (0 : Int)), true, true, true, true, true, !decide (w > A),
        decide ((0 : Int) ≤ i), decide (i < ((k : Nat) : Int)), decide (0 + i.toNat < n)],
      Ex.normal,
      {
        sl :=
          slots 73
            [(0, AV.c (AC.sl 0 0 k)), (2, I64 A), (3, Bo true),
              (8, AV.c (AC.ptr 1 0 0)),
              (9, AV.c (AC.ptr 2 0 0)),
              (10, I64 (w64 (w + (L (0 + i.toNat)).w))), (11, I64 (w64 (i + (1 : Int))))],
        h :=
          [some
              { t := 87, own := own,
                c :=
                  Cont.row 4 n fun j =>
                    [Value.int IntKind.i64 (L j).k, Value.int IntKind.i64 (L j).r, Value.int IntKind.i64 (L j).a,
                      Value.int IntKind.i64 (L j).w] },
            some { t := 98, own := true, c := Cont.one [i64 (0 : Int), i64 (0 : Int), i64 (0 : Int)] },
            some { t := 98, own := true, c := Cont.one [i64 fr, i64 i, i64 w] }] }) := by kernel_rfl
theorem ln_Sff {own : Bool} {k n : Nat} {L : Nat → Gl} {A fr to ow w i : Int} : (lnT own k n L A fr to ow w i).go [false, false, false, true, true, false, false, true, false, false, false, false, false, true, true, false, false, true, false, false, true, false, false, false, false, false, false, false, true, true, true, false, true, false, true, true, true, false, true, false] =
  some
    ([!i == ((k : Nat) : Int), true, true, decide ((0 : Int) ≤ i), decide (i < ((k : Nat) : Int)), true, true, decide (0 + i.toNat < n), true,
        true, !(L (0 + i.toNat)).k == (4 : Int), true, true, decide ((0 : Int) ≤ i), decide (i < ((k : Nat) : Int)), true,
        true, decide (0 + i.toNat < n), true, true, (L (0 + i.toNat)).k == (2 : Int),
        !decide (to < (0 : Int)), true, true, true, !decide (w ≤ A), !(L (0 + i.toNat)).k == (4 : Int), true,
        true, true, true, true, true, true, decide (to ≥ (0 : Int)), true, true, true, true, true, decide (w > A)],
      Ex.ret,
      { sl := slots 73 [(8, AV.c (AC.ptr 1 0 0))],
        h :=
          [some
              { t := 87, own := own,
                c :=
                  Cont.row 4 n fun j =>
                    [Value.int IntKind.i64 (L j).k, Value.int IntKind.i64 (L j).r, Value.int IntKind.i64 (L j).a,
                      Value.int IntKind.i64 (L j).w] },
            some { t := 98, own := true, c := Cont.one [i64 fr, i64 to, i64 ow] }] }) := by kernel_rfl
theorem ln_Ntt {own : Bool} {k n : Nat} {L : Nat → Gl} {A fr to ow w i : Int} : (lnT own k n L A fr to ow w i).go [false, false, false, true, true, false, false, true, false, false, false, false, false, true, true, false, false, true, false, false, false, false, false, true, true, true, false, true, false, true, true, true, false, true, false] =
  some
    ([!i == ((k : Nat) : Int), true, true, decide ((0 : Int) ≤ i), decide (i < ((k : Nat) : Int)), true, true, decide (0 + i.toNat < n), true,
        true, !(L (0 + i.toNat)).k == (4 : Int), true, true, decide ((0 : Int) ≤ i), decide (i < ((k : Nat) : Int)), true,
        true, decide (0 + i.toNat < n), true, true, !(L (0 + i.toNat)).k == (2 : Int),
        !(L (0 + i.toNat)).k == (4 : Int), true, true, true, true, true, true, true, decide (to ≥ (0 : Int)),
        true, true, true, true, true, decide (w > A)],
      Ex.ret,
      { sl := slots 73 [(8, AV.c (AC.ptr 1 0 0))],
        h :=
          [some
              { t := 87, own := own,
                c :=
                  Cont.row 4 n fun j =>
                    [Value.int IntKind.i64 (L j).k, Value.int IntKind.i64 (L j).r, Value.int IntKind.i64 (L j).a,
                      Value.int IntKind.i64 (L j).w] },
            some { t := 98, own := true, c := Cont.one [i64 fr, i64 to, i64 ow] }] }) := by kernel_rfl
theorem ln_Ntf {own : Bool} {k n : Nat} {L : Nat → Gl} {A fr to ow w i : Int} : (lnT own k n L A fr to ow w i).go [false, false, false, true, true, false, false, true, false, false, false, false, false, true, true, false, false, true, false, false, false, false, false, true, true, true, false, true, false, true, true, true, false, true, false, false] =
  some
    ([!i == ((k : Nat) : Int), true, true, decide ((0 : Int) ≤ i), decide (i < ((k : Nat) : Int)), true, true, decide (0 + i.toNat < n), true,
        true, !(L (0 + i.toNat)).k == (4 : Int), true, true, decide ((0 : Int) ≤ i), decide (i < ((k : Nat) : Int)), true,
        true, decide (0 + i.toNat < n), true, true, !(L (0 + i.toNat)).k == (2 : Int),
        !(L (0 + i.toNat)).k == (4 : Int), true, true, true, true, true, true, true, decide (to ≥ (0 : Int)),
        true, true, true, true, true, !decide (w > A), decide ((0 : Int) ≤ i), decide (i < ((k : Nat) : Int)),
        decide (0 + i.toNat < n)],
      Ex.normal,
      {
        sl :=
          slots 73
            [(0, AV.c (AC.sl 0 0 k)), (2, I64 A), (3, Bo true),
              (8, AV.c (AC.ptr 1 0 0)),
              (9, AV.c (AC.ptr 2 0 0)),
              (10, I64 (w64 (w + (L (0 + i.toNat)).w))), (11, I64 (w64 (i + (1 : Int))))],
        h :=
          [some
              { t := 87, own := own,
                c :=
                  Cont.row 4 n fun j =>
                    [Value.int IntKind.i64 (L j).k, Value.int IntKind.i64 (L j).r, Value.int IntKind.i64 (L j).a,
                      Value.int IntKind.i64 (L j).w] },
            some { t := 98, own := true, c := Cont.one [i64 (0 : Int), i64 (0 : Int), i64 (0 : Int)] },
            some { t := 98, own := true, c := Cont.one [i64 fr, i64 to, i64 ow] }] }) := by kernel_rfl
theorem ln_Nf {own : Bool} {k n : Nat} {L : Nat → Gl} {A fr to ow w i : Int} : (lnT own k n L A fr to ow w i).go [false, false, false, true, true, false, false, true, false, false, false, false, false, true, true, false, false, true, false, false, false, false, false, true, true, true, false, true, false, false, false, false, false, false, false, false] =
  some
    ([!i == ((k : Nat) : Int), true, true, decide ((0 : Int) ≤ i), decide (i < ((k : Nat) : Int)), true, true, decide (0 + i.toNat < n), true,
        true, !(L (0 + i.toNat)).k == (4 : Int), true, true, decide ((0 : Int) ≤ i), decide (i < ((k : Nat) : Int)), true,
        true, decide (0 + i.toNat < n), true, true, !(L (0 + i.toNat)).k == (2 : Int),
        !(L (0 + i.toNat)).k == (4 : Int), true, true, true, true, true, true, true, !decide (to ≥ (0 : Int)),
        true, true, true, true, true, true, decide ((0 : Int) ≤ i), decide (i < ((k : Nat) : Int)), decide (0 + i.toNat < n)],
      Ex.normal,
      {
        sl :=
          slots 73
            [(0, AV.c (AC.sl 0 0 k)), (2, I64 A), (3, Bo true),
              (8, AV.c (AC.ptr 1 0 0)),
              (9, AV.c (AC.ptr 2 0 0)),
              (10, I64 (w64 (w + (L (0 + i.toNat)).w))), (11, I64 (w64 (i + (1 : Int))))],
        h :=
          [some
              { t := 87, own := own,
                c :=
                  Cont.row 4 n fun j =>
                    [Value.int IntKind.i64 (L j).k, Value.int IntKind.i64 (L j).r, Value.int IntKind.i64 (L j).a,
                      Value.int IntKind.i64 (L j).w] },
            some { t := 98, own := true, c := Cont.one [i64 (0 : Int), i64 (0 : Int), i64 (0 : Int)] },
            some { t := 98, own := true, c := Cont.one [i64 fr, i64 to, i64 ow] }] }) := by kernel_rfl
theorem ln_w {own : Bool} {k n : Nat} {L : Nat → Gl} {A fr to ow : Int} : (lfun lnG (tell (bodyOf Try.f129 0) (lnS own k n L A fr (-1) 0 0 fr) (.ret, lnZ own n L fr to ow)) 60 Try.f129 [.c (.sl 0 0 k), I64 fr, I64 A, Bo true] [rowGo own n L]).go [] =
  some
    ([yes (wasS (bodyOf Try.f129 0) (lnS own k n L A fr (-1) 0 0 fr))], AV.agg [i64 fr, i64 to, i64 ow],
      [some
          { t := 87, own := own,
            c :=
              Cont.row 4 n fun j =>
                [Value.int IntKind.i64 (L j).k, Value.int IntKind.i64 (L j).r, Value.int IntKind.i64 (L j).a,
                  Value.int IntKind.i64 (L j).w] }]) := by kernel_rfl
end Go.Proofs.Ytcpahifgdppkbaa.QAI
end
