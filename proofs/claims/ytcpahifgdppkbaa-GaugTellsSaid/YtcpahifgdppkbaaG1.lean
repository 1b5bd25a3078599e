/- How wide a text is: metrics brought near, a text's width. -/
import Derived.Test.YtcpahifgdppkbaaA20
set_option linter.unusedVariables false
set_option linter.unusedSimpArgs false
namespace Go.Proofs.Ytcpahifgdppkbaa.QAI
open Go Go.RowKit
set_option maxRecDepth 100000
def v1 (x : Int) : List Value := [.int .i64 x]
def rowA (a : Nat → Int) : Option ABlk := some ⟨35, true, .row 1 256 fun k => v1 (a k)⟩
def aA (a : Nat → Int) : AV := .arr 256 fun k => .int .i64 (a k)
theorem gKnil : KnownOk [] := fun _ _ h => by cases h
theorem gKcons {K : Known} {f : Nat} {F : Spec} (h1 : SpecOk Try.prog f F) (h2 : nameOk Try.prog f = true) (h : KnownOk K) : KnownOk ((f, F) :: K) := by
  intro g G hg
  rcases List.mem_cons.1 hg with hg | hg
  · cases hg
    exact ⟨h1, h2⟩
  · exact h g G hg
/- Brought near, not small. -/
noncomputable def tmG (L : Nat) : Ctx2 := GK [] (fun k => if k = 2 then [(1,none),(2,none),(4,none),(5,none)] else []) L
def tmS (a : Nat → Int) (small : Bool) (i : Int) : St := ⟨slots 55 [(1, Bo small), (2, .c (.ptr 0 0 0)), (4, .c (.ptr 1 0 0)), (5, I64 i)], [rowA a, rowA fun _ => 0]⟩
def tmE (a : Nat → Int) (small : Bool) (i : Int) : St := ⟨slots 55 [(1, Bo small), (2, .c (.ptr 0 0 0)), (4, .c (.ptr 1 0 0)), (5, I64 i), (6, I64 i), (7, Bo false)], [rowA a, rowA fun _ => 0]⟩
def tu (x : Int) : Int := w64 ((u64 x).tmod 65537)
def tmR (a : Nat → Int) (i : Nat) : Nat → List Value := updC (fun k => v1 (a k)) i (splice (v1 (a i)) 0 [.int .i64 (tu (a i))])
theorem tm_rnd {L : Nat} {a : Nat → Int} {i : Int} : rnd (arun (tmG L) 0 55 (bodyOf Try.f46 0)) (canon (tmG L).T 0 ((tmG L).keep 2)) (tmS a false i) =
  bif decide (i < 256) then bif decide (0 ≤ i) then bif decide (i < 256) then bif decide (i.toNat < 256) then bif decide (0 ≤ i) then bif decide (i < 256) then bif decide (i.toNat < 256) then
    some ⟨slots 55 [(1, Bo false), (2, .c (.ptr 0 0 0)), (4, .c (.ptr 1 0 0)), (5, I64 (w64 (i + 1)))], [some ⟨35, true, .row 1 256 (tmR a i.toNat)⟩, rowA fun _ => 0]⟩
  else none else none else none else none else none else none else none := by kernel_rfl
theorem tm_rndX {L : Nat} {a : Nat → Int} {i : Int} : rndX (arun (tmG L) 0 55 (bodyOf Try.f46 0)) (tmS a false i) =
  bif decide (i < 256) then bif decide (0 ≤ i) then bif decide (i < 256) then bif decide (i.toNat < 256) then bif decide (0 ≤ i) then bif decide (i < 256) then bif decide (i.toNat < 256) then none
  else none else none else none else none else none else none else some (.exit 0, tmE a false i) := by kernel_rfl
theorem updC_at (f : Nat → List Value) (n : Nat) (x : List Value) (k : Nat) : updC f n x k = if k = n then x else f k := by
  unfold updC
  rw [selL_eq]
  by_cases h : k = n <;> simp [h]
def ta (a : Nat → Int) (i : Nat) : Nat → Int := fun j => if j < i then tu (a j) else a j
theorem tmR_eq (a : Nat → Int) (i : Nat) : tmR (ta a i) i = fun j => v1 (ta a (i + 1) j) := by
  funext j
  unfold tmR
  rw [updC_at]
  by_cases h : j = i
  · subst h
    simp only [if_true, ta, Nat.lt_irrefl, if_false, Nat.lt_succ_self]
    rfl
  · simp only [h, if_false, ta]
    by_cases h2 : j < i
    · have : j < i + 1 := by omega
      simp [h2, this]
    · have : ¬ j < i + 1 := by omega
      simp [h2, this]
theorem tm_loop {L : Nat} {a : Nat → Int} (hL : 256 < L) :
    (iter (arun (tmG L) 0 55 (bodyOf Try.f46 0)) (canon (tmG L).T 0 ((tmG L).keep 2)) L (tmS (ta a 0) false 0)).eval = some (.exit 0, tmE (ta a 256) false 256) := by
  refine iter_upto (fun i => tmS (ta a i) false i) (N := 256) (by simp) ?_ L 0 (Nat.zero_le _) (by omega) ?_
  · refine rndX_ok ?_
    rw [tm_rndX]
    have h1 : ¬ (((256 : Nat) : Int) < 256) := by omega
    simp only [h1, decide_false, cond_false]
    rfl
  · intro j _ hj
    refine rnd_ok ?_
    rw [tm_rnd]
    have h1 : (j : Int) < 256 := by omega
    have h3 : w64 ((j : Int) + 1) = ((j + 1 : Nat) : Int) := by rw [w64_id (by omega) (by omega)]; omega
    have h5 : decide ((0 : Int) ≤ (j : Int)) = true := by simp
    simp only [h1, h3, h5, hj, decide_true, cond_true, Int.toNat_natCast, tmR_eq]
    rfl
theorem tm_whole {L : Nat} {a : Nat → Int} :
    (lfun (tmG L) (told 55 (bodyOf Try.f46 0) (tmS (ta a 0) false 0) (.exit 0, tmE (ta a 256) false 256)) 60 Try.f46 [aA a, Bo false] []).eval =
      bif yes (was 55 (bodyOf Try.f46 0) (tmS (ta a 0) false 0)) then some (aA (ta a 256), []) else none := by kernel_rfl
def dv : Value → Int
  | .int _ a => a
  | _ => 0
noncomputable def tmF : Spec := fun args h => match args, h with
  | [.arr 256 f, .c (.v (.bool false))], [] => .need (yes (f = fun k => .int .i64 (dv (f k)))) (.ret (aA (ta (fun k => dv (f k)) 256), []))
  | _, _ => .fail
theorem tmF_ok : SpecOk Try.prog 46 tmF := by
  refine known' gKnil Try.func46 fun args h r he => ?_
  unfold tmF at he
  split at he
  · rename_i f
    obtain ⟨h1, he⟩ := Tr.eval_ask.1 he
    cases he
    have hl : LoopsOk (tmG 257) 0 _ := told_ok (tm_loop (L := 257) (a := fun k => dv (f k)) (by decide))
    have hw := tm_whole (L := 257) (a := fun k => dv (f k))
    rw [yes_of ⟨rfl, rfl, rfl⟩] at hw
    have hf := lfun_ok (h := []) hl hw
    rw [aA, ← h1] at hf
    exact ⟨_, _, _, hf⟩
  · cases he

/- Wide. -/
noncomputable def sGOf : Spec := afun (GK [] (fun _ => []) 0) 60 Try.f114
noncomputable def KG0 : Known := [(114, sGOf)]
theorem KG0_ok : KnownOk KG0 := gKcons (known0 gKnil 60 Try.func114) (by kernel_rfl) gKnil
noncomputable def wdG (L : Nat) : Ctx2 := GK KG0 (fun k => if k = 3 then [(1,none),(2,none),(5,none),(8,none),(9,none)] else []) L
def wdS (a : Nat → Int) (s : ByteArray) (out i : Int) : St := ⟨slots 20 [(1, .c (.v (.string s))), (2, .c (.ptr 0 0 0)), (5, I64 out), (8, I64 s.size), (9, I64 i)], [rowA a]⟩
def wdE (a : Nat → Int) (s : ByteArray) (out i : Int) : St := ⟨slots 20 [(1, .c (.v (.string s))), (2, .c (.ptr 0 0 0)), (5, I64 out), (8, I64 s.size), (9, I64 i), (10, Bo false)], [rowA a]⟩
def cl (x : Int) : Int := mnI 65536 (mxI 0 x)
theorem wd_rnd {L : Nat} {a : Nat → Int} {s : ByteArray} {out i : Int} : rnd (arun (wdG L) 0 54 (bodyOf Try.f47 0)) (canon (wdG L).T 0 ((wdG L).keep 3)) (wdS a s out i) =
  bif decide (i < s.size) then bif decide (0 ≤ i) then bif decide (i < s.size) then bif decide (bt s i < 256) then bif decide ((bt s i).toNat < 256) then
    some (wdS a s (w64 (out + cl (a (bt s i).toNat))) (w64 (i + 1)))
  else none else none else none else none else none := by kernel_rfl
theorem wd_rndX {L : Nat} {a : Nat → Int} {s : ByteArray} {out i : Int} : rndX (arun (wdG L) 0 54 (bodyOf Try.f47 0)) (wdS a s out i) =
  bif decide (i < s.size) then bif decide (0 ≤ i) then bif decide (i < s.size) then bif decide (bt s i < 256) then bif decide ((bt s i).toNat < 256) then none
  else none else none else none else none else some (.exit 0, wdE a s out i) := by kernel_rfl
/-- The width of bytes. -/
def cs (a : Nat → Int) (l : List UInt8) : Int := (l.map fun b => cl (a b.toNat)).sum
theorem cl_b (x : Int) : 0 ≤ cl x ∧ cl x ≤ 65536 := by unfold cl mnI mxI; split <;> (try split) <;> (try split) <;> omega
theorem cs_b (a : Nat → Int) : ∀ l : List UInt8, 0 ≤ cs a l ∧ cs a l ≤ l.length * 65536
  | [] => ⟨Int.le_refl _, by simp [cs]⟩
  | b :: l => by
    have := cs_b a l
    have h := cl_b (a b.toNat)
    have e : cs a (b :: l) = cl (a b.toNat) + cs a l := by simp [cs]
    rw [e, List.length_cons]
    omega
theorem cs_append (a : Nat → Int) (l k : List UInt8) : cs a (l ++ k) = cs a l + cs a k := by simp [cs]
theorem cs_one (a : Nat → Int) (b : UInt8) : cs a [b] = cl (a b.toNat) := by simp [cs]
theorem bt_at (s : ByteArray) {j : Nat} (hj : j < s.data.toList.length) : bt s j = ((s.data.toList[j].toNat : Nat) : Int) := by
  unfold bt
  rw [Int.toNat_natCast, List.getD_eq_getElem?_getD, List.getElem?_eq_getElem hj]
  rfl
theorem size_len (s : ByteArray) : s.data.toList.length = s.size := Array.length_toList
theorem wd_loop {L : Nat} {a : Nat → Int} {s : ByteArray} (hs : s.size ≤ 2 ^ 40) (hL : s.size < L) :
    (iter (arun (wdG L) 0 54 (bodyOf Try.f47 0)) (canon (wdG L).T 0 ((wdG L).keep 3)) L (wdS a s 0 0)).eval = some (.exit 0, wdE a s (cs a s.data.toList) s.size) := by
  refine iter_upto (fun i => wdS a s (cs a (s.data.toList.take i)) i) (N := s.size) (by simp) ?_ L 0 (Nat.zero_le _) (by omega) ?_
  · refine rndX_ok ?_
    rw [wd_rndX]
    have e : s.data.toList.take s.size = s.data.toList := by rw [← size_len, List.take_length]
    simp [e]
  · intro j _ hj
    refine rnd_ok ?_
    rw [wd_rnd]
    have h1 : (j : Int) < s.size := by omega
    have h3 : w64 ((j : Int) + 1) = ((j + 1 : Nat) : Int) := by rw [w64_id (by omega) (by omega)]; omega
    have h5 : decide ((0 : Int) ≤ (j : Int)) = true := by simp
    have hjl : j < s.data.toList.length := by rw [size_len]; exact hj
    have hb := bt_at s hjl
    have hlt : s.data.toList[j].toNat < 256 := UInt8.toNat_lt _
    have h6 : bt s j < 256 := by rw [hb]; omega
    have h7 : (bt s j).toNat < 256 := by rw [hb]; omega
    have h8 : w64 (cs a (s.data.toList.take j) + cl (a (bt s j).toNat)) = cs a (s.data.toList.take (j + 1)) := by
      have hc := cs_b a (s.data.toList.take j)
      have hcl := cl_b (a (bt s j).toNat)
      have hlen : (s.data.toList.take j).length ≤ j := by simp; omega
      rw [List.take_add_one, List.getElem?_eq_getElem hjl, Option.toList_some, cs_append, cs_one]
      have e : (bt s j).toNat = s.data.toList[j].toNat := by rw [hb]; omega
      rw [e] at hcl ⊢
      exact w64_id (by omega) (by omega)
    simp only [h1, h3, h5, h6, h7, h8, decide_true, cond_true]
theorem wd_whole {L : Nat} {a : Nat → Int} {s : ByteArray} {w : Int} :
    (lfun (wdG L) (told 54 (bodyOf Try.f47 0) (wdS a s 0 0) (.exit 0, wdE a s w s.size)) 60 Try.f47 [aA a, .c (.v (.string s))] []).eval =
      bif yes (was 54 (bodyOf Try.f47 0) (wdS a s 0 0)) then some (I64 w, []) else none := by kernel_rfl
noncomputable def wdF (d : Spec) : Spec := fun args h => match args, h with
  | [.arr 256 f, .c (.v (.string s))], [] => .need (yes (s.size ≤ 2 ^ 40 ∧ f = fun k => .int .i64 (dv (f k)))) (.ret (I64 (cs (fun k => dv (f k)) s.data.toList), []))
  | args, h => d args h
theorem wdF_ok : SpecOk Try.prog 47 (wdF fun _ _ => .fail) := by
  refine known' KG0_ok Try.func47 fun args h r he => ?_
  unfold wdF at he
  split at he
  · rename_i f s
    obtain ⟨⟨h0, h1⟩, he⟩ := Tr.eval_ask.1 he
    cases he
    have hl : LoopsOk (wdG (s.size + 1)) 0 _ := told_ok (wd_loop (a := fun k => dv (f k)) h0 (Nat.lt_succ_self _))
    have hw := wd_whole (L := s.size + 1) (a := fun k => dv (f k)) (s := s) (w := cs (fun k => dv (f k)) s.data.toList)
    rw [yes_of ⟨rfl, rfl, rfl⟩] at hw
    have hf := lfun_ok (h := []) hl hw
    rw [aA, ← h1] at hf
    exact ⟨_, _, _, hf⟩
  · cases he

/- awake. -/
noncomputable def KG1 : Known := [(47, afun (wdG 10) 60 Try.f47), (48, afun (GK [] (fun k => if k = 2 then [(6,none),(7,none)] else []) 300) 60 Try.f48), (51, afun (GK [] (fun _ => []) 0) 60 Try.f51)]
theorem KG1_ok : KnownOk KG1 := gKcons (known' KG0_ok Try.func47 fun _ _ _ h => ⟨_, _, _, h⟩) (by kernel_rfl) (gKcons (known' gKnil Try.func48 fun _ _ _ h => ⟨_, _, _, h⟩) (by kernel_rfl) (gKcons (known0 gKnil 60 Try.func51) (by kernel_rfl) gKnil))
noncomputable def sAwakeG : Spec := fun args h => match args, h with
  | [], [] => .ret (Bo true, [])
  | _, _ => .fail
end Go.Proofs.Ytcpahifgdppkbaa.QAI
