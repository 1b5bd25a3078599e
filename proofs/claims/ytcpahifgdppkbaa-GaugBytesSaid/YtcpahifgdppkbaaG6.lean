/- GaugBytes: the whole. -/
import Derived.Test.YtcpahifgdppkbaaG5
set_option linter.unusedVariables false
set_option linter.unusedSimpArgs false
namespace Go.Proofs.Ytcpahifgdppkbaa.QAI
open Go Go.RowKit
set_option maxRecDepth 100000
def gA (a : Nat → Int) : Nat → Int := ta (fun k => dv (((fun k => [(fun k => Value.int IntKind.i64 (a k)) k]) k).headD undef)) 256
noncomputable def gbT (L : Nat) (a : Nat → Int) (s : ByteArray) : Tr (AV × AHeap) :=
  lfun (gbG L) (told 51 (bodyOf Try.f5 0) (gbI (gA a) s 0) (.exit 0, gbE (gA a) s (cs (gA a) s.data.toList) (backB s s.size) s.size)) 60 Try.f5 [aA a, Str s] []
theorem gb_w1 {L : Nat} {a : Nat → Int} {s : ByteArray} : (lfun (gbG L) (fun _ _ _ => .fail) 60 Try.f5 [aA a, Str s] []).go [] =
  some ([decide (↑s.size > (1000 : Int))], Bo true, []) := by kernel_rfl

theorem gb_w2 {L : Nat} {a : Nat → Int} {s : ByteArray} : (gbT L a s).go [false] =
  some
    ([!decide (↑s.size > (1000 : Int)), true,
        yes
          ((fun k => ((fun k => [(fun k => Value.int IntKind.i64 (a k)) k]) k).headD undef) = fun k =>
            Value.int IntKind.i64
              (dv ((fun k => ((fun k => [(fun k => Value.int IntKind.i64 (a k)) k]) k).headD undef) k))),
        yes (was 51 (bodyOf Try.f5 0) (gbI (gA a) s 0)), true,
        yes
          (s.size ≤ 2 ^ 40 ∧
            (fun k => ((fun k => v1 (gA a k)) k).headD undef) = fun k =>
              Value.int IntKind.i64 (dv ((fun k => ((fun k => v1 (gA a k)) k).headD undef) k))),
        cs (fun k => dv ((fun k => ((fun k => v1 (gA a k)) k).headD undef) k)) s.data.toList == cs (gA a) s.data.toList,
        true, true, true,
        yes
          ((backB s s.size).size ≤ 2 ^ 40 ∧
            (fun k => ((fun k => v1 (gA a k)) k).headD undef) = fun k =>
              Value.int IntKind.i64 (dv ((fun k => ((fun k => v1 (gA a k)) k).headD undef) k))),
        true, true, true,
        cs (fun k => dv ((fun k => ((fun k => v1 (gA a k)) k).headD undef) k)) (backB s s.size).data.toList ==
          cs (gA a) s.data.toList,
        true],
      Bo true, []) := by kernel_rfl

theorem tu_b (x : Int) : 0 ≤ tu x ∧ tu x ≤ 65536 := by
  have e : u64 x = x % 18446744073709551616 := IntKind.wrap_u64 x
  unfold tu
  rw [e, tmod_nn (by omega), w64_id (by omega) (by omega)]
  omega
theorem gA_ok (a : Nat → Int) : aOk (gA a) := by
  intro k hk
  unfold gA ta
  simp only [hk, if_true]
  exact tu_b _
theorem gaugBytes_true (a : Nat → Int) (s : ByteArray) : ∃ L, (afun (gbG L) 60 Try.f5 [aA a, Str s] []).eval = some (Bo true, []) := by
  refine ⟨s.size + 1, ?_⟩
  by_cases h : (s.size : Int) > 1000
  · exact lfun_go (h := []) noLoops gb_w1 ⟨decide_eq_true h, trivial⟩
  · have hs : s.size ≤ 1000 := by omega
    refine lfun_go (h := []) (told_ok (gb_loop (gA_ok a) hs (Nat.lt_succ_self _))) gb_w2 ?_
    have hb := back_size s s.size (Nat.le_refl _)
    refine ⟨by simp [h], rfl, yes_of rfl, yes_of ⟨rfl, rfl, rfl⟩, rfl, yes_of ⟨by omega, rfl⟩, beq_self_eq_true _, rfl, rfl, rfl, yes_of ⟨by omega, rfl⟩, rfl, rfl, rfl, ?_, rfl, trivial⟩
    have hl := back_list s s.size (Nat.le_refl _)
    have e : s.data.toList.take s.size = s.data.toList := by rw [← size_len, List.take_length]
    rw [e] at hl
    show (cs (gA a) (backB s s.size).data.toList == cs (gA a) s.data.toList) = true
    rw [hl, cs_reverse]
    exact beq_self_eq_true _
def gaugBytesS : List Shp := [.arr 256 (.int .i64), .one .str]
theorem gaugBytes_core : ∀ is, InsOk gaugBytesS is → ∃ keep L d, (afun (GK KG2 keep L) d Try.f5 (avsIn 0 gaugBytesS is) (blksIn gaugBytesS is)).eval = some (Bo true, blksIn gaugBytesS is) := by
  intro is0 h0
  obtain ⟨a, is1, rfl, h1⟩ := ins_arr h0
  obtain ⟨s, is2, rfl, h2, l2⟩ := ins_str h1
  obtain rfl := ins_nil h2
  obtain ⟨L, h⟩ := gaugBytes_true a s
  exact ⟨_, L, 60, h⟩
end Go.Proofs.Ytcpahifgdppkbaa.QAI
