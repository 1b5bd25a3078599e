/- CrosFills: the walk and the plain law. -/
import Derived.Test.YtcpahifgdppkbaaX1
import Derived.Test.YtcpahifgdppkbaaC
namespace Go.Proofs.Ytcpahifgdppkbaa.QAI
open Go Go.RowKit
set_option maxRecDepth 100000
theorem crosFills_eq {a b c d e : Int} : (afun (GK KX2 (fun _ => []) 0) 60 Try.f17 [I64 a, I64 b, I64 c, I64 d, I64 e] []).eval =
  bif
      mxI 0 (mxI (and64 c 4095) (w64 (and64 a 65535 - and64 b 255))) !=
        mxI 0 (mxI (and64 c 4095) (w64 (and64 a 65535 - and64 b 255))) then
    some (Bo false, [])
  else
    bif decide (and64 d 65535 ≥ 0) then
      bif
          mxI 0 (mxI 0 (mnI (and64 d 65535) (w64 (and64 a 65535 - and64 b 255)))) !=
            mxI 0 (mnI (and64 d 65535) (w64 (and64 a 65535 - and64 b 255))) then
        some (Bo false, [])
      else
        bif w64 (w64 (and64 a 65535 - and64 e 65535) + and64 e 65535) == and64 a 65535 then
          bif
              decide
                (w64
                    (w64
                        (w64 (and64 a 65535 - and64 e 65535) -
                          (w64 (and64 a 65535 - and64 e 65535)).fdiv (2 ^ min (Int.toNat 1) IntKind.i64.bits)) -
                      (w64 (and64 a 65535 - and64 e 65535)).fdiv (2 ^ min (Int.toNat 1) IntKind.i64.bits)) ≥
                  0) then
            bif
                decide
                  (w64
                      (w64
                          (w64 (and64 a 65535 - and64 e 65535) -
                            (w64 (and64 a 65535 - and64 e 65535)).fdiv (2 ^ min (Int.toNat 1) IntKind.i64.bits)) -
                        (w64 (and64 a 65535 - and64 e 65535)).fdiv (2 ^ min (Int.toNat 1) IntKind.i64.bits)) ≤
                    1) then
              some (Bo true, [])
            else some (Bo false, [])
          else some (Bo false, [])
        else some (Bo false, [])
    else
      bif
          mxI 0 (mxI 0 (w64 (and64 a 65535 - and64 b 255))) !=
            mxI 0 (mnI (and64 d 65535) (w64 (and64 a 65535 - and64 b 255))) then
        some (Bo false, [])
      else
        bif w64 (w64 (and64 a 65535 - and64 e 65535) + and64 e 65535) == and64 a 65535 then
          bif
              decide
                (w64
                    (w64
                        (w64 (and64 a 65535 - and64 e 65535) -
                          (w64 (and64 a 65535 - and64 e 65535)).fdiv (2 ^ min (Int.toNat 1) IntKind.i64.bits)) -
                      (w64 (and64 a 65535 - and64 e 65535)).fdiv (2 ^ min (Int.toNat 1) IntKind.i64.bits)) ≥
                  0) then
            bif
                decide
                  (w64
                      (w64
                          (w64 (and64 a 65535 - and64 e 65535) -
                            (w64 (and64 a 65535 - and64 e 65535)).fdiv (2 ^ min (Int.toNat 1) IntKind.i64.bits)) -
                        (w64 (and64 a 65535 - and64 e 65535)).fdiv (2 ^ min (Int.toNat 1) IntKind.i64.bits)) ≤
                    1) then
              some (Bo true, [])
            else some (Bo false, [])
          else some (Bo false, [])
        else some (Bo false, []) := by kernel_rfl
theorem w64_eq (x : Int) : w64 x = (x + 9223372036854775808) % 18446744073709551616 - 9223372036854775808 := IntKind.wrap_i64 x
theorem and64_b (k : Nat) (hk : k ≤ 62) (a m : Int) (hm : m = 2 ^ k - 1) : 0 ≤ and64 a m ∧ and64 a m < (2 ^ k : Int) := by
  rw [and_mask k hk a m hm]
  have e : (2 : Int) ^ k = ((2 ^ k : Nat) : Int) := by simp
  have hp0 : 0 < (2 : Nat) ^ k := Nat.pow_pos (by decide)
  rw [e]
  exact ⟨Int.emod_nonneg _ (by omega), Int.emod_lt_of_pos _ (by omega)⟩
theorem fd1 (x : Int) : x.fdiv (2 ^ min (Int.toNat 1) IntKind.i64.bits) = x / 2 := fdiv2 x
theorem crosFills_true (a b c d e : Int) : (afun (GK KX2 (fun _ => []) 0) 60 Try.f17 [I64 a, I64 b, I64 c, I64 d, I64 e] []).eval = some (Bo true, []) := by
  rw [crosFills_eq]
  have h1 := and64_b 16 (by decide) a 65535 rfl
  have h2 := and64_b 8 (by decide) b 255 rfl
  have h3 := and64_b 12 (by decide) c 4095 rfl
  have h4 := and64_b 16 (by decide) d 65535 rfl
  have h5 := and64_b 16 (by decide) e 65535 rfl
  revert h1 h2 h3 h4 h5
  generalize and64 a 65535 = A
  generalize and64 b 255 = B
  generalize and64 c 4095 = C
  generalize and64 d 65535 = D
  generalize and64 e 65535 = E
  intro h1 h2 h3 h4 h5
  have e1 : w64 (A - B) = A - B := w64_id (by omega) (by omega)
  have e2 : w64 (A - E) = A - E := w64_id (by omega) (by omega)
  have e3 : w64 (A - E + E) = A := by rw [w64_id (by omega) (by omega)]; omega
  have e4 : w64 (A - E - (A - E) / 2) = A - E - (A - E) / 2 := w64_id (by omega) (by omega)
  have e5 : w64 (A - E - (A - E) / 2 - (A - E) / 2) = A - E - (A - E) / 2 - (A - E) / 2 := w64_id (by omega) (by omega)
  simp only [fd1, e1, e2, e3, e4, e5, mxI_eq, mnI_eq]
  have c1 : (max 0 (max 0 (min D (A - B))) != max 0 (min D (A - B))) = false := by simp
  have c2 : decide (D ≥ 0) = true := decide_eq_true (by omega)
  have c3 : decide (A - E - (A - E) / 2 - (A - E) / 2 ≥ 0) = true := decide_eq_true (by omega)
  have c4 : decide (A - E - (A - E) / 2 - (A - E) / 2 ≤ 1) = true := decide_eq_true (by omega)
  simp only [c1, c2, c3, c4, bne_self_eq_false, cond_false, cond_true, beq_self_eq_true]
def crosFillsS : List Shp := [.one (.int .i64), .one (.int .i64), .one (.int .i64), .one (.int .i64), .one (.int .i64)]
theorem crosFills_core : ∀ is, InsOk crosFillsS is → ∃ keep L d, (afun (GK KX2 keep L) d Try.f17 (avsIn 0 crosFillsS is) (blksIn crosFillsS is)).eval = some (Bo true, blksIn crosFillsS is) := by
  intro is0 h0
  obtain ⟨v0, is1, rfl, h1⟩ := ins_i64 h0
  obtain ⟨v1, is2, rfl, h2⟩ := ins_i64 h1
  obtain ⟨v2, is3, rfl, h3⟩ := ins_i64 h2
  obtain ⟨v3, is4, rfl, h4⟩ := ins_i64 h3
  obtain ⟨v4, is5, rfl, h5⟩ := ins_i64 h4
  obtain rfl := ins_nil h5
  exact ⟨fun _ => [], 0, 60, crosFills_true v0 v1 v2 v3 v4⟩
end Go.Proofs.Ytcpahifgdppkbaa.QAI
