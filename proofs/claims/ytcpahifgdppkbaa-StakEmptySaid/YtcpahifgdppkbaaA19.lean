/- Short names for what often stands in values. -/
import Derived.Test.YtcpahifgdppkbaaA18
import Derived.Laws.Bits64b
set_option linter.unusedVariables false
set_option linter.unusedSimpArgs false
namespace Go.Proofs.Ytcpahifgdppkbaa.QAI
open Go Go.RowKit
def w64 (x : Int) : Int := IntKind.wrap .i64 x
def and64 (a m : Int) : Int := bits .and .i64 a m
def mxI (a b : Int) : Int := if a > b then a else b
def mnI (a b : Int) : Int := if a < b then a else b
theorem mxI_eq (a b : Int) : mxI a b = max a b := by unfold mxI; omega
theorem mnI_eq (a b : Int) : mnI a b = min a b := by unfold mnI; omega
def u64 (x : Int) : Int := IntKind.wrap .u64 x
theorem w64_id {x : Int} (h1 : -(2 ^ 62 : Int) ≤ x) (h2 : x < (2 ^ 62 : Int)) : w64 x = x := by
  unfold w64
  rw [IntKind.wrap_i64]
  omega
/-- '& m' of a number, m one less than a power of 2. -/
theorem and_mask (k : Nat) (hk : k ≤ 62) (a m : Int) (hm : m = 2 ^ k - 1) : and64 a m = a % (2 ^ k : Int) := by
  have hp : (2 : Nat) ^ k ≤ 2 ^ 62 := Nat.pow_le_pow_right (by decide) hk
  have hp0 : 0 < (2 : Nat) ^ k := Nat.pow_pos (by decide)
  have hm' : m = ((2 ^ k - 1 : Nat) : Int) := by
    rw [hm]
    have : ((2 ^ k : Nat) : Int) = (2 : Int) ^ k := by simp
    omega
  have h2 : (BitVec.ofInt 64 m).toNat = 2 ^ k - 1 := by
    rw [hm', BitVec.ofInt_natCast, BitVec.toNat_ofNat]
    exact Nat.mod_eq_of_lt (by omega)
  have h1 : (BitVec.ofInt 64 a).toNat = (a % (2 ^ 64 : Int)).toNat := by
    rw [BitVec.toNat_ofInt]
    rfl
  show IntKind.i64.wrap ((BitVec.ofInt 64 a &&& BitVec.ofInt 64 m).toNat : Int) = _
  rw [BitVec.toNat_and, h1, h2, Nat.and_two_pow_sub_one_eq_mod, IntKind.wrap_i64]
  have e : (2 : Int) ^ k = ((2 ^ k : Nat) : Int) := by simp
  have h3 : ((a % (2 ^ 64 : Int)).toNat : Int) = a % (2 ^ 64 : Int) := Int.toNat_of_nonneg (Int.emod_nonneg _ (by decide))
  have h4 : (((a % (2 ^ 64 : Int)).toNat % 2 ^ k : Nat) : Int) = a % (2 ^ k : Int) := by
    rw [Int.natCast_emod, h3, e]
    refine Int.emod_emod_of_dvd _ ?_
    have : (2 : Nat) ^ k ∣ 2 ^ 64 := Nat.pow_dvd_pow 2 (by omega)
    exact Int.natCast_dvd_natCast.2 this
  have h5 : (a % (2 ^ 64 : Int)).toNat % 2 ^ k < 2 ^ k := Nat.mod_lt _ hp0
  rw [← h4]
  omega
theorem fdiv2 (a : Int) : a.fdiv (2 ^ (1 : Nat)) = a / 2 := by
  rw [Int.fdiv_eq_ediv_of_nonneg a (by decide)]
  rfl
theorem tdiv_nn {a b : Int} (h : 0 ≤ a) (hb : 0 ≤ b) : a.tdiv b = a / b := Int.tdiv_eq_ediv_of_nonneg h
theorem tmod_nn {a b : Int} (h : 0 ≤ a) : a.tmod b = a % b := Int.tmod_eq_emod_of_nonneg h
/-- A number, brought in between 0 and a power of 2. -/
theorem u64_mod (k : Nat) (hk : k ≤ 62) (a m : Int) (hm : m = 2 ^ k) : w64 ((u64 a).tmod m) = a % m := by
  unfold u64
  rw [IntKind.wrap_u64, tmod_nn (by omega), hm]
  have e : (2 : Int) ^ k = ((2 ^ k : Nat) : Int) := by simp
  have hp : (2 : Nat) ^ k ≤ 2 ^ 62 := Nat.pow_le_pow_right (by decide) hk
  have hp0 : 0 < (2 : Nat) ^ k := Nat.pow_pos (by decide)
  rw [e]
  have : a % 18446744073709551616 % ((2 ^ k : Nat) : Int) = a % ((2 ^ k : Nat) : Int) := by
    refine Int.emod_emod_of_dvd _ ?_
    have : (2 : Nat) ^ k ∣ 2 ^ 64 := Nat.pow_dvd_pow 2 (by omega)
    exact Int.natCast_dvd_natCast.2 this
  rw [this]
  have h1 : 0 ≤ a % ((2 ^ k : Nat) : Int) := Int.emod_nonneg _ (by omega)
  have h2 : a % ((2 ^ k : Nat) : Int) < ((2 ^ k : Nat) : Int) := Int.emod_lt_of_pos _ (by omega)
  exact w64_id (by omega) (by omega)
end Go.Proofs.Ytcpahifgdppkbaa.QAI
