/-
  Joiner: the last bits of a number. Own work; plain mathematics.
-/
import Derived.Test.YtbpfhjmiaaaoiaaJoiA
namespace Go.Am.Joi
open Go Go.Am

theorem and_int (x : Int) {k : Nat} (hk : k ≤ 62) : bits .and .i64 x ((2 ^ k - 1 : Nat) : Int) = x % ((2 ^ k : Nat) : Int) := by
  have hp : 2 ^ k ≤ 2 ^ 62 := Nat.pow_le_pow_right (by omega) hk
  have hp0 : 0 < 2 ^ k := Nat.two_pow_pos k
  have h1 : bits .and .i64 x ((2 ^ k - 1 : Nat) : Int) = IntKind.i64.wrap (((BitVec.ofInt 64 x &&& BitVec.ofInt 64 ((2 ^ k - 1 : Nat) : Int)).toNat : Nat) : Int) := rfl
  rw [h1, BitVec.toNat_and, BitVec.toNat_ofInt, BitVec.toNat_ofInt]
  obtain ⟨m, hm⟩ : ∃ m : Nat, x % ((2 ^ 64 : Nat) : Int) = (m : Int) := ⟨(x % ((2 ^ 64 : Nat) : Int)).toNat, by omega⟩
  have h2 : ((2 ^ k - 1 : Nat) : Int) % ((2 ^ 64 : Nat) : Int) = ((2 ^ k - 1 : Nat) : Int) := by omega
  rw [hm, h2, Int.toNat_natCast, Int.toNat_natCast, Nat.and_two_pow_sub_one_eq_mod]
  have h3 : x % ((2 ^ k : Nat) : Int) = ((m % 2 ^ k : Nat) : Int) := by
    have hd : ((2 ^ k : Nat) : Int) ∣ ((2 ^ 64 : Nat) : Int) := by
      rw [Int.natCast_dvd_natCast]
      exact Nat.pow_dvd_pow 2 (by omega)
    rw [← Int.emod_emod_of_dvd x hd, hm]
    rfl
  rw [h3]
  have h4 : m % 2 ^ k < 2 ^ k := Nat.mod_lt _ hp0
  refine Go.Am.wrap_cast .i64 ?_
  have : cap .i64 = 2 ^ 63 := by decide
  omega
theorem and14 (x : Int) : bits .and .i64 x 16383 = x % 16384 := and_int x (k := 14) (by decide)
theorem and1 (x : Int) : bits .and .i64 x 1 = x % 2 := and_int x (k := 1) (by decide)
end Go.Am.Joi
