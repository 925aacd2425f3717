/-
  The abstract machine, part 17: the machine's integer operations on natural numbers. Own work; plain definitions and lemmas.
-/
import Derived.Test.YtjbagcmcpmhfnaaDoorAm16
namespace Go.Am
open Go

def cap (k : IntKind) : Nat := 2 ^ (if k.signed then k.bits - 1 else k.bits)
def iAnd (k : IntKind) (a b : Int) : Int := k.wrap (((BitVec.ofInt k.bits a) &&& (BitVec.ofInt k.bits b)).toNat : Int)
def iOr (k : IntKind) (a b : Int) : Int := k.wrap (((BitVec.ofInt k.bits a) ||| (BitVec.ofInt k.bits b)).toNat : Int)
def iXor (k : IntKind) (a b : Int) : Int := k.wrap (((BitVec.ofInt k.bits a) ^^^ (BitVec.ofInt k.bits b)).toNat : Int)
def iAdd (k : IntKind) (a b : Int) : Int := k.wrap (a + b)
def iSub (k : IntKind) (a b : Int) : Int := k.wrap (a - b)
def iMul (k : IntKind) (a b : Int) : Int := k.wrap (a * b)

theorem cap_le (k : IntKind) : cap k ≤ 2 ^ k.bits := by cases k <;> decide

theorem wrap_cast (k : IntKind) {n : Nat} (h : n < cap k) : k.wrap (n : Int) = n := by
  have hb := cap_le k
  have h2 : ((n : Int) % (2 ^ k.bits : Int)) = n := by
    rw [show (2 ^ k.bits : Int) = ((2 ^ k.bits : Nat) : Int) from by simp]
    rw [← Int.natCast_emod, Nat.mod_eq_of_lt (by omega)]
  unfold IntKind.wrap
  simp only [h2]
  rw [if_neg]
  unfold cap at h
  cases hs : k.signed
  · simp
  · rw [hs] at h
    simp only [if_true] at h
    simp only [Bool.true_and, decide_eq_true_eq, ge_iff_le]
    rw [show (2 ^ (k.bits - 1) : Int) = ((2 ^ (k.bits - 1) : Nat) : Int) from by simp]
    omega

theorem ofInt_toNat (w n : Nat) (h : n < 2 ^ w) : (BitVec.ofInt w (n : Int)).toNat = n := by
  rw [BitVec.toNat_ofInt, show (((2 : Nat) ^ w : Nat) : Int) = ((2 ^ w : Nat) : Int) from rfl, ← Int.natCast_emod, Int.toNat_natCast, Nat.mod_eq_of_lt h]
theorem cap_pow (k : IntKind) : ∃ e, cap k = 2 ^ e := ⟨_, rfl⟩
theorem iAnd_cast (k : IntKind) {a b : Nat} (ha : a < cap k) (hb : b < cap k) : iAnd k a b = (a &&& b : Nat) := by
  have hc := cap_le k
  unfold iAnd
  rw [BitVec.toNat_and, ofInt_toNat _ _ (by omega), ofInt_toNat _ _ (by omega)]
  exact wrap_cast k (Nat.lt_of_le_of_lt Nat.and_le_left ha)
theorem iOr_cast (k : IntKind) {a b : Nat} (ha : a < cap k) (hb : b < cap k) : iOr k a b = (a ||| b : Nat) := by
  have hc := cap_le k
  unfold iOr
  rw [BitVec.toNat_or, ofInt_toNat _ _ (by omega), ofInt_toNat _ _ (by omega)]
  obtain ⟨e, he⟩ := cap_pow k
  exact wrap_cast k (by rw [he] at ha hb ⊢; exact Nat.or_lt_two_pow ha hb)
theorem iXor_cast (k : IntKind) {a b : Nat} (ha : a < cap k) (hb : b < cap k) : iXor k a b = (a ^^^ b : Nat) := by
  have hc := cap_le k
  unfold iXor
  rw [BitVec.toNat_xor, ofInt_toNat _ _ (by omega), ofInt_toNat _ _ (by omega)]
  obtain ⟨e, he⟩ := cap_pow k
  exact wrap_cast k (by rw [he] at ha hb ⊢; exact Nat.xor_lt_two_pow ha hb)
theorem iAdd_cast (k : IntKind) {a b : Nat} (h : a + b < cap k) : iAdd k a b = (a + b : Nat) := by
  unfold iAdd; rw [← Int.natCast_add]; exact wrap_cast k h
theorem iMul_cast (k : IntKind) {a b : Nat} (h : a * b < cap k) : iMul k a b = (a * b : Nat) := by
  unfold iMul; rw [← Int.natCast_mul]; exact wrap_cast k h
theorem iSub_cast (k : IntKind) {a b : Nat} (hb : b ≤ a) (h : a < cap k) : iSub k a b = (a - b : Nat) := by
  unfold iSub; rw [← Int.ofNat_sub hb]; exact wrap_cast k (by omega)
theorem fdiv_cast (a b : Nat) : Int.fdiv (a : Int) (b : Int) = (a / b : Nat) := by
  rw [Int.fdiv_eq_ediv_of_nonneg _ (Int.natCast_nonneg b), Int.natCast_ediv]
theorem tmod_cast (a b : Nat) : Int.tmod (a : Int) (b : Int) = (a % b : Nat) := by
  rw [Int.tmod_eq_emod_of_nonneg (Int.natCast_nonneg a), Int.natCast_emod]
theorem tdiv_cast (a b : Nat) : Int.tdiv (a : Int) (b : Int) = (a / b : Nat) := by
  rw [Int.tdiv_eq_ediv_of_nonneg (Int.natCast_nonneg a), Int.natCast_ediv]
/-- A number that is not negative. -/
theorem nat_of {n : Int} (h : 0 ≤ n) : ∃ m : Nat, n = m := ⟨n.toNat, by omega⟩

/-- The loops of a piece of code, by their bodies. -/
def loopsIn : Code → List Code
  | .seq a b => loopsIn a ++ loopsIn b
  | .cond _ a b => loopsIn a ++ loopsIn b
  | .block _ a => loopsIn a
  | .loop a => a :: loopsIn a
  | _ => []
end Go.Am
