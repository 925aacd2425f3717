/-
  Hamming: more small functions' summaries. Own work.
-/
import Derived.Test.YtjbagcmcpmhfnaaDoorHamB
namespace Go.Am.Ham
open Go Go.Am Go.Proofs
set_option maxRecDepth 100000

/-! ### bits.OnesCount64 -/
def q1 (n : Nat) : Nat := (n / 2 &&& 6148914691236517205) + (n &&& 6148914691236517205)
def q2 (n : Nat) : Nat := (n / 4 &&& 3689348814741910323) + (n &&& 3689348814741910323)
def q3 (n : Nat) : Nat := (n / 16 + n) &&& 1085102592571150095
def q4 (k n : Nat) : Nat := n + n / k
def pcN (n : Nat) : Nat := q4 4294967296 (q4 65536 (q4 256 (q3 (q2 (q1 n))))) &&& 127
def s23 : Spec := fun args h K => match args, h with
  | [.int .u64 c], [] => 0 ≤ c ∧ c < 2 ^ 64 ∧ K (.int .i64 (pcN c.toNat : Nat)) []
  | _, _ => False

theorem p1_cast {n : Nat} (h : n < 2 ^ 64) : p1 n = (q1 n : Nat) := by
  unfold p1 q1
  have h1 : n / 2 &&& 6148914691236517205 ≤ 6148914691236517205 := Nat.and_le_right
  have h2 : n &&& 6148914691236517205 ≤ 6148914691236517205 := Nat.and_le_right
  rw [sealI_eq, show (2 : Int) = ((2 : Nat) : Int) from rfl, show (6148914691236517205 : Int) = ((6148914691236517205 : Nat) : Int) from rfl, fdiv_cast,
    iAnd_cast .u64 (by rw [cap_u64]; omega) (by rw [cap_u64]; omega), iAnd_cast .u64 (by rw [cap_u64]; omega) (by rw [cap_u64]; omega), iAdd_cast .u64 (by rw [cap_u64]; omega)]
theorem q1_le (n : Nat) : q1 n ≤ 2 * 6148914691236517205 := by
  unfold q1
  have h1 : n / 2 &&& 6148914691236517205 ≤ 6148914691236517205 := Nat.and_le_right
  have h2 : n &&& 6148914691236517205 ≤ 6148914691236517205 := Nat.and_le_right
  omega
theorem p2_cast {n : Nat} (h : n < 2 ^ 64) : p2 n = (q2 n : Nat) := by
  unfold p2 q2
  have h1 : n / 4 &&& 3689348814741910323 ≤ 3689348814741910323 := Nat.and_le_right
  have h2 : n &&& 3689348814741910323 ≤ 3689348814741910323 := Nat.and_le_right
  rw [sealI_eq, show (4 : Int) = ((4 : Nat) : Int) from rfl, show (3689348814741910323 : Int) = ((3689348814741910323 : Nat) : Int) from rfl, fdiv_cast,
    iAnd_cast .u64 (by rw [cap_u64]; omega) (by rw [cap_u64]; omega), iAnd_cast .u64 (by rw [cap_u64]; omega) (by rw [cap_u64]; omega), iAdd_cast .u64 (by rw [cap_u64]; omega)]
theorem q2_le (n : Nat) : q2 n ≤ 2 * 3689348814741910323 := by
  unfold q2
  have h1 : n / 4 &&& 3689348814741910323 ≤ 3689348814741910323 := Nat.and_le_right
  have h2 : n &&& 3689348814741910323 ≤ 3689348814741910323 := Nat.and_le_right
  omega
theorem p3_cast {n : Nat} (h : n ≤ 2 * 3689348814741910323) : p3 n = (q3 n : Nat) := by
  unfold p3 q3
  rw [sealI_eq, show (16 : Int) = ((16 : Nat) : Int) from rfl, show (1085102592571150095 : Int) = ((1085102592571150095 : Nat) : Int) from rfl, fdiv_cast,
    iAdd_cast .u64 (by rw [cap_u64]; omega), iAnd_cast .u64 (by rw [cap_u64]; omega) (by rw [cap_u64]; omega)]
theorem q3_le (n : Nat) : q3 n ≤ 1085102592571150095 := Nat.and_le_right
theorem p4_cast {n k : Nat} (hk : 2 ≤ k) (h : n ≤ 4611686018427387903) : p4 k n = (q4 k n : Nat) ∧ q4 k n ≤ n + n / k := by
  have h1 : n / k ≤ n / 2 := Nat.div_le_div_left hk (by omega)
  unfold p4 q4
  rw [sealI_eq, fdiv_cast, iAdd_cast .u64 (by rw [cap_u64]; omega)]
  exact ⟨rfl, Nat.le_refl _⟩
theorem pc_cast {n : Nat} (h : n < 2 ^ 64) : iAnd .i64 (IntKind.i64.wrap (p4 4294967296 (p4 65536 (p4 256 (p3 (p2 (p1 n))))))) 127 = (pcN n : Nat) := by
  have b1 := q1_le n
  have b2 := q2_le (q1 n)
  have b3 := q3_le (q2 (q1 n))
  rw [p1_cast h, p2_cast (by omega), p3_cast b2]
  unfold pcN
  generalize q3 (q2 (q1 n)) = x at *
  obtain ⟨e4, b4⟩ := p4_cast (n := x) (k := 256) (by omega) (by omega)
  rw [show (256 : Int) = ((256 : Nat) : Int) from rfl, e4]
  generalize q4 256 x = y at *
  obtain ⟨e5, b5⟩ := p4_cast (n := y) (k := 65536) (by omega) (by omega)
  rw [show (65536 : Int) = ((65536 : Nat) : Int) from rfl, e5]
  generalize q4 65536 y = z at *
  obtain ⟨e6, b6⟩ := p4_cast (n := z) (k := 4294967296) (by omega) (by omega)
  rw [show (4294967296 : Int) = ((4294967296 : Nat) : Int) from rfl, e6]
  generalize q4 4294967296 z = u at *
  rw [wrap_cast .i64 (by rw [cap_i64]; omega), show (127 : Int) = ((127 : Nat) : Int) from rfl, iAnd_cast .i64 (by rw [cap_i64]; omega) (by rw [cap_i64]; omega)]
theorem ok23 : SpecOk Tryd.prog G0 130 s23 :=
  okOf (tbl := []) (N := 35) (sl := [0]) trivial Tryd.func130 (by kernel_rfl) (by kernel_rfl) (by
    intro args h K hk
    unfold s23 at hk
    split at hk
    · rename_i c
      have h0 := hk.1
      have h1 := hk.2.1
      have e : c = ((c.toNat : Nat) : Int) := (Int.toNat_of_nonneg h0).symm
      rw [e, body23 _ K, pc_cast (by omega)]
      exact hk.2.2
    · exact hk.elim)

/-! ### ref.check, ref.bit, the closure -/
def isChk (n : Nat) : Bool := n == 0 || n == 1 || n == 2 || n == 4 || n == 8 || n == 16 || n == 32
def s22 : Spec := fun args h K => match args, h with
  | [.int .i64 c], [] => 0 ≤ c ∧ K (.bool (isChk c.toNat)) []
  | _, _ => False
theorem ok22 : SpecOk Tryd.prog G0 111 s22 :=
  okOf (tbl := []) (N := 29) (sl := []) trivial Tryd.func111 (by kernel_rfl) (by kernel_rfl) (by
    intro args h K hk
    unfold s22 at hk
    split at hk
    · rename_i c
      obtain ⟨h0, hk⟩ := hk
      obtain ⟨n, rfl⟩ := nat_of h0
      rw [body22 n K]
      rw [Int.toNat_natCast] at hk
      have d : ∀ m : Nat, decide ((n : Int) = (m : Int)) = (n == m) := fun m => by
        by_cases e : n = m
        · subst e; simp
        · rw [decide_eq_false (by omega)]; simp [e]
      have e0 := d 0; have e1 := d 1; have e2 := d 2; have e4 := d 4; have e8 := d 8; have e16 := d 16; have e32 := d 32
      rw [show decide ((n : Int) = 0) = (n == 0) from e0, show decide ((n : Int) = 1) = (n == 1) from e1, show decide ((n : Int) = 2) = (n == 2) from e2, show decide ((n : Int) = 4) = (n == 4) from e4,
        show decide ((n : Int) = 8) = (n == 8) from e8, show decide ((n : Int) = 16) = (n == 16) from e16, show decide ((n : Int) = 32) = (n == 32) from e32]
      unfold isChk at hk
      cases h0 : (n == 0) <;> simp only [h0, Bool.true_or, Bool.false_or, cond_true, cond_false] at hk ⊢ <;> try exact hk
      cases h1 : (n == 1) <;> simp only [h1, Bool.true_or, Bool.false_or, cond_true, cond_false] at hk ⊢ <;> try exact hk
      cases h2 : (n == 2) <;> simp only [h2, Bool.true_or, Bool.false_or, cond_true, cond_false] at hk ⊢ <;> try exact hk
      cases h4 : (n == 4) <;> simp only [h4, Bool.true_or, Bool.false_or, cond_true, cond_false] at hk ⊢ <;> try exact hk
      cases h8 : (n == 8) <;> simp only [h8, Bool.true_or, Bool.false_or, cond_true, cond_false] at hk ⊢ <;> try exact hk
      cases h16 : (n == 16) <;> simp only [h16, Bool.true_or, Bool.false_or, cond_true, cond_false] at hk ⊢ <;> exact hk
    · exact hk.elim)
def s26 : Spec := fun args h K => match args, h with
  | [.int .u64 c, .int .i64 i], [] => 0 ≤ c ∧ c < 2 ^ 64 ∧ 0 ≤ i ∧ i < 64 ∧ K (.int .i64 ((c.toNat / 2 ^ i.toNat % 2 : Nat) : Int)) []
  | _, _ => False
theorem ok26 : SpecOk Tryd.prog G0 112 s26 :=
  okOf (tbl := []) (N := 11) (sl := []) trivial Tryd.func112 (by kernel_rfl) (by kernel_rfl) (by
    intro args h K hk
    unfold s26 at hk
    split at hk
    · rename_i c i
      obtain ⟨h0, h1, h2, h3, hk⟩ := hk
      obtain ⟨n, rfl⟩ := nat_of h0
      obtain ⟨j, rfl⟩ := nat_of h2
      have hj : j < 64 := by omega
      rw [body26 n j K]
      rw [Int.toNat_natCast, Int.toNat_natCast] at hk
      rw [wrap_cast .u64 (by rw [cap_u64]; omega), decide_eq_true (Int.natCast_nonneg j), cond_true, Int.toNat_natCast, Nat.min_eq_left (by omega)]
      rw [show ((2 : Int) ^ j) = ((2 ^ j : Nat) : Int) from by rw [Int.natCast_pow]; rfl, fdiv_cast, show (2 : Int) = ((2 : Nat) : Int) from rfl, tmod_cast, wrap_cast .i64 (by rw [cap_i64]; omega)]
      exact hk
    · exact hk.elim)
def s25 : Spec := fun args h K => match args, h with
  | [.int .i64 i, .pointer (some ⟨0, 0, some 0⟩)], [.cells true [.int .i64 x] ty mv] => 0 ≤ i ∧ i < 64 ∧ 0 ≤ x ∧ x < 64 ∧ K (.tuple #[]) [.cells true [.int .i64 ((x.toNat ^^^ i.toNat : Nat) : Int)] ty mv]
  | _, _ => False
theorem ok25 : SpecOk Tryd.prog G0 139 s25 :=
  okOf (tbl := []) (N := 6) (sl := [5]) trivial Tryd.func139 (by kernel_rfl) (by kernel_rfl) (by
    intro args h K hk
    unfold s25 at hk
    split at hk
    · rename_i i x ty mv
      obtain ⟨h0, h1, h2, h3, hk⟩ := hk
      obtain ⟨n, rfl⟩ := nat_of h0
      obtain ⟨j, rfl⟩ := nat_of h2
      rw [body25 n j ty mv K]
      rw [Int.toNat_natCast, Int.toNat_natCast] at hk
      rw [sealI_eq, iXor_cast .i64 (by rw [cap_i64]; omega) (by rw [cap_i64]; omega)]
      exact hk
    · exact hk.elim)
end Go.Am.Ham
