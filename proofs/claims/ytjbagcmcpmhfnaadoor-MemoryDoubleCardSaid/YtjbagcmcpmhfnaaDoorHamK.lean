/-
  Hamming: the loops of Encode, and Encode itself, of the code and of the reference. Own work.
-/
import Derived.Test.YtjbagcmcpmhfnaaDoorHamJ
namespace Go.Am.Ham
open Go Go.Am Go.Proofs
set_option maxRecDepth 100000

theorem two_pow_cast (n : Nat) : ((2 : Int) ^ n) = ((2 ^ n : Nat) : Int) := by rw [Int.natCast_pow]; rfl
theorem one_cast : (1 : Int) = ((1 : Nat) : Int) := rfl
theorem two_cast : (2 : Int) = ((2 : Nat) : Int) := rfl

theorem plN_lt (i : Nat) : plN i < 39 := by
  by_cases h : i < 32
  · have : ∀ j : Fin 32, plN j.val < 39 := by decide
    exact this ⟨i, h⟩
  · have : plN i = 0 := by
      unfold plN
      rw [List.getD_eq_getElem?_getD, List.getElem?_eq_none (show plT.length ≤ i from by simp [plT]; omega)]; rfl
    omega
theorem bit_mul_lt {b p : Nat} (hb : b < 2) (hp : p < 39) : b * 2 ^ p < 2 ^ 39 := by
  have h1 : b * 2 ^ p ≤ 1 * 2 ^ p := Nat.mul_le_mul_right _ (by omega)
  have h2 : 2 ^ p < 2 ^ 39 := Nat.pow_lt_pow_right (by omega) hp
  omega
theorem encA_lt (w : Nat) : ∀ n, encA w n < 2 ^ 39
  | 0 => by simp [encA]
  | n + 1 => by
    unfold encA
    exact Nat.or_lt_two_pow (encA_lt w n) (bit_mul_lt (Nat.mod_lt _ (by omega)) (plN_lt n))
theorem encB_lt (s : Nat) {x : Nat} (hx : x < 2 ^ 39) : ∀ n, n ≤ 6 → encB s x n < 2 ^ 39
  | 0, _ => hx
  | n + 1, h => by
    have := encB_lt s hx n (by omega)
    unfold encB
    split
    · refine Nat.or_lt_two_pow this ?_
      have h1 : 2 ^ n ≤ 2 ^ 5 := Nat.pow_le_pow_right (by omega) (by omega)
      exact Nat.pow_lt_pow_right (by omega) (by omega)
    · exact this

theorem encB_lt64 (s : Nat) {x : Nat} (hx : x < 2 ^ 64) : ∀ n, n ≤ 6 → encB s x n < 2 ^ 64
  | 0, _ => hx
  | n + 1, h => by
    have := encB_lt64 s hx n (by omega)
    unfold encB
    split
    · refine Nat.or_lt_two_pow this ?_
      have h1 : 2 ^ n ≤ 2 ^ 5 := Nat.pow_le_pow_right (by omega) (by omega)
      exact Nat.pow_lt_pow_right (by omega) (by omega)
    · exact this

theorem loop13a : ∀ e h k, T13a e h k → ∃ m, loopN c13 (codeOf Tryd.f110) 0 3 m e h k := by
  intro e h k hT
  unfold T13a at hT
  split at hT
  · rename_i w x a i
    obtain ⟨h0, h1, rfl, rfl, rfl, hk⟩ := hT
    obtain ⟨w, rfl⟩ := nat_of h0
    have h1 : w < 2 ^ 32 := by omega
    rw [Int.toNat_natCast] at hk
    refine ⟨33, ?_⟩
    have key : ∀ n i : Nat, i + n = 32 → loopN c13 (codeOf Tryd.f110) 0 3 (n + 1) [(0, .int .u32 (w : Nat)), (3, .int .u64 (encA w i : Nat)), (9, .agg ⟨plV⟩), (10, .int .i64 (i : Nat))] [] k := by
      intro n
      induction n with
      | zero =>
        intro i hi
        have : i = 32 := by omega
        subst this
        rw [loopN_succ]
        show t13a _ _ _ _
        rw [t13a_eq, decide_eq_false (by omega), cond_false]
        exact hk
      | succ n ih =>
        intro i hi
        rw [loopN_succ]
        show t13a _ _ _ _
        rw [t13a_eq, decide_eq_true (show (i : Int) < 32 by omega), cond_true]
        obtain ⟨v, e1, e2, e3⟩ := pl_facts ⟨i, by omega⟩
        have e1 : plN i = v := e1
        have e3 : plV.getD i undef = .int .i64 (v : Nat) := e3
        rw [Int.toNat_natCast, decide_eq_true (show (0 : Int) ≤ i by omega), decide_eq_true (show i + 1 ≤ 32 by omega)]
        simp only [Bool.and_self, cond_true]
        show cond (isInt .i64 (plV.getD i undef)) (∀ x1 : Int, x1 = intOf (plV.getD i undef) → _) False
        rw [e3]
        show ∀ x1 : Int, x1 = (v : Int) → _
        rintro _ rfl
        intro x2 hx2 x3 hx3 x4 hx4
        have hw : i < 32 := by omega
        rw [if_pos (by omega), two_pow_cast, fdiv_cast] at hx2
        rw [hx2, one_cast, iAnd_cast .u32 (Nat.lt_of_le_of_lt (Nat.div_le_self _ _) (by rw [cap_u32]; omega)) (by rw [cap_u32]; omega), and_one] at hx3
        rw [hx3, wrap_cast .u64 (by rw [cap_u64]; omega)] at hx4
        rw [decide_eq_true (show (0 : Int) ≤ v by omega), cond_true]
        intro x5 hx5 x6 hx6 x7 hx7
        have hb : w / 2 ^ i % 2 < 2 := Nat.mod_lt _ (by omega)
        have hv := plN_lt i
        rw [e1] at hv
        have hm := bit_mul_lt hb hv
        have ha := encA_lt w i
        rw [hx4, Int.toNat_natCast, if_pos (by omega), two_pow_cast, iMul_cast .u64 (by rw [cap_u64]; omega)] at hx5
        rw [hx5, iOr_cast .u64 (by rw [cap_u64]; omega) (by rw [cap_u64]; omega)] at hx6
        rw [one_cast, iAdd_cast .i64 (by rw [cap_i64]; omega)] at hx7
        rw [hx6, hx7]
        have := ih (i + 1) (by omega)
        unfold encA at this
        rw [e1] at this
        exact this
    have h := key 32 0 rfl
    rw [show ((encA w 0 : Nat) : Int) = 0 from rfl, show ((0 : Nat) : Int) = 0 from rfl] at h
    exact h
  · exact hT.elim

theorem loop13b : ∀ e h k, T13b e h k → ∃ m, loopN c13 (codeOf Tryd.f110) 1 9 m e h k := by
  intro e h k hT
  unfold T13b at hT
  split at hT
  · rename_i x s j
    obtain ⟨h0, h1, h2, h3, rfl, hk⟩ := hT
    obtain ⟨x, rfl⟩ := nat_of h0
    obtain ⟨s, rfl⟩ := nat_of h2
    have h1 : x < 2 ^ 64 := by omega
    rw [Int.toNat_natCast, Int.toNat_natCast] at hk
    refine ⟨7, ?_⟩
    have key : ∀ n i : Nat, i + n = 6 → loopN c13 (codeOf Tryd.f110) 1 9 (n + 1) [(3, .int .u64 (encB s x i : Nat)), (6, .int .i64 (s : Nat)), (8, .int .i64 ((2 ^ i : Nat) : Int))] [] k := by
      intro n
      induction n with
      | zero =>
        intro i hi
        have : i = 6 := by omega
        subst this
        rw [loopN_succ]
        show t13b _ _ _ _
        rw [t13b_eq, decide_eq_false (by omega), cond_false]
        exact hk
      | succ n ih =>
        intro i hi
        have hp : 2 ^ i ≤ 2 ^ 5 := Nat.pow_le_pow_right (by omega) (by omega)
        have hq : 2 ^ 2 ^ i < 2 ^ 33 := Nat.pow_lt_pow_right (by omega) (by omega)
        have hb := encB_lt64 s h1 i (by omega)
        have := ih (i + 1) (by omega)
        unfold encB at this
        rw [Nat.pow_succ] at this
        have h0' : 0 < 2 ^ i := Nat.two_pow_pos i
        generalize 2 ^ i = p at *
        rw [loopN_succ]
        show t13b _ _ _ _
        rw [t13b_eq, decide_eq_true (show (p : Int) ≤ 32 by omega), cond_true]
        intro x1 hx1
        rw [iAnd_cast .i64 (by rw [cap_i64]; omega) (by rw [cap_i64]; omega)] at hx1
        rw [hx1]
        have eM : iMul .i64 (p : Int) 2 = (p * 2 : Nat) := by rw [two_cast, iMul_cast .i64 (by rw [cap_i64]; omega)]
        by_cases hz : s &&& p = 0
        · rw [decide_eq_true (show ((s &&& p : Nat) : Int) = 0 by omega), Bool.not_true, cond_false]
          intro x2 hx2
          rw [eM] at hx2
          rw [if_neg (by omega)] at this
          rw [hx2]; exact this
        · rw [decide_eq_false (show ¬ ((s &&& p : Nat) : Int) = 0 by omega), Bool.not_false, cond_true, decide_eq_true (show (0 : Int) ≤ p by omega), cond_true]
          intro x3 hx3 x4 hx4 x5 hx5
          rw [Int.toNat_natCast, if_pos (by omega), two_pow_cast, one_cast, iMul_cast .u64 (by rw [cap_u64]; omega), Nat.one_mul] at hx3
          rw [hx3, iOr_cast .u64 (by rw [cap_u64]; omega) (by rw [cap_u64]; omega)] at hx4
          rw [eM] at hx5
          rw [if_pos hz] at this
          rw [hx4, hx5]; exact this
    have h := key 6 0 rfl
    rw [show encB s x 0 = x from rfl, show ((2 ^ 0 : Nat) : Int) = 1 from rfl] at h
    exact h
  · exact hT.elim

def encN (w : Nat) : Nat := encB (onesX (encA w 32)) (encA w 32) 6 ||| pcN (encB (onesX (encA w 32)) (encA w 32) 6) % 2
def s13 : Spec := fun args h K => match args, h with
  | [.int .u32 w], [] => 0 ≤ w ∧ w < 2 ^ 32 ∧ K (.int .u64 ((encN w.toNat : Nat) : Int)) []
  | _, _ => False
theorem onesX_lt (n : Nat) : onesX n < 64 := by
  induction n using Nat.strongRecOn with
  | ind n ih =>
    by_cases h : n = 0
    · subst h; rw [onesX_zero]; omega
    · rw [onesX_pos h]; exact xor64 (tzR_lt n) (ih _ (and_pred_lt h))

theorem ok13 : SpecOk Tryd.prog G0 110 s13 :=
  spec2 mixed tbl13_ok Tryd.func110 (by kernel_rfl : Tryd.f110.body = some (codeOf Tryd.f110)) c13 rfl rfl rfl (by kernel_rfl) (ids := [3, 9]) (by kernel_rfl) ⟨loop13a, loop13b, trivial⟩ (by
    intro args h K hk
    unfold s13 at hk
    split at hk
    · rename_i w
      have h0 := hk.1
      have h1 := hk.2.1
      replace hk := hk.2.2
      show b13 w K
      rw [b13_eq]
      have hA := encA_lt w.toNat 32
      refine ⟨h0, h1, rfl, rfl, rfl, by omega, by omega, ?_⟩
      intro x1 hx1 x2 _
      have hX := onesX_lt (encA w.toNat 32)
      rw [Int.toNat_natCast] at hx1
      refine ⟨by omega, by omega, by omega, by omega, rfl, ?_⟩
      subst hx1
      have hB := encB_lt (onesX (encA w.toNat 32)) hA 6 (by omega)
      rw [Int.toNat_natCast, Int.toNat_natCast]
      unfold encN at hk
      generalize encB (onesX (encA w.toNat 32)) (encA w.toNat 32) 6 = y at *
      refine ⟨by omega, by omega, ?_⟩
      intro x3 hx3 x4 hx4 x5 hx5 x6 hx6
      have hp := pcN_lt y
      rw [Int.toNat_natCast] at hx3
      rw [hx3, one_cast, iAnd_cast .i64 (by rw [cap_i64]; omega) (by rw [cap_i64]; omega), and_one] at hx4
      rw [hx4, wrap_cast .u64 (by rw [cap_u64]; omega)] at hx5
      rw [hx5, iOr_cast .u64 (by rw [cap_u64]; omega) (by rw [cap_u64]; omega)] at hx6
      rw [hx6]; exact hk
    · exact hk.elim)
end Go.Am.Ham
