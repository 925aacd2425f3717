/-
  Hamming: Decode, of the code and of the reference: the summaries. Own work.
-/
import Derived.Test.YtjbagcmcpmhfnaaDoorHamM
namespace Go.Am.Ham
open Go Go.Am Go.Proofs
set_option maxRecDepth 100000

theorem lenN_gt {n : Nat} (h : 2 ^ 39 ≤ n) : 39 < lenN n := by
  have h0 : n ≠ 0 := by omega
  unfold lenN
  rw [if_neg h0]
  have := (Nat.le_log2 h0).2 h
  omega
theorem flip_cast {c s : Nat} (hc : c < 2 ^ 39) (hs : s < 39) : iXor .u64 (c : Int) (iMul .u64 (1 : Int) ((2 : Int) ^ (if ((s : Nat) : Int).toNat ≤ 64 then ((s : Nat) : Int).toNat else 64))) = (c ^^^ 2 ^ s : Nat) ∧ c ^^^ 2 ^ s < 2 ^ 39 := by
  have h1 : 2 ^ s < 2 ^ 39 := Nat.pow_lt_pow_right (by omega) hs
  refine ⟨?_, Nat.xor_lt_two_pow hc h1⟩
  rw [Int.toNat_natCast, if_pos (by omega), two_pow_cast, one_cast, iMul_cast .u64 (by rw [cap_u64]; omega), Nat.one_mul, iXor_cast .u64 (by rw [cap_u64]; omega) (by rw [cap_u64]; omega)]

theorem ok9 : SpecOk Tryd.prog G0 113 s9 :=
  spec2 mixed tbl9_ok Tryd.func113 (by kernel_rfl : Tryd.f113.body = some (codeOf Tryd.f113)) c9 rfl rfl rfl (by kernel_rfl) (ids := []) (by kernel_rfl) trivial (by
    intro args h K hk
    unfold s9 at hk
    split at hk
    · rename_i c
      have h0 := hk.1
      have h1 := hk.2.1
      replace hk := hk.2.2
      show b9 c K
      obtain ⟨c, rfl⟩ := nat_of h0
      rw [Int.toNat_natCast] at hk
      rw [b9_eq, Int.toNat_natCast]
      refine ⟨h0, by omega, ?_⟩
      rintro _ rfl
      unfold decN at hk
      by_cases hc : 2 ^ 39 ≤ c
      · rw [if_pos hc] at hk
        have := lenN_gt hc
        rw [decide_eq_true (show ((lenN c : Nat) : Int) > 39 by omega), cond_true]
        exact hk
      · rw [if_neg hc] at hk
        have := lenN_le (show c < 2 ^ 39 by omega)
        rw [decide_eq_false (show ¬ ((lenN c : Nat) : Int) > 39 by omega), cond_false]
        refine ⟨h0, by omega, ?_⟩
        rintro _ rfl _ rfl
        have hp : pcN c % 2 < 2 := Nat.mod_lt _ (by omega)
        by_cases h2 : pcN c % 2 = 1
        · rw [decide_eq_true (show ((pcN c % 2 : Nat) : Int) = 1 by omega), cond_true]
          by_cases h3 : onesX c < 39
          · rw [if_pos ⟨h2, h3⟩] at hk
            rw [decide_eq_true (show ((onesX c : Nat) : Int) < 39 by omega), cond_true, decide_eq_true (show (0 : Int) ≤ (onesX c : Nat) by omega), cond_true]
            obtain ⟨e1, e2⟩ := flip_cast (show c < 2 ^ 39 by omega) h3
            rintro _ rfl
            rw [e1]
            rintro _ rfl
            refine ⟨by omega, by omega, ?_⟩
            rintro _ rfl
            rw [Int.toNat_natCast]
            exact hk
          · rw [if_neg (by omega), if_neg (by omega)] at hk
            rw [decide_eq_false (show ¬ ((onesX c : Nat) : Int) < 39 by omega), cond_false, decide_eq_false (show ¬ ((pcN c % 2 : Nat) : Int) = 0 by omega), cond_false]
            exact hk
        · rw [decide_eq_false (show ¬ ((pcN c % 2 : Nat) : Int) = 1 by omega), cond_false, decide_eq_true (show ((pcN c % 2 : Nat) : Int) = 0 by omega), cond_true]
          rw [if_neg (by omega)] at hk
          by_cases h3 : onesX c = 0
          · rw [if_pos ⟨by omega, h3⟩] at hk
            rw [decide_eq_true (show ((onesX c : Nat) : Int) = 0 by omega), cond_true]
            refine ⟨h0, by omega, ?_⟩
            rintro _ rfl
            exact hk
          · rw [if_neg (by omega)] at hk
            rw [decide_eq_false (show ¬ ((onesX c : Nat) : Int) = 0 by omega), cond_false]
            exact hk
    · exact hk.elim)

theorem ok10 : SpecOk Tryd.prog G0 116 s10 :=
  spec2 mixed tbl10_ok Tryd.func116 (by kernel_rfl : Tryd.f116.body = some (codeOf Tryd.f116)) c10 rfl rfl rfl (by kernel_rfl) (ids := []) (by kernel_rfl) trivial (by
    intro args h K hk
    unfold s10 at hk
    split at hk
    · rename_i c
      have h0 := hk.1
      have h1 := hk.2.1
      replace hk := hk.2.2
      show b10 c K
      obtain ⟨c, rfl⟩ := nat_of h0
      rw [Int.toNat_natCast] at hk
      rw [b10_eq, Int.toNat_natCast]
      rw [show (549755813888 : Int) = ((549755813888 : Nat) : Int) from rfl, fdiv_cast]
      rintro _ rfl
      unfold decR at hk
      by_cases hc : 2 ^ 39 ≤ c
      · rw [if_pos hc] at hk
        rw [decide_eq_false (show ¬ ((c / 549755813888 : Nat) : Int) = 0 by omega), Bool.not_false, cond_true]
        exact hk
      · rw [if_neg hc] at hk
        rw [decide_eq_true (show ((c / 549755813888 : Nat) : Int) = 0 by omega), Bool.not_true, cond_false]
        refine ⟨h0, by omega, ?_⟩
        rintro _ rfl _ rfl
        have hp := parB_le c.testBit 39
        generalize parB c.testBit 39 = p at *
        generalize synB c.testBit 39 = s at *
        have fin : ∀ K' : Prop, (p = 1 ∧ s < 39 → K (.tuple #[.int .u32 ((wordN (c ^^^ 2 ^ s) 32 : Nat) : Int), .int .i64 1, .int .i64 0]) []) → (¬ (p = 1 ∧ s < 39) → K (.tuple #[.int .u32 0, .int .i64 2, .int .i64 0]) []) →
            cond (decide ((p : Int) = 1)) (cond (decide ((s : Int) < 39)) (∀ x4 : Int, x4 = IntKind.wrap .u64 (s : Int) → cond (decide (0 ≤ x4)) (∀ x5 : Int, x5 = iMul .u64 1 (2 ^ (if x4.toNat ≤ 64 then x4.toNat else 64)) → ∀ x6 : Int, x6 = iXor .u64 (c : Int) x5 → 0 ≤ x6 ∧ x6 < 18446744073709551616 ∧
              ∀ x7 : Int, x7 = ((wordN x6.toNat 32 : Nat) : Int) → K (.tuple ⟨[.int .u32 x7, .int .i64 1, .int .i64 0]⟩) []) False) (K (.tuple ⟨[.int .u32 0, .int .i64 2, .int .i64 0]⟩) [])) (K (.tuple ⟨[.int .u32 0, .int .i64 2, .int .i64 0]⟩) []) := by
          intro _ f1 f2
          by_cases h2 : p = 1
          · rw [decide_eq_true (show (p : Int) = 1 by omega), cond_true]
            by_cases h3 : s < 39
            · rw [decide_eq_true (show (s : Int) < 39 by omega), cond_true]
              rw [wrap_cast .u64 (by rw [cap_u64]; omega)]
              rintro _ rfl
              rw [decide_eq_true (show (0 : Int) ≤ (s : Nat) by omega), cond_true]
              obtain ⟨e1, e2⟩ := flip_cast (show c < 2 ^ 39 by omega) h3
              rintro _ rfl
              rw [e1]
              rintro _ rfl
              refine ⟨by omega, by omega, ?_⟩
              rintro _ rfl
              rw [Int.toNat_natCast]
              exact f1 ⟨h2, h3⟩
            · rw [decide_eq_false (show ¬ (s : Int) < 39 by omega), cond_false]
              exact f2 (by omega)
          · rw [decide_eq_false (show ¬ (p : Int) = 1 by omega), cond_false]
            exact f2 (by omega)
        by_cases h2 : s = 0
        · rw [decide_eq_true (show ((s : Nat) : Int) = 0 by omega), cond_true]
          by_cases h3 : p = 0
          · rw [if_pos ⟨h2, h3⟩] at hk
            rw [decide_eq_true (show ((p : Nat) : Int) = 0 by omega), cond_true]
            refine ⟨h0, by omega, ?_⟩
            rintro _ rfl
            exact hk
          · rw [if_neg (by omega)] at hk
            rw [decide_eq_false (show ¬ ((p : Nat) : Int) = 0 by omega), cond_false]
            refine fin True (fun hc => ?_) (fun hc => ?_)
            · rw [if_pos hc] at hk; exact hk
            · rw [if_neg hc] at hk; exact hk
        · rw [if_neg (by omega)] at hk
          rw [decide_eq_false (show ¬ ((s : Nat) : Int) = 0 by omega), cond_false]
          refine fin True (fun hc => ?_) (fun hc => ?_)
          · rw [if_pos hc] at hk; exact hk
          · rw [if_neg hc] at hk; exact hk
    · exact hk.elim)
end Go.Am.Ham
