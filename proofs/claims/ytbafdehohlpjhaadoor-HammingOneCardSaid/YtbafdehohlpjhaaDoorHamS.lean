/-
  Hamming: the statements' own functions return true. Own work.
-/
import Derived.Test.YtbafdehohlpjhaaDoorHamR
namespace Go.Am.Ham
open Go Go.Am Go.Proofs
set_option maxRecDepth 100000

theorem ok15 : SpecOk Tryd.prog G0 15 s15 :=
  spec2 mixed tblL0_ok Tryd.func15 (by kernel_rfl : Tryd.f15.body = some (codeOf Tryd.f15)) c15 rfl rfl rfl (by kernel_rfl) (ids := []) (by kernel_rfl) trivial (by
    intro args h K hk
    unfold s15 at hk
    split at hk
    · show b15 K
      rw [b15_eq]
      refine ⟨by omega, by omega, ?_⟩
      rintro _ rfl _ rfl _ rfl
      refine ⟨by omega, by omega, ?_⟩
      rintro _ rfl _ rfl _ rfl _ rfl
      refine ⟨by omega, by omega, ?_⟩
      rintro _ rfl
      rw [decide_eq_true rfl, cond_true]
      refine ⟨by omega, by omega, ?_⟩
      rintro _ rfl
      rw [decide_eq_true (show (51 : Int) = 51 from rfl), cond_true, decide_eq_true (show (1 : Int) = 1 from rfl), cond_true, cond_true, decide_eq_true (show (0 : Int) = 0 from rfl), cond_true, cond_true, decide_eq_true (show (2 : Int) = 2 from rfl), cond_true, cond_true, decide_eq_true (show (38 : Int) = 38 from rfl), cond_true]
      exact hk
    · exact hk.elim)
theorem tblL_ok : AllOk Tryd.prog G0 tblL := ⟨ok9, ok10b, ok11b, ok12c, ok13, ok14b, ok15, trivial⟩

theorem dec_tf {p : Prop} [Decidable p] (h : p) : (!decide p) = false := by rw [decide_eq_true h]; rfl

/-! ### Codes -/
theorem plI_clamp (i : Int) (h : ¬ i < 0) (x16 x17 : Int) (h16 : x16 = if (1000 : Int) < i then 1000 else i) (h17 : x17 = if x16 > -1 then x16 else -1) : plI i = plI x17 ∧ plO i = plO x17 ∧ -1 ≤ x17 ∧ x17 ≤ 1000 := by
  by_cases h1 : (1000 : Int) < i
  · rw [if_pos h1] at h16
    subst h16
    rw [if_pos (by omega)] at h17
    subst h17
    refine ⟨?_, ?_, by omega, by omega⟩
    · unfold plI; rw [if_neg (by omega), if_neg (by omega)]
    · unfold plO; rw [decide_eq_false (show ¬ i < 32 by omega), Bool.and_false]; rfl
  · rw [if_neg h1] at h16
    subst h16
    rw [if_pos (by omega)] at h17
    subst h17
    exact ⟨rfl, rfl, by omega, by omega⟩
theorem clamp_neg (i x16 x17 : Int) (h : i < 0) (h16 : x16 = if (1000 : Int) < i then 1000 else i) (h17 : x17 = if x16 > -1 then x16 else -1) : -1 ≤ x17 ∧ x17 ≤ 1000 := by
  rw [if_neg (by omega)] at h16
  subst h16
  rw [if_neg (by omega)] at h17
  omega
def s3 : Spec := fun args h K => match args, h with
  | [.int .u32 w, .int .u64 c, .int .i64 _], [] => 0 ≤ w ∧ w < 2 ^ 32 ∧ 0 ≤ c ∧ c < 2 ^ 64 ∧ K (.bool true) []
  | _, _ => False
theorem ok3 : SpecOk Tryd.prog G0 3 s3 :=
  spec2 mixed tblL_ok Tryd.func3 (by kernel_rfl : Tryd.f3.body = some (codeOf Tryd.f3)) c3 rfl rfl rfl (by kernel_rfl) (ids := []) (by kernel_rfl) trivial (by
    intro args h K hk
    unfold s3 at hk
    split at hk
    · rename_i w c i
      have w0 := hk.1
      have w1 := hk.2.1
      have c0 := hk.2.2.1
      have c1 := hk.2.2.2.1
      replace hk := hk.2.2.2.2
      have c1 : c < 18446744073709551616 := by omega
      have w1 : w < 4294967296 := by omega
      have hr : 0 ≤ Int.tmod c 549755813888 ∧ Int.tmod c 549755813888 < 18446744073709551616 := by
        rw [Int.tmod_eq_emod_of_nonneg c0]; omega
      show b3L w c i K
      rw [b3_eq]
      refine ⟨c0, c1, ?_⟩
      rintro x1 e1 x2 e2 x3 e3
      refine ⟨c0, c1, ?_⟩
      rintro x4 e4 x5 e5 x6 e6 x7 e7
      rw [← e7] at hr
      refine ⟨hr.1, hr.2, ?_⟩
      rintro x8 e8 x9 e9 x10 e10 x11 e11
      rw [← e7] at e11
      subst e11
      refine ⟨hr.1, hr.2, ?_⟩
      rintro x12 e12 x13 e13 x14 e14 x15 e15 x16 e16 x17 e17
      have q1 : x1 = x4 := by rw [e1, e4]
      have q2 : x2 = x5 := by rw [e2, e5]
      have q3 : x3 = x6 := by rw [e3, e6]
      have q4 : x8 = x12 := by rw [e8, e12]
      have q5 : x9 = x13 := by rw [e9, e13]
      have q6 : x10 = x14 := by rw [e10, e14]
      by_cases hi : i < 0
      · obtain ⟨r1, r2⟩ := clamp_neg i x16 x17 hi e16 e17
        refine ⟨r1, r2, ?_⟩
        rintro x18 _
        rw [decide_eq_true hi, cond_true]
        refine ⟨w0, w1, ?_⟩
        rintro x21 e21
        refine ⟨w0, w1, ?_⟩
        rintro x22 e22
        have z1 : x15 = 0 := by rw [e15]; unfold plI; rw [if_neg (by omega)]; rfl
        have z2 : plO i = false := by unfold plO; rw [decide_eq_false (show ¬ 0 ≤ i by omega)]; rfl
        rw [decide_eq_true (show x21 = x22 by rw [e21, e22]), cond_true, decide_eq_true q1, cond_true, decide_eq_true q2, cond_true, decide_eq_true q3, cond_true, decide_eq_true q4, cond_true, decide_eq_true q5, cond_true, decide_eq_true q6, cond_true, decide_eq_true z1, cond_true, decide_eq_true z2, cond_true]
        exact hk
      · obtain ⟨p1, p2, r1, r2⟩ := plI_clamp i hi x16 x17 e16 e17
        refine ⟨r1, r2, ?_⟩
        rintro x18 e18
        rw [decide_eq_false hi, cond_false]
        refine ⟨w0, w1, ?_⟩
        rintro x21 e21
        refine ⟨w0, w1, ?_⟩
        rintro x22 e22
        rw [decide_eq_true (show x21 = x22 by rw [e21, e22]), cond_true, decide_eq_true q1, cond_true, decide_eq_true q2, cond_true, decide_eq_true q3, cond_true, decide_eq_true q4, cond_true, decide_eq_true q5, cond_true, decide_eq_true q6, cond_true, decide_eq_true (show x15 = x18 by rw [e15, e18, p1]), cond_true, decide_eq_true p2, cond_true]
        exact hk
    · exact hk.elim)

/-! ### Clean -/
theorem encN_lt (w : Nat) : encN w < 2 ^ 39 := by rw [enc_eq]; exact encR_lt w
theorem bit_of (c i : Nat) : c / 2 ^ i % 2 = if c.testBit i then 1 else 0 := by
  rw [Nat.testBit_eq_decide_div_mod_eq]
  by_cases h : c / 2 ^ i % 2 = 1
  · rw [decide_eq_true h, h]; rfl
  · rw [decide_eq_false h]; have := Nat.mod_lt (c / 2 ^ i) (show 0 < 2 by omega); simp; omega
theorem prev_lt : ∀ i : Fin 32, prevP i.val < plN i.val := by decide
theorem loop4 : ∀ e h k, T4 e h k → ∃ m, loopN c4 (codeOf Tryd.f4) 0 7 m e h k := by
  intro e h k hT
  unfold T4 at hT
  split at hT
  · rename_i w c l i
    have h0 := hT.1
    have h1 := hT.2.1
    obtain ⟨rfl, rfl, rfl, hk⟩ := hT.2.2
    obtain ⟨w, rfl⟩ := nat_of h0
    rw [Int.toNat_natCast]
    refine ⟨33, ?_⟩
    have key : ∀ n i : Nat, i + n = 32 → loopN c4 (codeOf Tryd.f4) 0 7 (n + 1) [(0, .int .u32 (w : Nat)), (3, .int .u64 (encN w : Nat)), (7, .int .i64 (prevP i : Nat)), (8, .int .i64 (i : Nat))] [] k := by
      intro n
      induction n with
      | zero =>
        intro i hi
        have : i = 32 := by omega
        subst this
        rw [loopN_succ]
        show t4 _ _ _ _ _
        rw [t4_eq, decide_eq_false (by omega), cond_false]
        exact hk
      | succ n ih =>
        intro i hi
        have hi2 : i < 32 := by omega
        have hv := plN_lt i
        have hpv := prev_lt ⟨i, hi2⟩
        simp only at hpv
        rw [loopN_succ]
        show t4 _ _ _ _ _
        rw [t4_eq, decide_eq_true (show (i : Int) < 32 by omega), cond_true]
        intro x1 hx1
        have hx1 : x1 = ((plN i : Nat) : Int) := by rw [hx1]; unfold plI; rw [if_pos (by omega), Int.toNat_natCast]
        subst hx1
        have ho : plO (i : Int) = true := by unfold plO; rw [decide_eq_true (show (0 : Int) ≤ i by omega), decide_eq_true (show (i : Int) < 32 by omega)]; rfl
        rw [ho, Bool.not_true, cond_false, decide_eq_false (by omega), cond_false, decide_eq_false (by omega), cond_false]
        intro x2 hx2
        rw [wrap_cast .u64 (by rw [cap_u64]; omega)] at hx2
        subst hx2
        rw [decide_eq_true (show (0 : Int) ≤ (plN i : Nat) by omega), cond_true]
        intro x3 hx3 x4 hx4 x5 hx5
        rw [Int.toNat_natCast, if_pos (by omega), two_pow_cast, fdiv_cast] at hx3
        rw [hx3, two_cast, tmod_cast, bit_of, enc_eq, encR_data w hi2] at hx4
        rw [wrap_cast .u64 (by rw [cap_u64]; omega)] at hx5
        subst hx5
        rw [decide_eq_true (show (0 : Int) ≤ i by omega), cond_true]
        intro x6 hx6 x7 hx7 x8 hx8
        rw [Int.toNat_natCast, if_pos (by omega), two_pow_cast, fdiv_cast] at hx6
        rw [hx6, two_cast, tmod_cast, bit_of] at hx7
        rw [hx7, wrap_cast .u64 (by rw [cap_u64]; split <;> omega)] at hx8
        rw [dec_tf (show x4 = x8 by rw [hx4, hx8]), cond_false]
        intro x9 hx9
        rw [one_cast, iAdd_cast .i64 (by rw [cap_i64]; omega)] at hx9
        rw [hx9]
        exact ih (i + 1) (by omega)
    have h := key 32 0 rfl
    rw [show ((prevP 0 : Nat) : Int) = 0 from rfl, show ((0 : Nat) : Int) = 0 from rfl] at h
    exact h
  · exact hT.elim
def s4 : Spec := fun args h K => match args, h with
  | [.int .u32 w], [] => 0 ≤ w ∧ w < 2 ^ 32 ∧ K (.bool true) []
  | _, _ => False
theorem ok4 : SpecOk Tryd.prog G0 4 s4 :=
  spec2 mixed tblL_ok Tryd.func4 (by kernel_rfl : Tryd.f4.body = some (codeOf Tryd.f4)) c4 rfl rfl rfl (by kernel_rfl) (ids := [7]) (by kernel_rfl) ⟨loop4, trivial⟩ (by
    intro args h K hk
    unfold s4 at hk
    split at hk
    · rename_i w
      have w0 := hk.1
      have w1 := hk.2.1
      replace hk := hk.2.2
      obtain ⟨w, rfl⟩ := nat_of w0
      have w2 : w < 2 ^ 32 := by omega
      have hE := encN_lt w
      show b4 _ K
      rw [b4_eq]
      refine ⟨w0, by omega, ?_⟩
      rw [Int.toNat_natCast]
      rintro _ rfl
      refine ⟨by omega, by omega, ?_⟩
      have hd : decN (encN w) = (w, 0, 0) := by rw [dec_eq, enc_eq, decR_clean (encR_valid w), word_enc w2]
      rw [Int.toNat_natCast, hd]
      rintro x2 e2 x3 e3 x4 e4
      rw [decide_eq_false (show ¬ ((encN w : Nat) : Int) ≥ 549755813888 by omega), cond_false, dec_tf (show x2 = (w : Int) from e2), cond_false, dec_tf (show x3 = 0 from e3), cond_false, dec_tf (show x4 = 0 from e4), cond_false]
      exact ⟨w0, by omega, rfl, rfl, rfl, hk⟩
    · exact hk.elim)

/-! ### One -/
theorem flip2 {c i : Nat} (hc : c < 2 ^ 39) (hi : i < 39) {x2 x3 : Int} (h2 : x2 = iMul .u64 1 (2 ^ (if ((i : Nat) : Int).toNat ≤ 64 then ((i : Nat) : Int).toNat else 64))) (h3 : x3 = iXor .u64 (c : Int) x2) : x3 = ((c ^^^ 2 ^ i : Nat) : Int) := by
  rw [h3, h2, (flip_cast hc hi).1]
theorem loop5 : ∀ e h k, T5 e h k → ∃ m, loopN c5 (codeOf Tryd.f5) 0 3 m e h k := by
  intro e h k hT
  unfold T5 at hT
  split at hT
  · rename_i w c i
    have h0 := hT.1
    have h1 := hT.2.1
    obtain ⟨rfl, rfl, hk⟩ := hT.2.2
    obtain ⟨w, rfl⟩ := nat_of h0
    rw [Int.toNat_natCast]
    have w2 : w < 2 ^ 32 := by omega
    refine ⟨40, ?_⟩
    have key : ∀ n i : Nat, i + n = 39 → loopN c5 (codeOf Tryd.f5) 0 3 (n + 1) [(0, .int .u32 (w : Nat)), (3, .int .u64 (encN w : Nat)), (4, .int .i64 (i : Nat))] [] k := by
      intro n
      induction n with
      | zero =>
        intro i hi
        have : i = 39 := by omega
        subst this
        rw [loopN_succ]
        show t5 _ _ _ _
        rw [t5_eq, decide_eq_false (by omega), cond_false]
        exact hk
      | succ n ih =>
        intro i hi
        have hi2 : i < 39 := by omega
        have hE := encN_lt w
        rw [loopN_succ]
        show t5 _ _ _ _
        rw [t5_eq, decide_eq_true (show (i : Int) < 39 by omega), cond_true]
        intro x1 hx1
        rw [wrap_cast .u64 (by rw [cap_u64]; omega)] at hx1
        subst hx1
        rw [decide_eq_true (show (0 : Int) ≤ i by omega), cond_true]
        intro x2 hx2 x3 hx3
        have hx3 := flip2 hE hi2 hx2 hx3
        have hl := flip_lt hE hi2
        subst hx3
        refine ⟨by omega, by omega, ?_⟩
        have hd : decN (encN w ^^^ 2 ^ i) = (w, 1, 0) := by rw [dec_eq, enc_eq, decR_one (encR_valid w) hi2, word_enc w2]
        rw [Int.toNat_natCast, hd]
        rintro x4 e4 x5 e5 x6 e6
        rw [dec_tf (show x4 = (w : Int) from e4), cond_false, dec_tf (show x5 = 1 from e5), cond_false, dec_tf (show x6 = 0 from e6), cond_false]
        intro x7 hx7
        rw [one_cast, iAdd_cast .i64 (by rw [cap_i64]; omega)] at hx7
        rw [hx7]
        exact ih (i + 1) (by omega)
    have h := key 39 0 rfl
    rw [show ((0 : Nat) : Int) = 0 from rfl] at h
    exact h
  · exact hT.elim
theorem ok5 : SpecOk Tryd.prog G0 5 s4 :=
  spec2 mixed tblL_ok Tryd.func5 (by kernel_rfl : Tryd.f5.body = some (codeOf Tryd.f5)) c5 rfl rfl rfl (by kernel_rfl) (ids := [3]) (by kernel_rfl) ⟨loop5, trivial⟩ (by
    intro args h K hk
    unfold s4 at hk
    split at hk
    · rename_i w
      have w0 := hk.1
      have w1 := hk.2.1
      replace hk := hk.2.2
      show b5 _ K
      rw [b5_eq]
      refine ⟨w0, by omega, ?_⟩
      rintro _ rfl
      exact ⟨w0, by omega, rfl, rfl, hk⟩
    · exact hk.elim)

/-! ### Two -/
theorem loop6b : ∀ e h k, T6b e h k → ∃ m, loopN c6 (codeOf Tryd.f6) 1 6 m e h k := by
  intro e h k hT
  unfold T6b at hT
  split at hT
  · rename_i c i j
    obtain ⟨h0, hv, h1, h2, rfl, hk⟩ := hT
    obtain ⟨c, rfl⟩ := nat_of h0
    obtain ⟨i, rfl⟩ := nat_of h1
    rw [Int.toNat_natCast] at hv
    have hi2 : i < 39 := by omega
    refine ⟨38 - i + 1, ?_⟩
    have key : ∀ n j : Nat, j + n = 39 → i < j → loopN c6 (codeOf Tryd.f6) 1 6 (n + 1) [(3, .int .u64 (c : Nat)), (4, .int .i64 (i : Nat)), (5, .int .i64 (j : Nat))] [] k := by
      intro n
      induction n with
      | zero =>
        intro j hj _
        have : j = 39 := by omega
        subst this
        rw [loopN_succ]
        show t6b _ _ _ _
        rw [t6b_eq, decide_eq_false (by omega), cond_false]
        exact hk
      | succ n ih =>
        intro j hj hij
        have hj2 : j < 39 := by omega
        rw [loopN_succ]
        show t6b _ _ _ _
        rw [t6b_eq, decide_eq_true (show (j : Int) < 39 by omega), cond_true]
        intro x1 hx1
        rw [wrap_cast .u64 (by rw [cap_u64]; omega)] at hx1
        subst hx1
        rw [decide_eq_true (show (0 : Int) ≤ i by omega), cond_true]
        intro x2 hx2 x3 hx3
        have hx3 := flip2 hv.1 hi2 hx2 hx3
        have hl := flip_lt hv.1 hi2
        subst hx3
        intro x4 hx4
        rw [wrap_cast .u64 (by rw [cap_u64]; omega)] at hx4
        subst hx4
        rw [decide_eq_true (show (0 : Int) ≤ j by omega), cond_true]
        intro x5 hx5 x6 hx6
        have hx6 := flip2 hl hj2 hx5 hx6
        have hl2 := flip_lt hl hj2
        subst hx6
        refine ⟨by omega, by omega, ?_⟩
        have hd : decN (c ^^^ 2 ^ i ^^^ 2 ^ j) = (0, 2, 0) := by rw [dec_eq, decR_two hv hi2 hj2 (by omega)]
        rw [Int.toNat_natCast, hd]
        rintro x7 e7 x8 e8 x9 e9
        rw [dec_tf (show x7 = 0 from e7), cond_false, dec_tf (show x8 = 2 from e8), cond_false, dec_tf (show x9 = 0 from e9), cond_false]
        intro x10 hx10
        rw [one_cast, iAdd_cast .i64 (by rw [cap_i64]; omega)] at hx10
        rw [hx10]
        exact ih (j + 1) (by omega) (by omega)
    have h := key (38 - i) (i + 1) (by omega) (by omega)
    rw [show ((i + 1 : Nat) : Int) = (i : Int) + 1 from by omega] at h
    exact h
  · exact hT.elim
theorem loop6a : ∀ e h k, T6a e h k → ∃ m, loopN c6 (codeOf Tryd.f6) 0 3 m e h k := by
  intro e h k hT
  unfold T6a at hT
  split at hT
  · rename_i c i
    obtain ⟨h0, hv, rfl, hk⟩ := hT
    refine ⟨40, ?_⟩
    have key : ∀ n i : Nat, i + n = 39 → loopN c6 (codeOf Tryd.f6) 0 3 (n + 1) [(3, .int .u64 c), (4, .int .i64 (i : Nat))] [] k := by
      intro n
      induction n with
      | zero =>
        intro i hi
        have : i = 39 := by omega
        subst this
        rw [loopN_succ]
        show t6a _ _ _
        rw [t6a_eq, decide_eq_false (by omega), cond_false]
        exact hk
      | succ n ih =>
        intro i hi
        rw [loopN_succ]
        show t6a _ _ _
        rw [t6a_eq, decide_eq_true (show (i : Int) < 39 by omega), cond_true]
        intro x1 hx1
        rw [one_cast, iAdd_cast .i64 (by rw [cap_i64]; omega)] at hx1
        refine ⟨h0, hv, by omega, by omega, by omega, ?_⟩
        intro x2 hx2
        rw [one_cast, iAdd_cast .i64 (by rw [cap_i64]; omega)] at hx2
        rw [hx2]
        exact ih (i + 1) (by omega)
    have h := key 39 0 rfl
    rw [show ((0 : Nat) : Int) = 0 from rfl] at h
    exact h
  · exact hT.elim
theorem ok6 : SpecOk Tryd.prog G0 6 s4 :=
  spec2 mixed tblL_ok Tryd.func6 (by kernel_rfl : Tryd.f6.body = some (codeOf Tryd.f6)) c6 rfl rfl rfl (by kernel_rfl) (ids := [3, 6]) (by kernel_rfl) ⟨loop6a, loop6b, trivial⟩ (by
    intro args h K hk
    unfold s4 at hk
    split at hk
    · rename_i w
      have w0 := hk.1
      have w1 := hk.2.1
      replace hk := hk.2.2
      show b6 _ K
      rw [b6_eq]
      refine ⟨w0, by omega, ?_⟩
      rintro _ rfl
      refine ⟨by omega, ?_, rfl, hk⟩
      rw [Int.toNat_natCast, enc_eq]
      exact encR_valid _
    · exact hk.elim)

/-! ### Distance -/
/-- One round of a count of bits. -/
theorem cnt_round {c i : Nat} (hi : i < 64) {x1 x2 x3 x4 x5 : Int} (h1 : x1 = IntKind.wrap .u64 (i : Int)) (h2 : x2 = Int.fdiv (c : Int) (2 ^ (if x1.toNat ≤ 64 then x1.toNat else 64))) (h3 : x3 = Int.tmod x2 2) (h4 : x4 = IntKind.wrap .i64 x3)
    (h5 : x5 = iAdd .i64 ((cnt c.testBit i : Nat) : Int) x4) : x5 = ((cnt c.testBit (i + 1) : Nat) : Int) := by
  rw [wrap_cast .u64 (by rw [cap_u64]; omega)] at h1
  rw [h1, Int.toNat_natCast, if_pos (by omega), two_pow_cast, fdiv_cast] at h2
  rw [h2, two_cast, tmod_cast] at h3
  rw [h3, wrap_cast .i64 (by rw [cap_i64]; omega)] at h4
  have hc := cnt_le c.testBit i
  rw [h4, iAdd_cast .i64 (by rw [cap_i64]; omega), bit_of] at h5
  rw [h5, cnt_succ]
theorem loop7 : ∀ e h k, T7 e h k → ∃ m, loopN c7 (codeOf Tryd.f7) 0 4 m e h k := by
  intro e h k hT
  unfold T7 at hT
  split at hT
  · rename_i v w c n0 i
    obtain ⟨h0, h1, rfl, rfl, hk⟩ := hT
    obtain ⟨c, rfl⟩ := nat_of h0
    rw [Int.toNat_natCast] at hk
    refine ⟨65, ?_⟩
    have key : ∀ n i : Nat, i + n = 64 → loopN c7 (codeOf Tryd.f7) 0 4 (n + 1) [(0, .int .u32 v), (1, .int .u32 w), (5, .int .u64 (c : Nat)), (6, .int .i64 (cnt c.testBit i : Nat)), (7, .int .i64 (i : Nat))] [] k := by
      intro n
      induction n with
      | zero =>
        intro i hi
        have : i = 64 := by omega
        subst this
        rw [loopN_succ]
        show t7 _ _ _ _ _ _
        rw [t7_eq, decide_eq_false (by omega), cond_false]
        exact hk
      | succ n ih =>
        intro i hi
        rw [loopN_succ]
        show t7 _ _ _ _ _ _
        rw [t7_eq, decide_eq_true (show (i : Int) < 64 by omega), cond_true]
        intro x1 hx1
        rw [decide_eq_true (show (0 : Int) ≤ x1 by rw [hx1, wrap_cast .u64 (by rw [cap_u64]; omega)]; omega), cond_true]
        intro x2 hx2 x3 hx3 x4 hx4 x5 hx5 x6 hx6
        rw [cnt_round (show i < 64 by omega) hx1 hx2 hx3 hx4 hx5]
        rw [one_cast, iAdd_cast .i64 (by rw [cap_i64]; omega)] at hx6
        rw [hx6]
        exact ih (i + 1) (by omega)
    have h := key 64 0 rfl
    rw [show ((cnt c.testBit 0 : Nat) : Int) = 0 from rfl, show ((0 : Nat) : Int) = 0 from rfl] at h
    exact h
  · exact hT.elim
def s7 : Spec := fun args h K => match args, h with
  | [.int .u32 v, .int .u32 w], [] => 0 ≤ v ∧ v < 2 ^ 32 ∧ 0 ≤ w ∧ w < 2 ^ 32 ∧ K (.bool true) []
  | _, _ => False
theorem ok7 : SpecOk Tryd.prog G0 7 s7 :=
  spec2 mixed tblL_ok Tryd.func7 (by kernel_rfl : Tryd.f7.body = some (codeOf Tryd.f7)) c7 rfl rfl rfl (by kernel_rfl) (ids := [4]) (by kernel_rfl) ⟨loop7, trivial⟩ (by
    intro args h K hk
    unfold s7 at hk
    split at hk
    · rename_i v w
      obtain ⟨v0, v1, w0, w1, hk⟩ := hk
      obtain ⟨v, rfl⟩ := nat_of v0
      obtain ⟨w, rfl⟩ := nat_of w0
      have v2 : v < 2 ^ 32 := by omega
      have w2 : w < 2 ^ 32 := by omega
      have hv := encN_lt v
      have hw := encN_lt w
      show b7 _ _ K
      rw [b7_eq]
      refine ⟨v0, by omega, ?_⟩
      rintro x1 e1
      refine ⟨w0, by omega, ?_⟩
      rintro x2 e2 x3 e3
      rw [Int.toNat_natCast] at e1 e2
      have hx := encR_xor v2 w2
      have hu : v ^^^ w < 2 ^ 32 := Nat.xor_lt_two_pow v2 w2
      have e3 : x3 = ((encN (v ^^^ w) : Nat) : Int) := by
        rw [e3, e1, e2, iXor_cast .u64 (by rw [cap_u64]; omega) (by rw [cap_u64]; omega), enc_eq, enc_eq, hx, enc_eq]
      have hl := encN_lt (v ^^^ w)
      refine ⟨by omega, by omega, rfl, rfl, ?_⟩
      rintro x4 e4
      rw [iXor_cast .u32 (by rw [cap_u32]; omega) (by rw [cap_u32]; omega)] at e4
      subst e4
      refine ⟨by omega, by omega, ?_⟩
      rintro x5 e5
      rw [Int.toNat_natCast] at e5
      rw [decide_eq_true (show x3 = x5 by rw [e3, e5]), cond_true, e3, Int.toNat_natCast]
      by_cases h : v = w
      · subst h
        rw [decide_eq_true rfl, cond_true, Nat.xor_self, show encN 0 = 0 by rw [enc_eq, encR_zero], cnt_congr (b := fun _ => false) 64 (fun i _ => Nat.zero_testBit i), cnt_false, decide_eq_true (show ((0 : Nat) : Int) = 0 from rfl), cond_true]
        exact hk
      · have hne : v ^^^ w ≠ 0 := xor_ne h
        have hf := enc_far hu hne
        rw [← enc_eq] at hf
        rw [decide_eq_false (show ¬ (v : Int) = w by omega), cond_false, Bool.not_false, cond_true, decide_eq_true (show ((cnt (encN (v ^^^ w)).testBit 64 : Nat) : Int) ≥ 4 by omega), cond_true]
        exact hk
    · exact hk.elim)

/-! ### Near -/
theorem loop8a : ∀ e h k, T8a e h k → ∃ m, loopN c8 (codeOf Tryd.f8) 0 8 m e h k := by
  intro e h k hT
  unfold T8a at hT
  split at hT
  · rename_i c w kd n0 d i
    obtain ⟨h0, h1, rfl, rfl, hk⟩ := hT
    obtain ⟨d, rfl⟩ := nat_of h0
    rw [Int.toNat_natCast] at hk
    refine ⟨65, ?_⟩
    have key : ∀ n i : Nat, i + n = 64 → loopN c8 (codeOf Tryd.f8) 0 8 (n + 1) [(0, .int .u64 c), (3, .int .u32 w), (4, .int .i64 kd), (6, .int .i64 (cnt d.testBit i : Nat)), (7, .int .u64 (d : Nat)), (8, .int .i64 (i : Nat))] [] k := by
      intro n
      induction n with
      | zero =>
        intro i hi
        have : i = 64 := by omega
        subst this
        rw [loopN_succ]
        show t8a _ _ _ _ _ _ _
        rw [t8a_eq, decide_eq_false (by omega), cond_false]
        exact hk
      | succ n ih =>
        intro i hi
        rw [loopN_succ]
        show t8a _ _ _ _ _ _ _
        rw [t8a_eq, decide_eq_true (show (i : Int) < 64 by omega), cond_true]
        intro x1 hx1
        rw [decide_eq_true (show (0 : Int) ≤ x1 by rw [hx1, wrap_cast .u64 (by rw [cap_u64]; omega)]; omega), cond_true]
        intro x2 hx2 x3 hx3 x4 hx4 x5 hx5 x6 hx6
        rw [cnt_round (show i < 64 by omega) hx1 hx2 hx3 hx4 hx5]
        rw [one_cast, iAdd_cast .i64 (by rw [cap_i64]; omega)] at hx6
        rw [hx6]
        exact ih (i + 1) (by omega)
    have h := key 64 0 rfl
    rw [show ((cnt d.testBit 0 : Nat) : Int) = 0 from rfl, show ((0 : Nat) : Int) = 0 from rfl] at h
    exact h
  · exact hT.elim
theorem loop8b : ∀ e h k, T8b e h k → ∃ m, loopN c8 (codeOf Tryd.f8) 1 18 m e h k := by
  intro e h k hT
  unfold T8b at hT
  split at hT
  · rename_i c w i
    obtain ⟨h0, h1, hd, rfl, hk⟩ := hT
    obtain ⟨c, rfl⟩ := nat_of h0
    rw [Int.toNat_natCast] at hd
    have hc : c < 2 ^ 39 := by omega
    refine ⟨40, ?_⟩
    have key : ∀ n i : Nat, i + n = 39 → loopN c8 (codeOf Tryd.f8) 1 18 (n + 1) [(0, .int .u64 (c : Nat)), (3, .int .u32 w), (9, .int .i64 (i : Nat))] [] k := by
      intro n
      induction n with
      | zero =>
        intro i hi
        have : i = 39 := by omega
        subst this
        rw [loopN_succ]
        show t8b _ _ _ _
        rw [t8b_eq, decide_eq_false (by omega), cond_false]
        exact hk
      | succ n ih =>
        intro i hi
        have hi2 : i < 39 := by omega
        have hne := hd i hi2
        rw [loopN_succ]
        show t8b _ _ _ _
        rw [t8b_eq, decide_eq_true (show (i : Int) < 39 by omega), cond_true]
        intro x1 hx1
        rw [wrap_cast .u64 (by rw [cap_u64]; omega)] at hx1
        subst hx1
        rw [decide_eq_true (show (0 : Int) ≤ i by omega), cond_true]
        intro x2 hx2 x3 hx3
        have hx3 := flip2 hc hi2 hx2 hx3
        have hl := flip_lt hc hi2
        subst hx3
        refine ⟨by omega, by omega, ?_⟩
        rw [Int.toNat_natCast]
        rintro x4 _ x5 e5 x6 _
        rw [decide_eq_false (show ¬ x5 = 0 by omega), cond_false]
        intro x7 hx7
        rw [one_cast, iAdd_cast .i64 (by rw [cap_i64]; omega)] at hx7
        rw [hx7]
        exact ih (i + 1) (by omega)
    have h := key 39 0 rfl
    rw [show ((0 : Nat) : Int) = 0 from rfl] at h
    exact h
  · exact hT.elim
def s8 : Spec := fun args h K => match args, h with
  | [.int .u64 c], [] => 0 ≤ c ∧ c < 2 ^ 64 ∧ K (.bool true) []
  | _, _ => False
theorem cnt_self (c : Nat) : cnt (c ^^^ c).testBit 64 = 0 := by
  rw [Nat.xor_self, cnt_congr (b := fun _ => false) 64 (fun i _ => Nat.zero_testBit i), cnt_false]
theorem ok8 : SpecOk Tryd.prog G0 8 s8 :=
  spec2 mixed tblL_ok Tryd.func8 (by kernel_rfl : Tryd.f8.body = some (codeOf Tryd.f8)) c8 rfl rfl rfl (by kernel_rfl) (ids := [8, 18]) (by kernel_rfl) ⟨loop8a, loop8b, trivial⟩ (by
    intro args h K hk
    unfold s8 at hk
    split at hk
    · rename_i c
      have c0 := hk.1
      have c1 := hk.2.1
      replace hk := hk.2.2
      obtain ⟨c, rfl⟩ := nat_of c0
      show b8 _ K
      rw [b8_eq]
      rintro x1 e1
      rw [show (549755813888 : Int) = ((549755813888 : Nat) : Int) from rfl, tmod_cast] at e1
      have hc : c % 549755813888 < 2 ^ 39 := Nat.mod_lt _ (by omega)
      generalize c % 549755813888 = x at *
      subst e1
      refine ⟨by omega, by omega, ?_⟩
      rw [Int.toNat_natCast]
      rintro x2 e2 x3 e3 x4 e4
      have hz : x4 = 0 ∧ 0 ≤ x2 ∧ x2 < 4294967296 := by
        rw [dec_eq] at e2 e4
        rcases decR_cases hc with ⟨_, hd⟩ | ⟨i, _, _, hd⟩ | ⟨_, hd⟩ <;> rw [hd] at e2 e4
        · have e2 : x2 = ((wordN x 32 : Nat) : Int) := e2
          have := wordN_lt x 32
          exact ⟨e4, by omega, by omega⟩
        · have e2 : x2 = ((wordN (x ^^^ 2 ^ i) 32 : Nat) : Int) := e2
          have := wordN_lt (x ^^^ 2 ^ i) 32
          exact ⟨e4, by omega, by omega⟩
        · have e2 : x2 = 0 := e2
          exact ⟨e4, by omega, by omega⟩
      rw [dec_tf hz.1, cond_false]
      refine ⟨hz.2.1, hz.2.2, ?_⟩
      rintro x5 e5 x6 e6
      have hx5 := encN_lt x2.toNat
      rw [e5, iXor_cast .u64 (by rw [cap_u64]; omega) (by rw [cap_u64]; omega)] at e6
      have h6 : x ^^^ encN x2.toNat < 2 ^ 39 := Nat.xor_lt_two_pow hc hx5
      refine ⟨by omega, by omega, rfl, rfl, ?_⟩
      rw [e6, Int.toNat_natCast]
      have hdd := dec_eq x
      rw [hdd] at e2 e3
      rcases decR_cases hc with ⟨hv, hd⟩ | ⟨i, hi, hv, hd⟩ | ⟨hn, hd⟩ <;> rw [hd] at e2 e3
      · have e2 : x2 = ((wordN x 32 : Nat) : Int) := e2
        have e3 : x3 = 0 := e3
        have he : encN x2.toNat = x := by rw [e2, Int.toNat_natCast, enc_eq]; exact (valid_enc hv).symm
        rw [decide_eq_true e3, cond_true, he, cnt_self, decide_eq_true (show ((0 : Nat) : Int) = 0 from rfl), cond_true]
        exact hk
      · have e2 : x2 = ((wordN (x ^^^ 2 ^ i) 32 : Nat) : Int) := e2
        have e3 : x3 = 1 := e3
        have he : encN x2.toNat = x ^^^ 2 ^ i := by rw [e2, Int.toNat_natCast, enc_eq]; exact (valid_enc hv).symm
        have hone : cnt (2 ^ i).testBit 64 = 1 := by
          rw [cnt_congr (b := fun p => decide (i = p)) 64 (fun p _ => Nat.testBit_two_pow), cnt_one, if_pos (by omega)]
        rw [decide_eq_false (show ¬ x3 = 0 by omega), cond_false, decide_eq_true e3, cond_true, he, ← Nat.xor_assoc, Nat.xor_self, Nat.zero_xor, hone, decide_eq_true (show ((1 : Nat) : Int) = 1 from rfl), cond_true]
        exact hk
      · have e2 : x2 = 0 := e2
        have e3 : x3 = 2 := e3
        rw [decide_eq_false (show ¬ x3 = 0 by omega), cond_false, decide_eq_false (show ¬ x3 = 1 by omega), cond_false, decide_eq_true e3, cond_true]
        refine ⟨by omega, by omega, fun i hi h0 => ?_, rfl, ?_⟩
        · have h0 : (decN (x ^^^ 2 ^ i)).2.1 = 0 := h0
          rw [dec_eq] at h0
          have hl := flip_lt hc hi
          rcases decR_cases hl with ⟨hv, hd2⟩ | ⟨j, _, _, hd2⟩ | ⟨_, hd2⟩ <;> rw [hd2] at h0
          · exact hn i hi hv
          · cases h0
          · cases h0
        · rw [decide_eq_true e2, cond_true]; exact hk
    · exact hk.elim)
end Go.Am.Ham
