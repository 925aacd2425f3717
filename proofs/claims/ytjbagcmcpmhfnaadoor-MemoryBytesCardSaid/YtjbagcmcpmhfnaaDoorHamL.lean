/-
  Hamming: the loops of Encode of the reference, and Encode. Own work.
-/
import Derived.Test.YtjbagcmcpmhfnaaDoorHamK
namespace Go.Am.Ham
open Go Go.Am Go.Proofs
set_option maxRecDepth 100000

theorem loop14a : ∀ e h k, T14a e h k → ∃ m, loopN c14 (codeOf Tryd.f24) 0 3 m e h k := by
  intro e h k hT
  unfold T14a at hT
  split at hT
  · rename_i w x i
    obtain ⟨h0, h1, rfl, rfl, hk⟩ := hT
    obtain ⟨w, rfl⟩ := nat_of h0
    have h1 : w < 2 ^ 32 := by omega
    rw [Int.toNat_natCast] at hk
    refine ⟨33, ?_⟩
    have key : ∀ n i : Nat, i + n = 32 → loopN c14 (codeOf Tryd.f24) 0 3 (n + 1) [(0, .int .u32 (w : Nat)), (3, .int .u64 (encA w i : Nat)), (4, .int .i64 (i : Nat))] [] k := by
      intro n
      induction n with
      | zero =>
        intro i hi
        have : i = 32 := by omega
        subst this
        rw [loopN_succ]
        show t14a _ _ _ _
        rw [t14a_eq, decide_eq_false (by omega), cond_false]
        exact hk
      | succ n ih =>
        intro i hi
        rw [loopN_succ]
        show t14a _ _ _ _
        rw [t14a_eq, decide_eq_true (show (i : Int) < 32 by omega), cond_true]
        refine ⟨by omega, by omega, fun _ => ?_, fun hn => (hn ⟨by omega, by omega⟩).elim⟩
        intro x1 hx1 x2 hx2
        have hw : i < 32 := by omega
        rw [Int.toNat_natCast] at hx1
        rw [wrap_cast .u64 (by rw [cap_u64]; omega)] at hx2
        subst hx1 hx2
        rw [decide_eq_true (show (0 : Int) ≤ i by omega), cond_true]
        intro x3 hx3 x4 hx4 x5 hx5 x6 hx6
        have hb : w / 2 ^ i % 2 < 2 := Nat.mod_lt _ (by omega)
        have hv := plN_lt i
        have hm := bit_mul_lt hb hv
        have ha := encA_lt w i
        rw [Int.toNat_natCast, if_pos (by omega), two_pow_cast, fdiv_cast] at hx3
        rw [hx3, two_cast, tmod_cast] at hx4
        rw [hx4, wrap_cast .u64 (by rw [cap_u64]; omega)] at hx5
        rw [wrap_cast .u64 (by rw [cap_u64]; omega)] at hx6
        subst hx6
        rw [decide_eq_true (show (0 : Int) ≤ (plN i : Nat) by omega), cond_true]
        intro x7 hx7 x8 hx8 x9 hx9
        rw [hx5, Int.toNat_natCast, if_pos (by omega), two_pow_cast, iMul_cast .u64 (by rw [cap_u64]; omega)] at hx7
        rw [hx7, iOr_cast .u64 (by rw [cap_u64]; omega) (by rw [cap_u64]; omega)] at hx8
        rw [one_cast, iAdd_cast .i64 (by rw [cap_i64]; omega)] at hx9
        rw [hx8, hx9]
        have := ih (i + 1) (by omega)
        unfold encA at this
        exact this
    have h := key 32 0 rfl
    rw [show ((encA w 0 : Nat) : Int) = 0 from rfl, show ((0 : Nat) : Int) = 0 from rfl] at h
    exact h
  · exact hT.elim

theorem loop14b : ∀ e h k, T14b e h k → ∃ m, loopN c14 (codeOf Tryd.f24) 1 9 m e h k := by
  intro e h k hT
  unfold T14b at hT
  split at hT
  · rename_i x s j
    obtain ⟨h0, h1, h2, h3, rfl, hk⟩ := hT
    obtain ⟨x, rfl⟩ := nat_of h0
    obtain ⟨s, rfl⟩ := nat_of h2
    have h1 : x < 2 ^ 64 := by omega
    rw [Int.toNat_natCast, Int.toNat_natCast] at hk
    refine ⟨7, ?_⟩
    have key : ∀ n i : Nat, i + n = 6 → loopN c14 (codeOf Tryd.f24) 1 9 (n + 1) [(3, .int .u64 (encB s x i : Nat)), (7, .int .i64 (s : Nat)), (9, .int .i64 ((2 ^ i : Nat) : Int))] [] k := by
      intro n
      induction n with
      | zero =>
        intro i hi
        have : i = 6 := by omega
        subst this
        rw [loopN_succ]
        show t14b _ _ _ _
        rw [t14b_eq, decide_eq_false (by omega), cond_false]
        exact hk
      | succ n ih =>
        intro i hi
        have hp : 2 ^ i ≤ 2 ^ 5 := Nat.pow_le_pow_right (by omega) (by omega)
        have hq : 2 ^ 2 ^ i < 2 ^ 33 := Nat.pow_lt_pow_right (by omega) (by omega)
        have hb := encB_lt64 s h1 i (by omega)
        have := ih (i + 1) (by omega)
        unfold encB at this
        rw [Nat.pow_succ] at this
        have h0' : 0 < 2 ^ i := Nat.two_pow_pos i
        generalize 2 ^ i = p at *
        rw [loopN_succ]
        show t14b _ _ _ _
        rw [t14b_eq, decide_eq_true (show (p : Int) ≤ 32 by omega), cond_true]
        intro x1 hx1
        rw [iAnd_cast .i64 (by rw [cap_i64]; omega) (by rw [cap_i64]; omega)] at hx1
        rw [hx1]
        have eM : iMul .i64 (p : Int) 2 = (p * 2 : Nat) := by rw [two_cast, iMul_cast .i64 (by rw [cap_i64]; omega)]
        by_cases hz : s &&& p = 0
        · rw [decide_eq_true (show ((s &&& p : Nat) : Int) = 0 by omega), Bool.not_true, cond_false]
          intro x2 hx2
          rw [eM] at hx2
          rw [if_neg (by omega)] at this
          rw [hx2]; exact this
        · rw [decide_eq_false (show ¬ ((s &&& p : Nat) : Int) = 0 by omega), Bool.not_false, cond_true]
          intro x hx
          rw [wrap_cast .u64 (by rw [cap_u64]; omega)] at hx
          subst hx
          rw [decide_eq_true (show (0 : Int) ≤ p by omega), cond_true]
          intro x3 hx3 x4 hx4 x5 hx5
          rw [Int.toNat_natCast, if_pos (by omega), two_pow_cast, one_cast, iMul_cast .u64 (by rw [cap_u64]; omega), Nat.one_mul] at hx3
          rw [hx3, iOr_cast .u64 (by rw [cap_u64]; omega) (by rw [cap_u64]; omega)] at hx4
          rw [eM] at hx5
          rw [if_pos hz] at this
          rw [hx4, hx5]; exact this
    have h := key 6 0 rfl
    rw [show encB s x 0 = x from rfl, show ((2 ^ 0 : Nat) : Int) = 1 from rfl] at h
    exact h
  · exact hT.elim

def encR (w : Nat) : Nat := encB (synB (encA w 32).testBit 39) (encA w 32) 6 ||| parB (encB (synB (encA w 32).testBit 39) (encA w 32) 6).testBit 39
def s14 : Spec := fun args h K => match args, h with
  | [.int .u32 w], [] => 0 ≤ w ∧ w < 2 ^ 32 ∧ K (.int .u64 ((encR w.toNat : Nat) : Int)) []
  | _, _ => False

theorem ok14 : SpecOk Tryd.prog G0 24 s14 :=
  spec2 mixed tbl14_ok Tryd.func24 (by kernel_rfl : Tryd.f24.body = some (codeOf Tryd.f24)) c14 rfl rfl rfl (by kernel_rfl) (ids := [3, 9]) (by kernel_rfl) ⟨loop14a, loop14b, trivial⟩ (by
    intro args h K hk
    unfold s14 at hk
    split at hk
    · rename_i w
      have h0 := hk.1
      have h1 := hk.2.1
      replace hk := hk.2.2
      show b14 w K
      rw [b14_eq]
      have hA := encA_lt w.toNat 32
      refine ⟨h0, h1, rfl, rfl, by omega, by omega, ?_⟩
      intro x1 hx1 x2 _
      have hX := synB_lt (encA w.toNat 32).testBit 39 (by omega)
      rw [Int.toNat_natCast] at hx1
      refine ⟨by omega, by omega, by omega, by omega, rfl, ?_⟩
      subst hx1
      have hB := encB_lt (synB (encA w.toNat 32).testBit 39) hA 6 (by omega)
      rw [Int.toNat_natCast, Int.toNat_natCast]
      unfold encR at hk
      generalize encB (synB (encA w.toNat 32).testBit 39) (encA w.toNat 32) 6 = y at *
      refine ⟨by omega, by omega, ?_⟩
      intro x3 hx3 x4 hx4 x5 hx5 x6 hx6
      have hp := parB_le y.testBit 39
      rw [Int.toNat_natCast] at hx4
      rw [hx4, wrap_cast .u64 (by rw [cap_u64]; omega)] at hx5
      rw [hx5, iOr_cast .u64 (by rw [cap_u64]; omega) (by rw [cap_u64]; omega)] at hx6
      rw [hx6]; exact hk
    · exact hk.elim)
end Go.Am.Ham
