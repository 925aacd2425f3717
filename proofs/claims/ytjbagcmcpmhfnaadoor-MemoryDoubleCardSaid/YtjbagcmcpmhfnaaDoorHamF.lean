/-
  Hamming: the reference's syndrome, a loop over 39 places. Own work.
-/
import Derived.Test.YtjbagcmcpmhfnaaDoorHamE
namespace Go.Am.Ham
open Go Go.Am Go.Proofs
set_option maxRecDepth 100000

/-- The exclusive or of the places below n that are set, and whether their number is odd. -/
def synB (b : Nat → Bool) : Nat → Nat
  | 0 => 0
  | n + 1 => if b n then synB b n ^^^ n else synB b n
def parB (b : Nat → Bool) : Nat → Nat
  | 0 => 0
  | n + 1 => if b n then 1 - parB b n else parB b n
theorem synB_lt (b : Nat → Bool) : ∀ n, n ≤ 64 → synB b n < 64
  | 0, _ => by simp [synB]
  | n + 1, h => by
    have := synB_lt b n (by omega)
    unfold synB
    split
    · exact xor64 this (by omega)
    · exact this
theorem parB_le (b : Nat → Bool) : ∀ n, parB b n ≤ 1
  | 0 => by simp [parB]
  | n + 1 => by
    have := parB_le b n
    unfold parB
    split <;> omega

def s19 : Spec := fun args h K => match args, h with
  | [.int .u64 c], [] => 0 ≤ c ∧ c < 2 ^ 64 ∧ K (.tuple #[.int .i64 ((synB c.toNat.testBit 39 : Nat) : Int), .int .i64 ((parB c.toNat.testBit 39 : Nat) : Int)]) []
  | _, _ => False
def T19 : LSpec := fun e h k => match e, h with
  | [(0, .int .u64 c), (4, .int .i64 s), (5, .int .i64 p), (6, .int .i64 i)], [] =>
    0 ≤ c ∧ c < 2 ^ 64 ∧ s = 0 ∧ p = 0 ∧ i = 0 ∧ k (.exit 0) [(4, .int .i64 ((synB c.toNat.testBit 39 : Nat) : Int)), (5, .int .i64 ((parB c.toNat.testBit 39 : Nat) : Int))] []
  | _, _ => False
def tbl19 : List (Nat × Spec) := [(112, s26)]
theorem tbl19_ok : AllOk Tryd.prog G0 tbl19 := ⟨ok26, trivial⟩
noncomputable def c19 : FCfg := mkG Tryd.prog G0 tbl19 22 [(0, [0]), (1, [0, 4, 5]), (2, [0, 4, 5, 6]), (3, [0, 4, 5, 6, 8]), (4, [0, 4, 5, 6]), (5, [0, 4, 5, 6, 14]), (6, [0, 4, 5, 6]), (7, [0, 4, 5, 6]), (8, [2, 3])] [(3, [0, 4, 5, 6])] [(3, [4, 5])] [(3, T19)] [] [] 40 0
noncomputable def t19 (c s p i : Int) (k : AExit → Env → AHeap → Prop) : Prop := codeK c19 (nthLoop 0 (codeOf Tryd.f74)) [(0, .int .u64 c), (4, .int .i64 s), (5, .int .i64 p), (6, .int .i64 i)] [] k
noncomputable def b19 (c : Int) (K : Value → AHeap → Prop) : Prop := bodyK c19 (codeOf Tryd.f74) Tryd.f74.results.toList [.int .u64 c] [] K
theorem t19_eq (c s p i : Int) (k : AExit → Env → AHeap → Prop) : t19 c s p i k = (cond (decide ((i < (39 : Int)))) (((0 : Int) ≤ c) ∧ ((c < (18446744073709551616 : Int)) ∧ (((0 : Int) ≤ i) ∧ ((i < (64 : Int)) ∧ (∀ x1 : Int, ((x1 = (((((Int.toNat c) / ((2 : Nat) ^ (Int.toNat i) : Nat) : Nat) % (2 : Nat) : Nat) : Nat) : Int)) → (cond (decide ((x1 = (1 : Int)))) (∀ x3 : Int, ((x3 = (iXor IntKind.i64 s i)) → (∀ x4 : Int, ((x4 = (iSub IntKind.i64 (1 : Int) p)) → (∀ x5 : Int, ((x5 = (iAdd IntKind.i64 i (1 : Int))) → (k AExit.normal [(Prod.mk 0 (Value.int IntKind.u64 c)), (Prod.mk 4 (Value.int IntKind.i64 x3)), (Prod.mk 5 (Value.int IntKind.i64 x4)), (Prod.mk 6 (Value.int IntKind.i64 x5))] []))))))) (∀ x2 : Int, ((x2 = (iAdd IntKind.i64 i (1 : Int))) → (k AExit.normal [(Prod.mk 0 (Value.int IntKind.u64 c)), (Prod.mk 4 (Value.int IntKind.i64 s)), (Prod.mk 5 (Value.int IntKind.i64 p)), (Prod.mk 6 (Value.int IntKind.i64 x2))] [])))))))))) (k (AExit.exit 0) [(Prod.mk 0 (Value.int IntKind.u64 c)), (Prod.mk 4 (Value.int IntKind.i64 s)), (Prod.mk 5 (Value.int IntKind.i64 p)), (Prod.mk 6 (Value.int IntKind.i64 i)), (Prod.mk 8 (Value.bool Bool.false))] [])) := by
  kernel_rfl
theorem b19_eq (c : Int) (K : Value → AHeap → Prop) : b19 c K = (((0 : Int) ≤ c) ∧ ((c < (18446744073709551616 : Int)) ∧ (((0 : Int) = (0 : Int)) ∧ (((0 : Int) = (0 : Int)) ∧ (((0 : Int) = (0 : Int)) ∧ (K (Value.tuple (Array.mk [(Value.int IntKind.i64 (((synB (Nat.testBit (Int.toNat c)) (39 : Nat)) : Nat) : Int)), (Value.int IntKind.i64 (((parB (Nat.testBit (Int.toNat c)) (39 : Nat)) : Nat) : Int))])) [])))))) := by
  kernel_rfl

theorem bit_testBit (n i : Nat) : (n / 2 ^ i % 2 = 1) ↔ n.testBit i = true := by
  rw [Nat.testBit_eq_decide_div_mod_eq, decide_eq_true_eq]

theorem loop19 : ∀ e h k, T19 e h k → ∃ m, loopN c19 (codeOf Tryd.f74) 0 3 m e h k := by
  intro e h k hT
  unfold T19 at hT
  split at hT
  · rename_i c s p i
    obtain ⟨h0, h1, rfl, rfl, rfl, hk⟩ := hT
    obtain ⟨m, rfl⟩ := nat_of h0
    rw [Int.toNat_natCast] at hk
    have h1 : m < 2 ^ 64 := by omega
    refine ⟨40, ?_⟩
    have key : ∀ n i : Nat, i + n = 39 → loopN c19 (codeOf Tryd.f74) 0 3 (n + 1) [(0, .int .u64 (m : Nat)), (4, .int .i64 (synB m.testBit i : Nat)), (5, .int .i64 (parB m.testBit i : Nat)), (6, .int .i64 (i : Nat))] [] k := by
      intro n
      induction n with
      | zero =>
        intro i hi
        have : i = 39 := by omega
        subst this
        rw [loopN_succ]
        show t19 _ _ _ _ _
        rw [t19_eq, decide_eq_false (by omega), cond_false]
        exact hk
      | succ n ih =>
        intro i hi
        have := ih (i + 1) (by omega)
        have hs := synB_lt m.testBit i (by omega)
        have hp := parB_le m.testBit i
        rw [loopN_succ]
        show t19 _ _ _ _ _
        rw [t19_eq, decide_eq_true (show (i : Int) < 39 from by omega), cond_true]
        refine ⟨by omega, by omega, by omega, by omega, ?_⟩
        rintro x1 e1
        rw [Int.toNat_natCast, Int.toNat_natCast] at e1
        have ea : iAdd .i64 (i : Int) 1 = ((i + 1 : Nat) : Int) := by
          rw [show (1 : Int) = ((1 : Nat) : Int) from rfl, iAdd_cast .i64 (by rw [cap_i64]; omega)]
        by_cases hb : m.testBit i = true
        · have e2 : m / 2 ^ i % 2 = 1 := (bit_testBit m i).2 hb
          rw [decide_eq_true (show x1 = 1 by rw [e1, e2]; rfl), cond_true]
          intro x2 hx2 x3 hx3 x4 hx4
          rw [iXor_cast .i64 (by rw [cap_i64]; omega) (by rw [cap_i64]; omega)] at hx2
          rw [show (1 : Int) = ((1 : Nat) : Int) from rfl, iSub_cast .i64 hp (by rw [cap_i64]; omega)] at hx3
          rw [ea] at hx4
          rw [hx2, hx3, hx4]
          simp only [synB, parB, hb, if_true] at this
          exact this
        · have e2 : ¬ (m / 2 ^ i % 2 = 1) := fun h => hb ((bit_testBit m i).1 h)
          rw [decide_eq_false (show ¬ (x1 = 1) by rw [e1]; omega), cond_false]
          intro x4 hx4
          rw [ea] at hx4
          rw [hx4]
          simp only [synB, parB, hb, if_false, Bool.false_eq_true] at this
          exact this
    have h := key 39 0 rfl
    rw [show ((synB m.testBit 0 : Nat) : Int) = 0 from rfl, show ((parB m.testBit 0 : Nat) : Int) = 0 from rfl, show ((0 : Nat) : Int) = 0 from rfl] at h
    exact h
  · exact hT.elim

theorem ok19 : SpecOk Tryd.prog G0 74 s19 :=
  spec2 mixed tbl19_ok Tryd.func74 (by kernel_rfl : Tryd.f74.body = some (codeOf Tryd.f74)) c19 rfl rfl rfl (by kernel_rfl) (ids := [3]) (by kernel_rfl) ⟨loop19, trivial⟩ (by
    intro args h K hk
    unfold s19 at hk
    split at hk
    · rename_i c
      show b19 c K
      rw [b19_eq]
      exact ⟨hk.1, hk.2.1, rfl, rfl, rfl, hk.2.2⟩
    · exact hk.elim)
end Go.Am.Ham
