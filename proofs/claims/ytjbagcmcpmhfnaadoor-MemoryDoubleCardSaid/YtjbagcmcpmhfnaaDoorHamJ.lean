/-
  Hamming: Encode, of the code and of the reference. Own work.
-/
import Derived.Test.YtjbagcmcpmhfnaaDoorHamI
namespace Go.Am.Ham
open Go Go.Am Go.Proofs
set_option maxRecDepth 100000

def plN (n : Nat) : Nat := plT.getD n 0
/-- The word's bits at their places. -/
def encA (w : Nat) : Nat → Nat
  | 0 => 0
  | i + 1 => encA w i ||| (w / 2 ^ i % 2) * 2 ^ plN i
/-- The word with the check bits that s asks for. -/
def encB (s x : Nat) : Nat → Nat
  | 0 => x
  | j + 1 => if s &&& 2 ^ j ≠ 0 then encB s x j ||| 2 ^ 2 ^ j else encB s x j

/-- The place of a bit, by cases. -/
def s12b : Spec := fun args h K => match args, h with
  | [.int .i64 n], [] => -1 ≤ n ∧ n ≤ 1000 ∧ (0 ≤ n ∧ n < 32 → K (.tuple #[.int .i64 ((plN n.toNat : Nat) : Int), .bool true]) []) ∧ (¬ (0 ≤ n ∧ n < 32) → K (.tuple #[.int .i64 0, .bool false]) [])
  | _, _ => False
theorem ok12b : SpecOk Tryd.prog G0 73 s12b := by
  intro W0 hG args h K hk
  refine ok12 W0 hG args h K ?_
  unfold s12b at hk
  split at hk
  · rename_i n
    refine ⟨hk.1, hk.2.1, ?_⟩
    unfold plR
    by_cases hn : 0 ≤ n ∧ n < 32
    · rw [decide_eq_true hn.1, decide_eq_true hn.2, Bool.and_true, cond_true]; exact hk.2.2.1 hn
    · have : (decide (0 ≤ n) && decide (n < 32)) = false := by
        rw [← Bool.not_eq_true, Bool.and_eq_true, decide_eq_true_eq, decide_eq_true_eq]; exact hn
      rw [this, cond_false]; exact hk.2.2.2 hn
  · exact hk.elim

def T13a : LSpec := fun e h k => match e, h with
  | [(0, .int .u32 w), (3, .int .u64 x), (9, .agg a), (10, .int .i64 i)], [] =>
    0 ≤ w ∧ w < 2 ^ 32 ∧ x = 0 ∧ a = ⟨plV⟩ ∧ i = 0 ∧ k (.exit 0) [(3, .int .u64 ((encA w.toNat 32 : Nat) : Int))] []
  | _, _ => False
def T13b : LSpec := fun e h k => match e, h with
  | [(3, .int .u64 x), (6, .int .i64 s), (8, .int .i64 j)], [] =>
    0 ≤ x ∧ x < 2 ^ 64 ∧ 0 ≤ s ∧ s < 64 ∧ j = 1 ∧ k (.exit 2) [(3, .int .u64 ((encB s.toNat x.toNat 6 : Nat) : Int))] []
  | _, _ => False
def tbl13 : List (Nat × Spec) := [(128, s21), (130, s23), (129, s17)]
theorem tbl13_ok : AllOk Tryd.prog G0 tbl13 := ⟨ok21, ok23, ok17, trivial⟩
noncomputable def c13 : FCfg := mkG Tryd.prog G0 tbl13 47 [(0, [0]), (1, [0, 3]), (2, [0, 3, 9, 10]), (3, [0, 3, 9, 10, 11]), (4, [0, 3, 4, 5, 9, 10]), (5, [0, 3, 9, 10]), (6, [0, 3, 9, 10]), (7, [3, 6]), (8, [3, 6, 8]), (9, [3, 6, 8, 30]), (10, [3, 6, 8]), (11, [3, 6, 8, 36]), (12, [3, 6, 8]), (13, [2])] [(3, [0, 3, 9, 10]), (9, [3, 6, 8])] [(3, [3]), (9, [3])] [(3, T13a), (9, T13b)] [] [] 40 0
noncomputable def t13a (w x i : Int) (k : AExit → Env → AHeap → Prop) : Prop := codeK c13 (nthLoop 0 (codeOf Tryd.f110)) [(0, .int .u32 w), (3, .int .u64 x), (9, .agg ⟨plV⟩), (10, .int .i64 i)] [] k
noncomputable def t13b (x s j : Int) (k : AExit → Env → AHeap → Prop) : Prop := codeK c13 (nthLoop 1 (codeOf Tryd.f110)) [(3, .int .u64 x), (6, .int .i64 s), (8, .int .i64 j)] [] k
noncomputable def b13 (w : Int) (K : Value → AHeap → Prop) : Prop := bodyK c13 (codeOf Tryd.f110) Tryd.f110.results.toList [.int .u32 w] [] K

def T14a : LSpec := fun e h k => match e, h with
  | [(0, .int .u32 w), (3, .int .u64 x), (4, .int .i64 i)], [] =>
    0 ≤ w ∧ w < 2 ^ 32 ∧ x = 0 ∧ i = 0 ∧ k (.exit 0) [(3, .int .u64 ((encA w.toNat 32 : Nat) : Int))] []
  | _, _ => False
def T14b : LSpec := fun e h k => match e, h with
  | [(3, .int .u64 x), (7, .int .i64 s), (9, .int .i64 j)], [] =>
    0 ≤ x ∧ x < 2 ^ 64 ∧ 0 ≤ s ∧ s < 64 ∧ j = 1 ∧ k (.exit 2) [(3, .int .u64 ((encB s.toNat x.toNat 6 : Nat) : Int))] []
  | _, _ => False
def tbl14 : List (Nat × Spec) := [(73, s12b), (74, s19)]
theorem tbl14_ok : AllOk Tryd.prog G0 tbl14 := ⟨ok12b, ok19, trivial⟩
noncomputable def c14 : FCfg := mkG Tryd.prog G0 tbl14 59 [(0, [0]), (1, [0, 3]), (2, [0, 3, 4]), (3, [0, 3, 4, 13]), (4, [0, 3, 4]), (5, [0, 3, 4, 5]), (6, [0, 3, 4]), (7, [3, 7]), (8, [3, 7, 9]), (9, [3, 7, 9, 38]), (10, [3, 7, 9]), (11, [3, 7, 9, 44]), (12, [3, 7, 9]), (13, [3, 11]), (14, [2])] [(3, [0, 3, 4]), (9, [3, 7, 9])] [(3, [3]), (9, [3])] [(3, T14a), (9, T14b)] [] [] 40 0
noncomputable def t14a (w x i : Int) (k : AExit → Env → AHeap → Prop) : Prop := codeK c14 (nthLoop 0 (codeOf Tryd.f24)) [(0, .int .u32 w), (3, .int .u64 x), (4, .int .i64 i)] [] k
noncomputable def t14b (x s j : Int) (k : AExit → Env → AHeap → Prop) : Prop := codeK c14 (nthLoop 1 (codeOf Tryd.f24)) [(3, .int .u64 x), (7, .int .i64 s), (9, .int .i64 j)] [] k
noncomputable def b14 (w : Int) (K : Value → AHeap → Prop) : Prop := bodyK c14 (codeOf Tryd.f24) Tryd.f24.results.toList [.int .u32 w] [] K
theorem t13a_eq (w x i : Int) (k : AExit → Env → AHeap → Prop) : t13a w x i k = (cond (decide ((i < (32 : Int)))) (cond ((((decide (((0 : Int) ≤ i))) && (decide ((i < (32 : Int))))) && (decide ((((Int.toNat i) + (1 : Nat) : Nat) ≤ (32 : Nat))))) && Bool.true) (cond (isInt IntKind.i64 (List.getD plV (Int.toNat i) Go.undef)) (∀ x1 : Int, ((x1 = (intOf (List.getD plV (Int.toNat i) Go.undef))) → (cond (decide (((0 : Int) ≤ i))) (∀ x2 : Int, ((x2 = (Int.fdiv w ((2 : Int) ^ (ite ((Int.toNat i) ≤ (32 : Nat)) (Int.toNat i) (32 : Nat)) : Int))) → (∀ x3 : Int, ((x3 = (iAnd IntKind.u32 x2 (1 : Int))) → (∀ x4 : Int, ((x4 = (IntKind.wrap IntKind.u64 x3)) → (cond (decide (((0 : Int) ≤ x1))) (∀ x5 : Int, ((x5 = (iMul IntKind.u64 x4 ((2 : Int) ^ (ite ((Int.toNat x1) ≤ (64 : Nat)) (Int.toNat x1) (64 : Nat)) : Int))) → (∀ x6 : Int, ((x6 = (iOr IntKind.u64 x x5)) → (∀ x7 : Int, ((x7 = (iAdd IntKind.i64 i (1 : Int))) → (k AExit.normal [(Prod.mk 0 (Value.int IntKind.u32 w)), (Prod.mk 3 (Value.int IntKind.u64 x6)), (Prod.mk 9 (Value.agg (Array.mk plV))), (Prod.mk 10 (Value.int IntKind.i64 x7))] []))))))) False))))))) False))) False) False) (k (AExit.exit 0) [(Prod.mk 0 (Value.int IntKind.u32 w)), (Prod.mk 3 (Value.int IntKind.u64 x)), (Prod.mk 9 (Value.agg (Array.mk plV))), (Prod.mk 10 (Value.int IntKind.i64 i)), (Prod.mk 11 (Value.bool Bool.false))] [])) := by
  kernel_rfl
theorem t13b_eq (x s j : Int) (k : AExit → Env → AHeap → Prop) : t13b x s j k = (cond (decide ((j ≤ (32 : Int)))) (∀ x1 : Int, ((x1 = (iAnd IntKind.i64 s j)) → (cond (!(decide ((x1 = (0 : Int))))) (cond (decide (((0 : Int) ≤ j))) (∀ x3 : Int, ((x3 = (iMul IntKind.u64 (1 : Int) ((2 : Int) ^ (ite ((Int.toNat j) ≤ (64 : Nat)) (Int.toNat j) (64 : Nat)) : Int))) → (∀ x4 : Int, ((x4 = (iOr IntKind.u64 x x3)) → (∀ x5 : Int, ((x5 = (iMul IntKind.i64 j (2 : Int))) → (k AExit.normal [(Prod.mk 3 (Value.int IntKind.u64 x4)), (Prod.mk 6 (Value.int IntKind.i64 s)), (Prod.mk 8 (Value.int IntKind.i64 x5))] []))))))) False) (∀ x2 : Int, ((x2 = (iMul IntKind.i64 j (2 : Int))) → (k AExit.normal [(Prod.mk 3 (Value.int IntKind.u64 x)), (Prod.mk 6 (Value.int IntKind.i64 s)), (Prod.mk 8 (Value.int IntKind.i64 x2))] [])))))) (k (AExit.exit (2 : Nat)) [(Prod.mk 3 (Value.int IntKind.u64 x)), (Prod.mk 6 (Value.int IntKind.i64 s)), (Prod.mk 8 (Value.int IntKind.i64 j)), (Prod.mk 30 (Value.bool Bool.false))] [])) := by
  kernel_rfl
theorem b13_eq (w : Int) (K : Value → AHeap → Prop) : b13 w K = (((0 : Int) ≤ w) ∧ ((w < (4294967296 : Int)) ∧ (((0 : Int) = (0 : Int)) ∧ (((Array.mk plV) = (Array.mk plV)) ∧ (((0 : Int) = (0 : Int)) ∧ (((0 : Int) ≤ (((encA (Int.toNat w) (32 : Nat)) : Nat) : Int)) ∧ (((((encA (Int.toNat w) (32 : Nat)) : Nat) : Int) < (18446744073709551616 : Int)) ∧ (∀ x1 : Int, ((x1 = (((onesX (Int.toNat (((encA (Int.toNat w) (32 : Nat)) : Nat) : Int))) : Nat) : Int)) → (∀ x2 : Int, ((x2 = ((((pcN (Int.toNat (((encA (Int.toNat w) (32 : Nat)) : Nat) : Int))) % (2 : Nat) : Nat) : Nat) : Int)) → (((0 : Int) ≤ (((encA (Int.toNat w) (32 : Nat)) : Nat) : Int)) ∧ (((((encA (Int.toNat w) (32 : Nat)) : Nat) : Int) < (18446744073709551616 : Int)) ∧ (((0 : Int) ≤ x1) ∧ ((x1 < (64 : Int)) ∧ (((1 : Int) = (1 : Int)) ∧ (((0 : Int) ≤ (((encB (Int.toNat x1) (Int.toNat (((encA (Int.toNat w) (32 : Nat)) : Nat) : Int)) (6 : Nat)) : Nat) : Int)) ∧ (((((encB (Int.toNat x1) (Int.toNat (((encA (Int.toNat w) (32 : Nat)) : Nat) : Int)) (6 : Nat)) : Nat) : Int) < (18446744073709551616 : Int)) ∧ (∀ x3 : Int, ((x3 = (((pcN (Int.toNat (((encB (Int.toNat x1) (Int.toNat (((encA (Int.toNat w) (32 : Nat)) : Nat) : Int)) (6 : Nat)) : Nat) : Int))) : Nat) : Int)) → (∀ x4 : Int, ((x4 = (iAnd IntKind.i64 x3 (1 : Int))) → (∀ x5 : Int, ((x5 = (IntKind.wrap IntKind.u64 x4)) → (∀ x6 : Int, ((x6 = (iOr IntKind.u64 (((encB (Int.toNat x1) (Int.toNat (((encA (Int.toNat w) (32 : Nat)) : Nat) : Int)) (6 : Nat)) : Nat) : Int) x5)) → (K (Value.int IntKind.u64 x6) []))))))))))))))))))))))))))) := by
  kernel_rfl
theorem t14a_eq (w x i : Int) (k : AExit → Env → AHeap → Prop) : t14a w x i k = (cond (decide ((i < (32 : Int)))) (((-1 : Int) ≤ i) ∧ ((i ≤ (1000 : Int)) ∧ (((((0 : Int) ≤ i) ∧ (i < (32 : Int))) → (∀ x1 : Int, ((x1 = (((plN (Int.toNat i)) : Nat) : Int)) → (∀ x2 : Int, ((x2 = (IntKind.wrap IntKind.u64 i)) → (cond (decide (((0 : Int) ≤ x2))) (∀ x3 : Int, ((x3 = (Int.fdiv w ((2 : Int) ^ (ite ((Int.toNat x2) ≤ (32 : Nat)) (Int.toNat x2) (32 : Nat)) : Int))) → (∀ x4 : Int, ((x4 = (Int.tmod x3 (2 : Int))) → (∀ x5 : Int, ((x5 = (IntKind.wrap IntKind.u64 x4)) → (∀ x6 : Int, ((x6 = (IntKind.wrap IntKind.u64 x1)) → (cond (decide (((0 : Int) ≤ x6))) (∀ x7 : Int, ((x7 = (iMul IntKind.u64 x5 ((2 : Int) ^ (ite ((Int.toNat x6) ≤ (64 : Nat)) (Int.toNat x6) (64 : Nat)) : Int))) → (∀ x8 : Int, ((x8 = (iOr IntKind.u64 x x7)) → (∀ x9 : Int, ((x9 = (iAdd IntKind.i64 i (1 : Int))) → (k AExit.normal [(Prod.mk 0 (Value.int IntKind.u32 w)), (Prod.mk 3 (Value.int IntKind.u64 x8)), (Prod.mk 4 (Value.int IntKind.i64 x9))] []))))))) False))))))))) False)))))) ∧ (((((0 : Int) ≤ i) ∧ (i < (32 : Int))) → False) → (∀ x10 : Int, ((x10 = (0 : Int)) → (∀ x11 : Int, ((x11 = (IntKind.wrap IntKind.u64 i)) → (cond (decide (((0 : Int) ≤ x11))) (∀ x12 : Int, ((x12 = (Int.fdiv w ((2 : Int) ^ (ite ((Int.toNat x11) ≤ (32 : Nat)) (Int.toNat x11) (32 : Nat)) : Int))) → (∀ x13 : Int, ((x13 = (Int.tmod x12 (2 : Int))) → (∀ x14 : Int, ((x14 = (IntKind.wrap IntKind.u64 x13)) → (∀ x15 : Int, ((x15 = (IntKind.wrap IntKind.u64 x10)) → (cond (decide (((0 : Int) ≤ x15))) (∀ x16 : Int, ((x16 = (iMul IntKind.u64 x14 ((2 : Int) ^ (ite ((Int.toNat x15) ≤ (64 : Nat)) (Int.toNat x15) (64 : Nat)) : Int))) → (∀ x17 : Int, ((x17 = (iOr IntKind.u64 x x16)) → (∀ x18 : Int, ((x18 = (iAdd IntKind.i64 i (1 : Int))) → (k AExit.normal [(Prod.mk 0 (Value.int IntKind.u32 w)), (Prod.mk 3 (Value.int IntKind.u64 x17)), (Prod.mk 4 (Value.int IntKind.i64 x18))] []))))))) False))))))))) False))))))))) (k (AExit.exit 0) [(Prod.mk 0 (Value.int IntKind.u32 w)), (Prod.mk 3 (Value.int IntKind.u64 x)), (Prod.mk 4 (Value.int IntKind.i64 i)), (Prod.mk 13 (Value.bool Bool.false))] [])) := by
  kernel_rfl
theorem t14b_eq (x s j : Int) (k : AExit → Env → AHeap → Prop) : t14b x s j k = (cond (decide ((j ≤ (32 : Int)))) (∀ x1 : Int, ((x1 = (iAnd IntKind.i64 s j)) → (cond (!(decide ((x1 = (0 : Int))))) (∀ x3 : Int, ((x3 = (IntKind.wrap IntKind.u64 j)) → (cond (decide (((0 : Int) ≤ x3))) (∀ x4 : Int, ((x4 = (iMul IntKind.u64 (1 : Int) ((2 : Int) ^ (ite ((Int.toNat x3) ≤ (64 : Nat)) (Int.toNat x3) (64 : Nat)) : Int))) → (∀ x5 : Int, ((x5 = (iOr IntKind.u64 x x4)) → (∀ x6 : Int, ((x6 = (iMul IntKind.i64 j (2 : Int))) → (k AExit.normal [(Prod.mk 3 (Value.int IntKind.u64 x5)), (Prod.mk 7 (Value.int IntKind.i64 s)), (Prod.mk 9 (Value.int IntKind.i64 x6))] []))))))) False))) (∀ x2 : Int, ((x2 = (iMul IntKind.i64 j (2 : Int))) → (k AExit.normal [(Prod.mk 3 (Value.int IntKind.u64 x)), (Prod.mk 7 (Value.int IntKind.i64 s)), (Prod.mk 9 (Value.int IntKind.i64 x2))] [])))))) (k (AExit.exit (2 : Nat)) [(Prod.mk 3 (Value.int IntKind.u64 x)), (Prod.mk 7 (Value.int IntKind.i64 s)), (Prod.mk 9 (Value.int IntKind.i64 j)), (Prod.mk 38 (Value.bool Bool.false))] [])) := by
  kernel_rfl
theorem b14_eq (w : Int) (K : Value → AHeap → Prop) : b14 w K = (((0 : Int) ≤ w) ∧ ((w < (4294967296 : Int)) ∧ (((0 : Int) = (0 : Int)) ∧ (((0 : Int) = (0 : Int)) ∧ (((0 : Int) ≤ (((encA (Int.toNat w) (32 : Nat)) : Nat) : Int)) ∧ (((((encA (Int.toNat w) (32 : Nat)) : Nat) : Int) < (18446744073709551616 : Int)) ∧ (∀ x1 : Int, ((x1 = (((synB (Nat.testBit (Int.toNat (((encA (Int.toNat w) (32 : Nat)) : Nat) : Int))) (39 : Nat)) : Nat) : Int)) → (∀ x2 : Int, ((x2 = (((parB (Nat.testBit (Int.toNat (((encA (Int.toNat w) (32 : Nat)) : Nat) : Int))) (39 : Nat)) : Nat) : Int)) → (((0 : Int) ≤ (((encA (Int.toNat w) (32 : Nat)) : Nat) : Int)) ∧ (((((encA (Int.toNat w) (32 : Nat)) : Nat) : Int) < (18446744073709551616 : Int)) ∧ (((0 : Int) ≤ x1) ∧ ((x1 < (64 : Int)) ∧ (((1 : Int) = (1 : Int)) ∧ (((0 : Int) ≤ (((encB (Int.toNat x1) (Int.toNat (((encA (Int.toNat w) (32 : Nat)) : Nat) : Int)) (6 : Nat)) : Nat) : Int)) ∧ (((((encB (Int.toNat x1) (Int.toNat (((encA (Int.toNat w) (32 : Nat)) : Nat) : Int)) (6 : Nat)) : Nat) : Int) < (18446744073709551616 : Int)) ∧ (∀ x3 : Int, ((x3 = (((synB (Nat.testBit (Int.toNat (((encB (Int.toNat x1) (Int.toNat (((encA (Int.toNat w) (32 : Nat)) : Nat) : Int)) (6 : Nat)) : Nat) : Int))) (39 : Nat)) : Nat) : Int)) → (∀ x4 : Int, ((x4 = (((parB (Nat.testBit (Int.toNat (((encB (Int.toNat x1) (Int.toNat (((encA (Int.toNat w) (32 : Nat)) : Nat) : Int)) (6 : Nat)) : Nat) : Int))) (39 : Nat)) : Nat) : Int)) → (∀ x5 : Int, ((x5 = (IntKind.wrap IntKind.u64 x4)) → (∀ x6 : Int, ((x6 = (iOr IntKind.u64 (((encB (Int.toNat x1) (Int.toNat (((encA (Int.toNat w) (32 : Nat)) : Nat) : Int)) (6 : Nat)) : Nat) : Int) x5)) → (K (Value.int IntKind.u64 x6) [])))))))))))))))))))))))))) := by
  kernel_rfl
end Go.Am.Ham
