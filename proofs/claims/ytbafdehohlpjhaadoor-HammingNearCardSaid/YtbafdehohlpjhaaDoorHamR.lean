/-
  Hamming: the statements' own functions: what their texts compute. Own work.
-/
import Derived.Test.YtbafdehohlpjhaaDoorHamQ
namespace Go.Am.Ham
open Go Go.Am Go.Proofs
set_option maxRecDepth 100000

/-- The place of a bit, and whether there is one. -/
def plI (n : Int) : Nat := if 0 ≤ n ∧ n < 32 then plN n.toNat else 0
def plO (n : Int) : Bool := decide (0 ≤ n) && decide (n < 32)
theorem plR_eq (n : Int) : plR n = .tuple #[.int .i64 ((plI n : Nat) : Int), .bool (plO n)] := by
  unfold plR plI plO
  by_cases hn : 0 ≤ n ∧ n < 32
  · rw [decide_eq_true hn.1, decide_eq_true hn.2, Bool.and_true, cond_true, if_pos hn]; rfl
  · have : (decide (0 ≤ n) && decide (n < 32)) = false := by
      rw [← Bool.not_eq_true, Bool.and_eq_true, decide_eq_true_eq, decide_eq_true_eq]; exact hn
    rw [this, cond_false, if_neg hn]; rfl
def s11b : Spec := fun args h K => match args, h with
  | [.int .i64 n], [] => K (.tuple #[.int .i64 ((plI n : Nat) : Int), .bool (plO n)]) []
  | _, _ => False
theorem ok11b : SpecOk Tryd.prog G0 11 s11b := by
  intro W0 hG args h K hk
  refine ok11 W0 hG args h K ?_
  unfold s11b at hk
  split at hk
  · show K (plR _) []
    rw [plR_eq]; exact hk
  · exact hk.elim
def s12c : Spec := fun args h K => match args, h with
  | [.int .i64 n], [] => -1 ≤ n ∧ n ≤ 1000 ∧ K (.tuple #[.int .i64 ((plI n : Nat) : Int), .bool (plO n)]) []
  | _, _ => False
theorem ok12c : SpecOk Tryd.prog G0 12 s12c := by
  intro W0 hG args h K hk
  refine ok12 W0 hG args h K ?_
  unfold s12c at hk
  split at hk
  · refine ⟨hk.1, hk.2.1, ?_⟩
    rw [plR_eq]; exact hk.2.2
  · exact hk.elim
theorem ok10b : SpecOk Tryd.prog G0 10 s9 := by
  have : s10 = s9 := by
    funext args h K
    unfold s10 s9
    split <;> simp only [dec_eq]
  rw [← this]; exact ok10
theorem ok14b : SpecOk Tryd.prog G0 14 s13 := by
  have : s14 = s13 := by
    funext args h K
    unfold s14 s13
    split <;> simp only [enc_eq]
  rw [← this]; exact ok14

/-! ### awake -/
def tblL0 : List (Nat × Spec) := [(9, s9), (11, s11b), (13, s13)]
theorem tblL0_ok : AllOk Tryd.prog G0 tblL0 := ⟨ok9, ok11b, ok13, trivial⟩
noncomputable def c15 : FCfg := mkG Tryd.prog G0 tblL0 60 [(0, []), (1, [1, 2, 3]), (2, [1, 2, 3, 4, 5, 6]), (3, [1, 2, 3, 4, 5, 6, 7, 8]), (4, [0])] [] [] [] [] [] 40
noncomputable def b15 (K : Value → AHeap → Prop) : Prop := bodyK c15 (codeOf Tryd.f15) Tryd.f15.results.toList [] [] K
def s15 : Spec := fun args h K => match args, h with
  | [], [] => K (.bool true) []
  | _, _ => False
def tblL : List (Nat × Spec) := [(9, s9), (10, s9), (11, s11b), (12, s12c), (13, s13), (14, s13), (15, s15)]

/-! ### Codes -/
noncomputable def c3 : FCfg := mkG Tryd.prog G0 tblL 111 [(0, [0, 1, 2]), (1, [0, 1, 2, 7, 8, 9]), (2, [0, 1, 2, 7, 8, 9, 10, 11, 12]), (3, [0, 1, 2, 7, 8, 9, 10, 11, 12, 13, 14, 15]), (4, [0, 2, 7, 8, 9, 10, 11, 12, 13, 14, 15, 16, 17, 18]), (5, [0, 2, 7, 8, 9, 10, 11, 12, 13, 14, 15, 16, 17, 18, 19, 20]), (6, [0, 2, 7, 8, 9, 10, 11, 12, 13, 14, 15, 16, 17, 18, 19, 20, 21, 22]), (7, [0, 7, 8, 9, 10, 11, 12, 13, 14, 15, 16, 17, 18, 19, 20, 21, 22, 62]), (8, [0, 7, 8, 9, 10, 11, 12, 13, 14, 15, 16, 17, 18, 19, 20, 21, 22]), (9, [6])] [] [] [] [] [] 40
noncomputable def b3L (w c i : Int) (K : Value → AHeap → Prop) : Prop := bodyK c3 (codeOf Tryd.f3) Tryd.f3.results.toList [.int .u32 w, .int .u64 c, .int .i64 i] [] K

/-! ### Clean -/
def prevP : Nat → Nat
  | 0 => 0
  | j + 1 => plN j
def T4 : LSpec := fun e h k => match e, h with
  | [(0, .int .u32 w), (3, .int .u64 c), (7, .int .i64 l), (8, .int .i64 i)], [] => 0 ≤ w ∧ w < 2 ^ 32 ∧ c = ((encN w.toNat : Nat) : Int) ∧ l = 0 ∧ i = 0 ∧ k (.exit 0) [] []
  | _, _ => False
noncomputable def c4 : FCfg := mkG Tryd.prog G0 tblL 70 [(0, [0]), (1, [0, 3]), (2, [0, 3, 4, 5, 6]), (3, [0, 3, 33]), (4, [2]), (5, [0, 3, 7]), (6, [0, 3, 7, 8]), (7, [0, 3, 7, 8, 35]), (8, [0, 3, 7, 8]), (9, [0, 3, 7, 8, 9, 10]), (10, [0, 3, 8, 9, 67]), (11, [2]), (12, [0, 3, 7, 8]), (13, [2])] [(7, [0, 3, 7, 8])] [(7, [2])] [(7, T4)] [] [] 40
noncomputable def t4 (w c l i : Int) (k : AExit → Env → AHeap → Prop) : Prop := codeK c4 (nthLoop 0 (codeOf Tryd.f4)) [(0, .int .u32 w), (3, .int .u64 c), (7, .int .i64 l), (8, .int .i64 i)] [] k
noncomputable def b4 (w : Int) (K : Value → AHeap → Prop) : Prop := bodyK c4 (codeOf Tryd.f4) Tryd.f4.results.toList [.int .u32 w] [] K

/-! ### One -/
def T5 : LSpec := fun e h k => match e, h with
  | [(0, .int .u32 w), (3, .int .u64 c), (4, .int .i64 i)], [] => 0 ≤ w ∧ w < 2 ^ 32 ∧ c = ((encN w.toNat : Nat) : Int) ∧ i = 0 ∧ k (.exit 0) [] []
  | _, _ => False
noncomputable def c5 : FCfg := mkG Tryd.prog G0 tblL 36 [(0, [0]), (1, [0, 3]), (2, [0, 3, 4]), (3, [0, 3, 4, 11]), (4, [0, 3, 4]), (5, [0, 3, 4, 5, 6, 7]), (6, [0, 3, 4, 34]), (7, [2]), (8, [2])] [(3, [0, 3, 4])] [(3, [2])] [(3, T5)] [] [] 40
noncomputable def t5 (w c i : Int) (k : AExit → Env → AHeap → Prop) : Prop := codeK c5 (nthLoop 0 (codeOf Tryd.f5)) [(0, .int .u32 w), (3, .int .u64 c), (4, .int .i64 i)] [] k
noncomputable def b5 (w : Int) (K : Value → AHeap → Prop) : Prop := bodyK c5 (codeOf Tryd.f5) Tryd.f5.results.toList [.int .u32 w] [] K

/-! ### Two -/
def T6a : LSpec := fun e h k => match e, h with
  | [(3, .int .u64 c), (4, .int .i64 i)], [] => 0 ≤ c ∧ Valid c.toNat ∧ i = 0 ∧ k (.exit 0) [] []
  | _, _ => False
def T6b : LSpec := fun e h k => match e, h with
  | [(3, .int .u64 c), (4, .int .i64 i), (5, .int .i64 j)], [] => 0 ≤ c ∧ Valid c.toNat ∧ 0 ≤ i ∧ i < 39 ∧ j = i + 1 ∧ k (.exit 2) [(3, .int .u64 c), (4, .int .i64 i)] []
  | _, _ => False
noncomputable def c6 : FCfg := mkG Tryd.prog G0 tblL 46 [(0, [0]), (1, [3]), (2, [3, 4]), (3, [3, 4, 12]), (4, [3, 4]), (5, [3, 4, 5]), (6, [3, 4, 5, 18]), (7, [3, 4, 5]), (8, [3, 4, 5, 6, 7, 8]), (9, [3, 4, 5, 44]), (10, [2]), (11, [2])] [(3, [3, 4]), (6, [3, 4, 5])] [(3, [2]), (6, [2, 3, 4])] [(3, T6a), (6, T6b)] [] [] 40
noncomputable def t6a (c i : Int) (k : AExit → Env → AHeap → Prop) : Prop := codeK c6 (nthLoop 0 (codeOf Tryd.f6)) [(3, .int .u64 c), (4, .int .i64 i)] [] k
noncomputable def t6b (c i j : Int) (k : AExit → Env → AHeap → Prop) : Prop := codeK c6 (nthLoop 1 (codeOf Tryd.f6)) [(3, .int .u64 c), (4, .int .i64 i), (5, .int .i64 j)] [] k
noncomputable def b6 (w : Int) (K : Value → AHeap → Prop) : Prop := bodyK c6 (codeOf Tryd.f6) Tryd.f6.results.toList [.int .u32 w] [] K

/-! ### Distance -/
def T7 : LSpec := fun e h k => match e, h with
  | [(0, .int .u32 v), (1, .int .u32 w), (5, .int .u64 c), (6, .int .i64 n), (7, .int .i64 i)], [] => 0 ≤ c ∧ c < 2 ^ 64 ∧ n = 0 ∧ i = 0 ∧ k (.exit 0) [(0, .int .u32 v), (1, .int .u32 w), (5, .int .u64 c), (6, .int .i64 ((cnt c.toNat.testBit 64 : Nat) : Int))] []
  | _, _ => False
noncomputable def c7 : FCfg := mkG Tryd.prog G0 tblL 52 [(0, [0, 1]), (1, [0, 1, 5]), (2, [0, 1, 5, 6]), (3, [0, 1, 5, 6, 7]), (4, [0, 1, 5, 6, 7, 14]), (5, [0, 1, 5, 6, 7]), (6, [0, 1, 5, 6, 7]), (7, [4])] [(4, [0, 1, 5, 6, 7])] [(4, [0, 1, 5, 6])] [(4, T7)] [] [] 40
noncomputable def t7 (v w c n i : Int) (k : AExit → Env → AHeap → Prop) : Prop := codeK c7 (nthLoop 0 (codeOf Tryd.f7)) [(0, .int .u32 v), (1, .int .u32 w), (5, .int .u64 c), (6, .int .i64 n), (7, .int .i64 i)] [] k
noncomputable def b7 (v w : Int) (K : Value → AHeap → Prop) : Prop := bodyK c7 (codeOf Tryd.f7) Tryd.f7.results.toList [.int .u32 v, .int .u32 w] [] K

/-! ### Near -/
def T8a : LSpec := fun e h k => match e, h with
  | [(0, .int .u64 c), (3, .int .u32 w), (4, .int .i64 kd), (6, .int .i64 n), (7, .int .u64 d), (8, .int .i64 i)], [] => 0 ≤ d ∧ d < 2 ^ 64 ∧ n = 0 ∧ i = 0 ∧ k (.exit 0) [(0, .int .u64 c), (3, .int .u32 w), (4, .int .i64 kd), (6, .int .i64 ((cnt d.toNat.testBit 64 : Nat) : Int))] []
  | _, _ => False
def T8b : LSpec := fun e h k => match e, h with
  | [(0, .int .u64 c), (3, .int .u32 w), (9, .int .i64 i)], [] => 0 ≤ c ∧ c < 2 ^ 39 ∧ (∀ i, i < 39 → (decN (c.toNat ^^^ 2 ^ i)).2.1 ≠ 0) ∧ i = 0 ∧ k (.exit 3) [(3, .int .u32 w)] []
  | _, _ => False
noncomputable def c8 : FCfg := mkG Tryd.prog G0 tblL 77 [(0, [0]), (1, [0]), (2, [0, 3, 4, 5]), (3, [0, 3, 4, 22]), (4, [2]), (5, [0, 3, 4, 6]), (6, [0, 3, 4, 6, 7]), (7, [0, 3, 4, 6, 7, 8]), (8, [0, 3, 4, 6, 7, 8, 28]), (9, [0, 3, 4, 6, 7, 8]), (10, [0, 3, 4, 6, 7, 8]), (11, [0, 3, 6, 39]), (12, [0, 3, 6, 39, 40]), (13, [2]), (14, [0, 3, 6, 39, 47]), (15, [2]), (16, [0, 3, 54]), (17, [0, 3, 9]), (18, [0, 3, 9, 57]), (19, [0, 3, 9]), (20, [0, 3, 9, 11]), (21, [0, 3, 9, 71]), (22, [2]), (23, [2]), (24, [2])] [(8, [0, 3, 4, 6, 7, 8]), (18, [0, 3, 9])] [(8, [0, 3, 4, 6]), (18, [2, 3])] [(8, T8a), (18, T8b)] [] [] 40
noncomputable def t8a (c w kd n d i : Int) (k : AExit → Env → AHeap → Prop) : Prop := codeK c8 (nthLoop 0 (codeOf Tryd.f8)) [(0, .int .u64 c), (3, .int .u32 w), (4, .int .i64 kd), (6, .int .i64 n), (7, .int .u64 d), (8, .int .i64 i)] [] k
noncomputable def t8b (c w i : Int) (k : AExit → Env → AHeap → Prop) : Prop := codeK c8 (nthLoop 1 (codeOf Tryd.f8)) [(0, .int .u64 c), (3, .int .u32 w), (9, .int .i64 i)] [] k
noncomputable def b8 (c : Int) (K : Value → AHeap → Prop) : Prop := bodyK c8 (codeOf Tryd.f8) Tryd.f8.results.toList [.int .u64 c] [] K
theorem b15_eq (K : Value → AHeap → Prop) : b15 K = (((0 : Int) ≤ (14 : Int)) ∧ (((14 : Int) < (18446744073709551616 : Int)) ∧ (∀ x1 : Int, ((x1 = (1 : Int)) → (∀ x2 : Int, ((x2 = (1 : Int)) → (∀ x3 : Int, ((x3 = (0 : Int)) → (((0 : Int) ≤ (12 : Int)) ∧ (((12 : Int) < (18446744073709551616 : Int)) ∧ (∀ x4 : Int, ((x4 = (0 : Int)) → (∀ x5 : Int, ((x5 = (2 : Int)) → (∀ x6 : Int, ((x6 = (0 : Int)) → (∀ x7 : Int, ((x7 = (38 : Int)) → (((0 : Int) ≤ (1 : Int)) ∧ (((1 : Int) < (4294967296 : Int)) ∧ (∀ x8 : Int, ((x8 = (15 : Int)) → (cond (decide ((x8 = (15 : Int)))) (((0 : Int) ≤ (2 : Int)) ∧ (((2 : Int) < (4294967296 : Int)) ∧ (∀ x9 : Int, ((x9 = (51 : Int)) → (cond (decide ((x9 = (51 : Int)))) (cond (decide ((x1 = (1 : Int)))) (cond (decide ((x2 = (1 : Int)))) (cond (decide ((x3 = (0 : Int)))) (cond (decide ((x4 = (0 : Int)))) (cond (decide ((x5 = (2 : Int)))) (cond (decide ((x6 = (0 : Int)))) (cond (decide ((x7 = (38 : Int)))) (K (Value.bool Bool.true) []) (K (Value.bool Bool.false) [])) (K (Value.bool Bool.false) [])) (K (Value.bool Bool.false) [])) (K (Value.bool Bool.false) [])) (K (Value.bool Bool.false) [])) (K (Value.bool Bool.false) [])) (K (Value.bool Bool.false) [])) (K (Value.bool Bool.false) [])))))) (K (Value.bool Bool.false) [])))))))))))))))))))))))) := by
  kernel_rfl
theorem b3_eq (w c i : Int) (K : Value → AHeap → Prop) : b3L w c i K = (((0 : Int) ≤ c) ∧ ((c < (18446744073709551616 : Int)) ∧ (∀ x1 : Int, ((x1 = ((((decN (Int.toNat c))).fst : Nat) : Int)) → (∀ x2 : Int, ((x2 = (((((decN (Int.toNat c))).snd).fst : Nat) : Int)) → (∀ x3 : Int, ((x3 = (((((decN (Int.toNat c))).snd).snd : Nat) : Int)) → (((0 : Int) ≤ c) ∧ ((c < (18446744073709551616 : Int)) ∧ (∀ x4 : Int, ((x4 = ((((decN (Int.toNat c))).fst : Nat) : Int)) → (∀ x5 : Int, ((x5 = (((((decN (Int.toNat c))).snd).fst : Nat) : Int)) → (∀ x6 : Int, ((x6 = (((((decN (Int.toNat c))).snd).snd : Nat) : Int)) → (∀ x7 : Int, ((x7 = (Int.tmod c (549755813888 : Int))) → (((0 : Int) ≤ x7) ∧ ((x7 < (18446744073709551616 : Int)) ∧ (∀ x8 : Int, ((x8 = ((((decN (Int.toNat x7))).fst : Nat) : Int)) → (∀ x9 : Int, ((x9 = (((((decN (Int.toNat x7))).snd).fst : Nat) : Int)) → (∀ x10 : Int, ((x10 = (((((decN (Int.toNat x7))).snd).snd : Nat) : Int)) → (∀ x11 : Int, ((x11 = (Int.tmod c (549755813888 : Int))) → (((0 : Int) ≤ x11) ∧ ((x11 < (18446744073709551616 : Int)) ∧ (∀ x12 : Int, ((x12 = ((((decN (Int.toNat x11))).fst : Nat) : Int)) → (∀ x13 : Int, ((x13 = (((((decN (Int.toNat x11))).snd).fst : Nat) : Int)) → (∀ x14 : Int, ((x14 = (((((decN (Int.toNat x11))).snd).snd : Nat) : Int)) → (∀ x15 : Int, ((x15 = (((plI i) : Nat) : Int)) → (∀ x16 : Int, ((x16 = (ite ((1000 : Int) < i) (1000 : Int) i)) → (∀ x17 : Int, ((x17 = (ite (x16 > (-1 : Int)) x16 (-1 : Int))) → (((-1 : Int) ≤ x17) ∧ ((x17 ≤ (1000 : Int)) ∧ (∀ x18 : Int, ((x18 = (((plI x17) : Nat) : Int)) → (cond (decide ((i < (0 : Int)))) (((0 : Int) ≤ w) ∧ ((w < (4294967296 : Int)) ∧ (∀ x21 : Int, ((x21 = (((encN (Int.toNat w)) : Nat) : Int)) → (((0 : Int) ≤ w) ∧ ((w < (4294967296 : Int)) ∧ (∀ x22 : Int, ((x22 = (((encN (Int.toNat w)) : Nat) : Int)) → (cond (decide ((x21 = x22))) (cond (decide ((x1 = x4))) (cond (decide ((x2 = x5))) (cond (decide ((x3 = x6))) (cond (decide ((x8 = x12))) (cond (decide ((x9 = x13))) (cond (decide ((x10 = x14))) (cond (decide ((x15 = (0 : Int)))) (cond (decide (((plO i) = Bool.false))) (K (Value.bool Bool.true) []) (K (Value.bool Bool.false) [])) (K (Value.bool Bool.false) [])) (K (Value.bool Bool.false) [])) (K (Value.bool Bool.false) [])) (K (Value.bool Bool.false) [])) (K (Value.bool Bool.false) [])) (K (Value.bool Bool.false) [])) (K (Value.bool Bool.false) [])) (K (Value.bool Bool.false) [])))))))))) (((0 : Int) ≤ w) ∧ ((w < (4294967296 : Int)) ∧ (∀ x19 : Int, ((x19 = (((encN (Int.toNat w)) : Nat) : Int)) → (((0 : Int) ≤ w) ∧ ((w < (4294967296 : Int)) ∧ (∀ x20 : Int, ((x20 = (((encN (Int.toNat w)) : Nat) : Int)) → (cond (decide ((x19 = x20))) (cond (decide ((x1 = x4))) (cond (decide ((x2 = x5))) (cond (decide ((x3 = x6))) (cond (decide ((x8 = x12))) (cond (decide ((x9 = x13))) (cond (decide ((x10 = x14))) (cond (decide ((x15 = x18))) (cond (decide (((plO i) = (plO x17)))) (K (Value.bool Bool.true) []) (K (Value.bool Bool.false) [])) (K (Value.bool Bool.false) [])) (K (Value.bool Bool.false) [])) (K (Value.bool Bool.false) [])) (K (Value.bool Bool.false) [])) (K (Value.bool Bool.false) [])) (K (Value.bool Bool.false) [])) (K (Value.bool Bool.false) [])) (K (Value.bool Bool.false) []))))))))))))))))))))))))))))))))))))))))))))))))))))))))) := by
  kernel_rfl
theorem t4_eq (w c l i : Int) (k : AExit → Env → AHeap → Prop) : t4 w c l i k = (cond (decide ((i < (32 : Int)))) (∀ x1 : Int, ((x1 = (((plI i) : Nat) : Int)) → (cond (!(plO i)) (k AExit.ret [(Prod.mk 2 (Value.bool Bool.false))] []) (cond (decide ((x1 ≤ l))) (k AExit.ret [(Prod.mk 2 (Value.bool Bool.false))] []) (cond (decide ((x1 > (38 : Int)))) (k AExit.ret [(Prod.mk 2 (Value.bool Bool.false))] []) (∀ x2 : Int, ((x2 = (IntKind.wrap IntKind.u64 x1)) → (cond (decide (((0 : Int) ≤ x2))) (∀ x3 : Int, ((x3 = (Int.fdiv c ((2 : Int) ^ (ite ((Int.toNat x2) ≤ (64 : Nat)) (Int.toNat x2) (64 : Nat)) : Int))) → (∀ x4 : Int, ((x4 = (Int.tmod x3 (2 : Int))) → (∀ x5 : Int, ((x5 = (IntKind.wrap IntKind.u64 i)) → (cond (decide (((0 : Int) ≤ x5))) (∀ x6 : Int, ((x6 = (Int.fdiv w ((2 : Int) ^ (ite ((Int.toNat x5) ≤ (32 : Nat)) (Int.toNat x5) (32 : Nat)) : Int))) → (∀ x7 : Int, ((x7 = (Int.tmod x6 (2 : Int))) → (∀ x8 : Int, ((x8 = (IntKind.wrap IntKind.u64 x7)) → (cond (!(decide ((x4 = x8)))) (k AExit.ret [(Prod.mk 2 (Value.bool Bool.false))] []) (∀ x9 : Int, ((x9 = (iAdd IntKind.i64 i (1 : Int))) → (k AExit.normal [(Prod.mk 0 (Value.int IntKind.u32 w)), (Prod.mk 3 (Value.int IntKind.u64 c)), (Prod.mk 7 (Value.int IntKind.i64 x1)), (Prod.mk 8 (Value.int IntKind.i64 x9))] [])))))))))) False))))))) False)))))))) (k (AExit.exit 0) [(Prod.mk 0 (Value.int IntKind.u32 w)), (Prod.mk 3 (Value.int IntKind.u64 c)), (Prod.mk 7 (Value.int IntKind.i64 l)), (Prod.mk 8 (Value.int IntKind.i64 i)), (Prod.mk 35 (Value.bool Bool.false))] [])) := by
  kernel_rfl
theorem b4_eq (w : Int) (K : Value → AHeap → Prop) : b4 w K = (((0 : Int) ≤ w) ∧ ((w < (4294967296 : Int)) ∧ (∀ x1 : Int, ((x1 = (((encN (Int.toNat w)) : Nat) : Int)) → (((0 : Int) ≤ x1) ∧ ((x1 < (18446744073709551616 : Int)) ∧ (∀ x2 : Int, ((x2 = ((((decN (Int.toNat x1))).fst : Nat) : Int)) → (∀ x3 : Int, ((x3 = (((((decN (Int.toNat x1))).snd).fst : Nat) : Int)) → (∀ x4 : Int, ((x4 = (((((decN (Int.toNat x1))).snd).snd : Nat) : Int)) → (cond (decide ((x1 ≥ (549755813888 : Int)))) (K (Value.bool Bool.false) []) (cond (!(decide ((x2 = w)))) (K (Value.bool Bool.false) []) (cond (!(decide ((x3 = (0 : Int))))) (K (Value.bool Bool.false) []) (cond (!(decide ((x4 = (0 : Int))))) (K (Value.bool Bool.false) []) (((0 : Int) ≤ w) ∧ ((w < (4294967296 : Int)) ∧ ((x1 = (((encN (Int.toNat w)) : Nat) : Int)) ∧ (((0 : Int) = (0 : Int)) ∧ (((0 : Int) = (0 : Int)) ∧ (K (Value.bool Bool.true) [])))))))))))))))))))))) := by
  kernel_rfl
theorem t5_eq (w c i : Int) (k : AExit → Env → AHeap → Prop) : t5 w c i k = (cond (decide ((i < (39 : Int)))) (∀ x1 : Int, ((x1 = (IntKind.wrap IntKind.u64 i)) → (cond (decide (((0 : Int) ≤ x1))) (∀ x2 : Int, ((x2 = (iMul IntKind.u64 (1 : Int) ((2 : Int) ^ (ite ((Int.toNat x1) ≤ (64 : Nat)) (Int.toNat x1) (64 : Nat)) : Int))) → (∀ x3 : Int, ((x3 = (iXor IntKind.u64 c x2)) → (((0 : Int) ≤ x3) ∧ ((x3 < (18446744073709551616 : Int)) ∧ (∀ x4 : Int, ((x4 = ((((decN (Int.toNat x3))).fst : Nat) : Int)) → (∀ x5 : Int, ((x5 = (((((decN (Int.toNat x3))).snd).fst : Nat) : Int)) → (∀ x6 : Int, ((x6 = (((((decN (Int.toNat x3))).snd).snd : Nat) : Int)) → (cond (!(decide ((x4 = w)))) (k AExit.ret [(Prod.mk 2 (Value.bool Bool.false))] []) (cond (!(decide ((x5 = (1 : Int))))) (k AExit.ret [(Prod.mk 2 (Value.bool Bool.false))] []) (cond (!(decide ((x6 = (0 : Int))))) (k AExit.ret [(Prod.mk 2 (Value.bool Bool.false))] []) (∀ x7 : Int, ((x7 = (iAdd IntKind.i64 i (1 : Int))) → (k AExit.normal [(Prod.mk 0 (Value.int IntKind.u32 w)), (Prod.mk 3 (Value.int IntKind.u64 c)), (Prod.mk 4 (Value.int IntKind.i64 x7))] [])))))))))))))))))) False))) (k (AExit.exit 0) [(Prod.mk 0 (Value.int IntKind.u32 w)), (Prod.mk 3 (Value.int IntKind.u64 c)), (Prod.mk 4 (Value.int IntKind.i64 i)), (Prod.mk 11 (Value.bool Bool.false))] [])) := by
  kernel_rfl
theorem b5_eq (w : Int) (K : Value → AHeap → Prop) : b5 w K = (((0 : Int) ≤ w) ∧ ((w < (4294967296 : Int)) ∧ (∀ x1 : Int, ((x1 = (((encN (Int.toNat w)) : Nat) : Int)) → (((0 : Int) ≤ w) ∧ ((w < (4294967296 : Int)) ∧ ((x1 = (((encN (Int.toNat w)) : Nat) : Int)) ∧ (((0 : Int) = (0 : Int)) ∧ (K (Value.bool Bool.true) []))))))))) := by
  kernel_rfl
theorem t6a_eq (c i : Int) (k : AExit → Env → AHeap → Prop) : t6a c i k = (cond (decide ((i < (39 : Int)))) (∀ x1 : Int, ((x1 = (iAdd IntKind.i64 i (1 : Int))) → (((0 : Int) ≤ c) ∧ ((Valid (Int.toNat c)) ∧ (((0 : Int) ≤ i) ∧ ((i < (39 : Int)) ∧ ((x1 = (i + (1 : Int) : Int)) ∧ (∀ x2 : Int, ((x2 = (iAdd IntKind.i64 i (1 : Int))) → (k AExit.normal [(Prod.mk 3 (Value.int IntKind.u64 c)), (Prod.mk 4 (Value.int IntKind.i64 x2))] [])))))))))) (k (AExit.exit 0) [(Prod.mk 3 (Value.int IntKind.u64 c)), (Prod.mk 4 (Value.int IntKind.i64 i)), (Prod.mk 12 (Value.bool Bool.false))] [])) := by
  kernel_rfl
theorem t6b_eq (c i j : Int) (k : AExit → Env → AHeap → Prop) : t6b c i j k = (cond (decide ((j < (39 : Int)))) (∀ x1 : Int, ((x1 = (IntKind.wrap IntKind.u64 i)) → (cond (decide (((0 : Int) ≤ x1))) (∀ x2 : Int, ((x2 = (iMul IntKind.u64 (1 : Int) ((2 : Int) ^ (ite ((Int.toNat x1) ≤ (64 : Nat)) (Int.toNat x1) (64 : Nat)) : Int))) → (∀ x3 : Int, ((x3 = (iXor IntKind.u64 c x2)) → (∀ x4 : Int, ((x4 = (IntKind.wrap IntKind.u64 j)) → (cond (decide (((0 : Int) ≤ x4))) (∀ x5 : Int, ((x5 = (iMul IntKind.u64 (1 : Int) ((2 : Int) ^ (ite ((Int.toNat x4) ≤ (64 : Nat)) (Int.toNat x4) (64 : Nat)) : Int))) → (∀ x6 : Int, ((x6 = (iXor IntKind.u64 x3 x5)) → (((0 : Int) ≤ x6) ∧ ((x6 < (18446744073709551616 : Int)) ∧ (∀ x7 : Int, ((x7 = ((((decN (Int.toNat x6))).fst : Nat) : Int)) → (∀ x8 : Int, ((x8 = (((((decN (Int.toNat x6))).snd).fst : Nat) : Int)) → (∀ x9 : Int, ((x9 = (((((decN (Int.toNat x6))).snd).snd : Nat) : Int)) → (cond (!(decide ((x7 = (0 : Int))))) (k AExit.ret [(Prod.mk 2 (Value.bool Bool.false))] []) (cond (!(decide ((x8 = (2 : Int))))) (k AExit.ret [(Prod.mk 2 (Value.bool Bool.false))] []) (cond (!(decide ((x9 = (0 : Int))))) (k AExit.ret [(Prod.mk 2 (Value.bool Bool.false))] []) (∀ x10 : Int, ((x10 = (iAdd IntKind.i64 j (1 : Int))) → (k AExit.normal [(Prod.mk 3 (Value.int IntKind.u64 c)), (Prod.mk 4 (Value.int IntKind.i64 i)), (Prod.mk 5 (Value.int IntKind.i64 x10))] [])))))))))))))))))) False))))))) False))) (k (AExit.exit (2 : Nat)) [(Prod.mk 3 (Value.int IntKind.u64 c)), (Prod.mk 4 (Value.int IntKind.i64 i)), (Prod.mk 5 (Value.int IntKind.i64 j)), (Prod.mk 18 (Value.bool Bool.false))] [])) := by
  kernel_rfl
theorem b6_eq (w : Int) (K : Value → AHeap → Prop) : b6 w K = (((0 : Int) ≤ w) ∧ ((w < (4294967296 : Int)) ∧ (∀ x1 : Int, ((x1 = (((encN (Int.toNat w)) : Nat) : Int)) → (((0 : Int) ≤ x1) ∧ ((Valid (Int.toNat x1)) ∧ (((0 : Int) = (0 : Int)) ∧ (K (Value.bool Bool.true) [])))))))) := by
  kernel_rfl
theorem t7_eq (v w c n i : Int) (k : AExit → Env → AHeap → Prop) : t7 v w c n i k = (cond (decide ((i < (64 : Int)))) (∀ x1 : Int, ((x1 = (IntKind.wrap IntKind.u64 i)) → (cond (decide (((0 : Int) ≤ x1))) (∀ x2 : Int, ((x2 = (Int.fdiv c ((2 : Int) ^ (ite ((Int.toNat x1) ≤ (64 : Nat)) (Int.toNat x1) (64 : Nat)) : Int))) → (∀ x3 : Int, ((x3 = (Int.tmod x2 (2 : Int))) → (∀ x4 : Int, ((x4 = (IntKind.wrap IntKind.i64 x3)) → (∀ x5 : Int, ((x5 = (iAdd IntKind.i64 n x4)) → (∀ x6 : Int, ((x6 = (iAdd IntKind.i64 i (1 : Int))) → (k AExit.normal [(Prod.mk 0 (Value.int IntKind.u32 v)), (Prod.mk 1 (Value.int IntKind.u32 w)), (Prod.mk 5 (Value.int IntKind.u64 c)), (Prod.mk 6 (Value.int IntKind.i64 x5)), (Prod.mk 7 (Value.int IntKind.i64 x6))] []))))))))))) False))) (k (AExit.exit 0) [(Prod.mk 0 (Value.int IntKind.u32 v)), (Prod.mk 1 (Value.int IntKind.u32 w)), (Prod.mk 5 (Value.int IntKind.u64 c)), (Prod.mk 6 (Value.int IntKind.i64 n)), (Prod.mk 7 (Value.int IntKind.i64 i)), (Prod.mk 14 (Value.bool Bool.false))] [])) := by
  kernel_rfl
theorem b7_eq (v w : Int) (K : Value → AHeap → Prop) : b7 v w K = (((0 : Int) ≤ v) ∧ ((v < (4294967296 : Int)) ∧ (∀ x1 : Int, ((x1 = (((encN (Int.toNat v)) : Nat) : Int)) → (((0 : Int) ≤ w) ∧ ((w < (4294967296 : Int)) ∧ (∀ x2 : Int, ((x2 = (((encN (Int.toNat w)) : Nat) : Int)) → (∀ x3 : Int, ((x3 = (iXor IntKind.u64 x1 x2)) → (((0 : Int) ≤ x3) ∧ ((x3 < (18446744073709551616 : Int)) ∧ (((0 : Int) = (0 : Int)) ∧ (((0 : Int) = (0 : Int)) ∧ (∀ x4 : Int, ((x4 = (iXor IntKind.u32 v w)) → (((0 : Int) ≤ x4) ∧ ((x4 < (4294967296 : Int)) ∧ (∀ x5 : Int, ((x5 = (((encN (Int.toNat x4)) : Nat) : Int)) → (cond (decide ((x3 = x5))) (cond (decide ((v = w))) (cond (decide (((((cnt (Nat.testBit (Int.toNat x3)) (64 : Nat)) : Nat) : Int) = (0 : Int)))) (K (Value.bool Bool.true) []) (cond (!(decide ((v = w)))) (cond (decide (((((cnt (Nat.testBit (Int.toNat x3)) (64 : Nat)) : Nat) : Int) ≥ (4 : Int)))) (K (Value.bool Bool.true) []) (K (Value.bool Bool.false) [])) (K (Value.bool Bool.false) []))) (cond (!(decide ((v = w)))) (cond (decide (((((cnt (Nat.testBit (Int.toNat x3)) (64 : Nat)) : Nat) : Int) ≥ (4 : Int)))) (K (Value.bool Bool.true) []) (K (Value.bool Bool.false) [])) (K (Value.bool Bool.false) []))) (K (Value.bool Bool.false) [])))))))))))))))))))))) := by
  kernel_rfl
theorem t8a_eq (c w kd n d i : Int) (k : AExit → Env → AHeap → Prop) : t8a c w kd n d i k = (cond (decide ((i < (64 : Int)))) (∀ x1 : Int, ((x1 = (IntKind.wrap IntKind.u64 i)) → (cond (decide (((0 : Int) ≤ x1))) (∀ x2 : Int, ((x2 = (Int.fdiv d ((2 : Int) ^ (ite ((Int.toNat x1) ≤ (64 : Nat)) (Int.toNat x1) (64 : Nat)) : Int))) → (∀ x3 : Int, ((x3 = (Int.tmod x2 (2 : Int))) → (∀ x4 : Int, ((x4 = (IntKind.wrap IntKind.i64 x3)) → (∀ x5 : Int, ((x5 = (iAdd IntKind.i64 n x4)) → (∀ x6 : Int, ((x6 = (iAdd IntKind.i64 i (1 : Int))) → (k AExit.normal [(Prod.mk 0 (Value.int IntKind.u64 c)), (Prod.mk 3 (Value.int IntKind.u32 w)), (Prod.mk 4 (Value.int IntKind.i64 kd)), (Prod.mk 6 (Value.int IntKind.i64 x5)), (Prod.mk 7 (Value.int IntKind.u64 d)), (Prod.mk 8 (Value.int IntKind.i64 x6))] []))))))))))) False))) (k (AExit.exit 0) [(Prod.mk 0 (Value.int IntKind.u64 c)), (Prod.mk 3 (Value.int IntKind.u32 w)), (Prod.mk 4 (Value.int IntKind.i64 kd)), (Prod.mk 6 (Value.int IntKind.i64 n)), (Prod.mk 7 (Value.int IntKind.u64 d)), (Prod.mk 8 (Value.int IntKind.i64 i)), (Prod.mk 28 (Value.bool Bool.false))] [])) := by
  kernel_rfl
theorem t8b_eq (c w i : Int) (k : AExit → Env → AHeap → Prop) : t8b c w i k = (cond (decide ((i < (39 : Int)))) (∀ x1 : Int, ((x1 = (IntKind.wrap IntKind.u64 i)) → (cond (decide (((0 : Int) ≤ x1))) (∀ x2 : Int, ((x2 = (iMul IntKind.u64 (1 : Int) ((2 : Int) ^ (ite ((Int.toNat x1) ≤ (64 : Nat)) (Int.toNat x1) (64 : Nat)) : Int))) → (∀ x3 : Int, ((x3 = (iXor IntKind.u64 c x2)) → (((0 : Int) ≤ x3) ∧ ((x3 < (18446744073709551616 : Int)) ∧ (∀ x4 : Int, ((x4 = ((((decN (Int.toNat x3))).fst : Nat) : Int)) → (∀ x5 : Int, ((x5 = (((((decN (Int.toNat x3))).snd).fst : Nat) : Int)) → (∀ x6 : Int, ((x6 = (((((decN (Int.toNat x3))).snd).snd : Nat) : Int)) → (cond (decide ((x5 = (0 : Int)))) (k AExit.ret [(Prod.mk 2 (Value.bool Bool.false))] []) (∀ x7 : Int, ((x7 = (iAdd IntKind.i64 i (1 : Int))) → (k AExit.normal [(Prod.mk 0 (Value.int IntKind.u64 c)), (Prod.mk 3 (Value.int IntKind.u32 w)), (Prod.mk 9 (Value.int IntKind.i64 x7))] [])))))))))))))))) False))) (k (AExit.exit (3 : Nat)) [(Prod.mk 0 (Value.int IntKind.u64 c)), (Prod.mk 3 (Value.int IntKind.u32 w)), (Prod.mk 9 (Value.int IntKind.i64 i)), (Prod.mk 57 (Value.bool Bool.false))] [])) := by
  kernel_rfl
theorem b8_eq (c : Int) (K : Value → AHeap → Prop) : b8 c K = (∀ x1 : Int, ((x1 = (Int.tmod c (549755813888 : Int))) → (((0 : Int) ≤ x1) ∧ ((x1 < (18446744073709551616 : Int)) ∧ (∀ x2 : Int, ((x2 = ((((decN (Int.toNat x1))).fst : Nat) : Int)) → (∀ x3 : Int, ((x3 = (((((decN (Int.toNat x1))).snd).fst : Nat) : Int)) → (∀ x4 : Int, ((x4 = (((((decN (Int.toNat x1))).snd).snd : Nat) : Int)) → (cond (!(decide ((x4 = (0 : Int))))) (K (Value.bool Bool.false) []) (((0 : Int) ≤ x2) ∧ ((x2 < (4294967296 : Int)) ∧ (∀ x5 : Int, ((x5 = (((encN (Int.toNat x2)) : Nat) : Int)) → (∀ x6 : Int, ((x6 = (iXor IntKind.u64 x1 x5)) → (((0 : Int) ≤ x6) ∧ ((x6 < (18446744073709551616 : Int)) ∧ (((0 : Int) = (0 : Int)) ∧ (((0 : Int) = (0 : Int)) ∧ (cond (decide ((x3 = (0 : Int)))) (cond (decide (((((cnt (Nat.testBit (Int.toNat x6)) (64 : Nat)) : Nat) : Int) = (0 : Int)))) (K (Value.bool Bool.true) []) (K (Value.bool Bool.false) [])) (cond (decide ((x3 = (1 : Int)))) (cond (decide (((((cnt (Nat.testBit (Int.toNat x6)) (64 : Nat)) : Nat) : Int) = (1 : Int)))) (K (Value.bool Bool.true) []) (K (Value.bool Bool.false) [])) (cond (decide ((x3 = (2 : Int)))) (((0 : Int) ≤ x1) ∧ ((x1 < (549755813888 : Int)) ∧ ((∀ x7 : Nat, ((x7 < (39 : Nat)) → (((((decN (HXor.hXor (Int.toNat x1) (HPow.hPow (OfNat.ofNat (2 : Nat)) x7)))).snd).fst = 0) → False))) ∧ (((0 : Int) = (0 : Int)) ∧ (cond (decide ((x2 = (0 : Int)))) (K (Value.bool Bool.true) []) (K (Value.bool Bool.false) [])))))) (K (Value.bool Bool.false) []))))))))))))))))))))))))) := by
  kernel_rfl
end Go.Am.Ham
