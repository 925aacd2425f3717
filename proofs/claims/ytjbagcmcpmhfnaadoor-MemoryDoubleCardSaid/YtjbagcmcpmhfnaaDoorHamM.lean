/-
  Hamming: word and Decode, of the code and of the reference. Own work.
-/
import Derived.Test.YtjbagcmcpmhfnaaDoorHamL
namespace Go.Am.Ham
open Go Go.Am Go.Proofs
set_option maxRecDepth 100000

/-- The word of a coded word, by its first n bits. -/
def wordN (c : Nat) : Nat → Nat
  | 0 => 0
  | n + 1 => wordN c n + (c / 2 ^ plN n % 2) * 2 ^ n
theorem wordN_lt (c : Nat) : ∀ n, wordN c n < 2 ^ n
  | 0 => by simp [wordN]
  | n + 1 => by
    have h1 := wordN_lt c n
    have h2 : (c / 2 ^ plN n % 2) * 2 ^ n ≤ 1 * 2 ^ n := Nat.mul_le_mul_right _ (by have := Nat.mod_lt (c / 2 ^ plN n) (show 0 < 2 by omega); omega)
    unfold wordN
    rw [Nat.pow_succ]; omega
theorem add_or {x b i : Nat} (h : x < 2 ^ i) : x ||| b * 2 ^ i = x + b * 2 ^ i := by
  rw [Nat.or_comm, Nat.add_comm, Nat.mul_comm, ← Nat.two_pow_add_eq_or_of_lt h]
theorem plT_drop (i : Nat) (h : i < 32) : plT.drop i = plN i :: plT.drop (i + 1) := by
  rw [List.drop_eq_getElem_cons (show i < plT.length from h)]
  unfold plN
  rw [List.getD_eq_getElem?_getD, List.getElem?_eq_getElem (show i < plT.length from h)]; rfl

def s18 : Spec := fun args h K => match args, h with
  | [.int .u64 c], [] => 0 ≤ c ∧ c < 2 ^ 64 ∧ K (.int .u32 ((wordN c.toNat 32 : Nat) : Int)) []
  | _, _ => False
theorem w18_ok (c : Nat) (hc : c < 2 ^ 64) : ∀ n i, i + n = 32 → w18 (c : Int) (plT.drop i) i ((wordN c i : Nat) : Int) = ((wordN c 32 : Nat) : Int)
  | 0, i, h => by
    have : i = 32 := by omega
    subst this
    rfl
  | n + 1, i, h => by
    rw [plT_drop i (by omega)]
    have hw := wordN_lt c i
    have hle : 2 ^ (i + 1) ≤ 2 ^ 32 := Nat.pow_le_pow_right (by omega) (by omega)
    have hw2 := wordN_lt c (i + 1)
    have ho := add_or (b := c / 2 ^ plN i % 2) hw
    have ih := w18_ok c hc n (i + 1) (by omega)
    have e : wordN c (i + 1) = wordN c i + (c / 2 ^ plN i % 2) * 2 ^ i := rfl
    have hd : c / 2 ^ plN i < 2 ^ 64 := Nat.lt_of_le_of_lt (Nat.div_le_self _ _) hc
    show w18 (c : Int) (plT.drop (i + 1)) (i + 1) (sealI (iOr .u32 _ (IntKind.u32.wrap (IntKind.u32.wrap (iAnd .u64 (Int.fdiv (c : Int) (2 ^ plN i)) 1) * 2 ^ i)))) = _
    have hp : 2 ^ (i + 1) = 2 ^ i * 2 := Nat.pow_succ 2 i
    rw [sealI_eq, two_pow_cast, fdiv_cast, one_cast, iAnd_cast .u64 (by rw [cap_u64]; omega) (by rw [cap_u64]; omega), and_one, wrap_cast .u32 (by rw [cap_u32]; omega), two_pow_cast, ← Int.natCast_mul,
      wrap_cast .u32 (by rw [cap_u32]; omega), iOr_cast .u32 (by rw [cap_u32]; omega) (by rw [cap_u32]; omega), ho, ← e]
    exact ih
theorem ok18 : SpecOk Tryd.prog G0 132 s18 :=
  spec_of_body (tbl := tblE) (N := 22) (held := fun _ => false) (loops := fun _ => none) (keep := upto 22 0) (fuel := 100) (sl := [3]) mixed tblE_ok Tryd.func132
    (by kernel_rfl : Tryd.f132.body = some (codeOf Tryd.f132)) (by kernel_rfl) (fun _ _ _ => loopsOk_none (fun _ => rfl) _) (by
      intro args h K hk
      unfold s18 at hk
      split at hk
      · rename_i c
        have h0 := hk.1
        have h1 := hk.2.1
        replace hk := hk.2.2
        show bodyK (cfgE 22 (fun _ => false) [3]) (codeOf Tryd.f132) Tryd.f132.results.toList [.int .u64 c] [] K
        obtain ⟨c, rfl⟩ := nat_of h0
        rw [body18]
        rw [Int.toNat_natCast] at hk
        have := w18_ok c (by omega) 32 0 rfl
        rw [show wordN c 0 = 0 from rfl, List.drop_zero] at this
        rw [sealI_eq, show (0 : Int) = ((0 : Nat) : Int) from rfl, this]
        exact hk
      · exact hk.elim)

def s20 : Spec := s18
theorem r20_ok (K : Value → AHeap → Prop) (c : Nat) (hc : c < 2 ^ 64) : ∀ (i x : Nat), x * 2 ^ i + wordN c i < 2 ^ 32 → i ≤ 32 → K (.int .u32 ((x * 2 ^ i + wordN c i : Nat) : Int)) [] → r20 K (c : Int) i (x : Int)
  | 0, x, _, _, hk => by
    rw [Nat.pow_zero, Nat.mul_one, show wordN c 0 = 0 from rfl, Nat.add_zero] at hk
    exact hk
  | i + 1, x, hx, hi, hk => by
    have hpl := plN_lt i
    have e1 : plT.getD i 0 = plN i := rfl
    have hb : c / 2 ^ plN i % 2 < 2 := Nat.mod_lt _ (by omega)
    have e : x * 2 ^ (i + 1) + wordN c (i + 1) = (x * 2 + c / 2 ^ plN i % 2) * 2 ^ i + wordN c i := by
      rw [show wordN c (i + 1) = wordN c i + (c / 2 ^ plN i % 2) * 2 ^ i from rfl, Nat.pow_succ, Nat.add_mul, Nat.mul_assoc, Nat.mul_comm (2 ^ i) 2]; omega
    rw [e] at hx hk
    have h0 : 0 < 2 ^ i := Nat.two_pow_pos i
    have hb2 : x * 2 + c / 2 ^ plN i % 2 < 2 ^ 32 := Nat.lt_of_le_of_lt (Nat.le_trans (Nat.le_mul_of_pos_right _ h0) (Nat.le_add_right _ _)) hx
    unfold r20
    rw [e1]
    refine ⟨by omega, by omega, by omega, by omega, by omega, by omega, ?_⟩
    rw [sealI_eq, Int.toNat_natCast, two_cast, iMul_cast .u32 (by rw [cap_u32]; omega), wrap_cast .u32 (by rw [cap_u32]; omega), iAdd_cast .u32 (by rw [cap_u32]; omega)]
    exact r20_ok K c hc i _ hx (by omega) hk
theorem ok20 : SpecOk Tryd.prog G0 133 s20 :=
  okOf (tbl := tbl20) (N := 24) (sl := [3]) tbl20_ok Tryd.func133 (by kernel_rfl) (by kernel_rfl) (by
    intro args h K hk
    unfold s20 s18 at hk
    split at hk
    · rename_i c
      have h0 := hk.1
      have h1 := hk.2.1
      replace hk := hk.2.2
      obtain ⟨c, rfl⟩ := nat_of h0
      rw [body20, sealI_eq]
      rw [Int.toNat_natCast] at hk
      have hw := wordN_lt c 32
      refine r20_ok K c (by omega) 32 0 (by omega) (by omega) ?_
      rw [Nat.zero_mul, Nat.zero_add]; exact hk
    · exact hk.elim)

/-! ### Decode -/
def decN (c : Nat) : Nat × Nat × Nat :=
  if 2 ^ 39 ≤ c then (0, 0, 2) else
  if pcN c % 2 = 1 ∧ onesX c < 39 then (wordN (c ^^^ 2 ^ onesX c) 32, 1, 0) else
  if pcN c % 2 = 0 ∧ onesX c = 0 then (wordN c 32, 0, 0) else (0, 2, 0)
def decR (c : Nat) : Nat × Nat × Nat :=
  if 2 ^ 39 ≤ c then (0, 0, 2) else
  if synB c.testBit 39 = 0 ∧ parB c.testBit 39 = 0 then (wordN c 32, 0, 0) else
  if parB c.testBit 39 = 1 ∧ synB c.testBit 39 < 39 then (wordN (c ^^^ 2 ^ synB c.testBit 39) 32, 1, 0) else (0, 2, 0)
def tripV (p : Nat × Nat × Nat) : Value := .tuple #[.int .u32 ((p.1 : Nat) : Int), .int .i64 ((p.2.1 : Nat) : Int), .int .i64 ((p.2.2 : Nat) : Int)]
def s9 : Spec := fun args h K => match args, h with
  | [.int .u64 c], [] => 0 ≤ c ∧ c < 2 ^ 64 ∧ K (.tuple #[.int .u32 (((decN c.toNat).1 : Nat) : Int), .int .i64 (((decN c.toNat).2.1 : Nat) : Int), .int .i64 (((decN c.toNat).2.2 : Nat) : Int)]) []
  | _, _ => False
def s10 : Spec := fun args h K => match args, h with
  | [.int .u64 c], [] => 0 ≤ c ∧ c < 2 ^ 64 ∧ K (.tuple #[.int .u32 (((decR c.toNat).1 : Nat) : Int), .int .i64 (((decR c.toNat).2.1 : Nat) : Int), .int .i64 (((decR c.toNat).2.2 : Nat) : Int)]) []
  | _, _ => False
def tbl9 : List (Nat × Spec) := [(131, s16), (129, s17), (132, s18)]
theorem tbl9_ok : AllOk Tryd.prog G0 tbl9 := ⟨ok16, ok17, ok18, trivial⟩
noncomputable def c9 : FCfg := mkG Tryd.prog G0 tbl9 36 [(0, [0]), (1, [0, 9]), (2, [2, 3, 4]), (3, [0, 5, 6]), (4, [0, 5, 6, 15]), (5, [2, 3, 4]), (6, [0, 27]), (7, [2, 3, 4]), (8, [2, 3, 4])] [] [] [] [] [] 40 0
noncomputable def b9 (c : Int) (K : Value → AHeap → Prop) : Prop := bodyK c9 (codeOf Tryd.f113) Tryd.f113.results.toList [.int .u64 c] [] K
def tbl10 : List (Nat × Spec) := [(74, s19), (133, s20)]
theorem tbl10_ok : AllOk Tryd.prog G0 tbl10 := ⟨ok19, ok20, trivial⟩
noncomputable def c10 : FCfg := mkG Tryd.prog G0 tbl10 35 [(0, [0]), (1, [0, 9]), (2, [2, 3, 4]), (3, [0, 5, 6]), (4, [0, 5, 6, 20]), (5, [2, 3, 4]), (6, [0, 5, 28]), (7, [2, 3, 4]), (8, [2, 3, 4])] [] [] [] [] [] 40 0
noncomputable def b10 (c : Int) (K : Value → AHeap → Prop) : Prop := bodyK c10 (codeOf Tryd.f116) Tryd.f116.results.toList [.int .u64 c] [] K
theorem b9_eq (c : Int) (K : Value → AHeap → Prop) : b9 c K = (((0 : Int) ≤ c) ∧ ((c < (18446744073709551616 : Int)) ∧ (∀ x1 : Int, ((x1 = (((lenN (Int.toNat c)) : Nat) : Int)) → (cond (decide ((x1 > (39 : Int)))) (K (Value.tuple (Array.mk [(Value.int IntKind.u32 (0 : Int)), (Value.int IntKind.i64 (0 : Int)), (Value.int IntKind.i64 (2 : Int))])) []) (((0 : Int) ≤ c) ∧ ((c < (18446744073709551616 : Int)) ∧ (∀ x2 : Int, ((x2 = (((onesX (Int.toNat c)) : Nat) : Int)) → (∀ x3 : Int, ((x3 = ((((pcN (Int.toNat c)) % (2 : Nat) : Nat) : Nat) : Int)) → (cond (decide ((x3 = (1 : Int)))) (cond (decide ((x2 < (39 : Int)))) (cond (decide (((0 : Int) ≤ x2))) (∀ x6 : Int, ((x6 = (iMul IntKind.u64 (1 : Int) ((2 : Int) ^ (ite ((Int.toNat x2) ≤ (64 : Nat)) (Int.toNat x2) (64 : Nat)) : Int))) → (∀ x7 : Int, ((x7 = (iXor IntKind.u64 c x6)) → (((0 : Int) ≤ x7) ∧ ((x7 < (18446744073709551616 : Int)) ∧ (∀ x8 : Int, ((x8 = (((wordN (Int.toNat x7) (32 : Nat)) : Nat) : Int)) → (K (Value.tuple (Array.mk [(Value.int IntKind.u32 x8), (Value.int IntKind.i64 (1 : Int)), (Value.int IntKind.i64 (0 : Int))])) []))))))))) False) (cond (decide ((x3 = (0 : Int)))) (cond (decide ((x2 = (0 : Int)))) (((0 : Int) ≤ c) ∧ ((c < (18446744073709551616 : Int)) ∧ (∀ x5 : Int, ((x5 = (((wordN (Int.toNat c) (32 : Nat)) : Nat) : Int)) → (K (Value.tuple (Array.mk [(Value.int IntKind.u32 x5), (Value.int IntKind.i64 (0 : Int)), (Value.int IntKind.i64 (0 : Int))])) []))))) (K (Value.tuple (Array.mk [(Value.int IntKind.u32 (0 : Int)), (Value.int IntKind.i64 (2 : Int)), (Value.int IntKind.i64 (0 : Int))])) [])) (K (Value.tuple (Array.mk [(Value.int IntKind.u32 (0 : Int)), (Value.int IntKind.i64 (2 : Int)), (Value.int IntKind.i64 (0 : Int))])) []))) (cond (decide ((x3 = (0 : Int)))) (cond (decide ((x2 = (0 : Int)))) (((0 : Int) ≤ c) ∧ ((c < (18446744073709551616 : Int)) ∧ (∀ x4 : Int, ((x4 = (((wordN (Int.toNat c) (32 : Nat)) : Nat) : Int)) → (K (Value.tuple (Array.mk [(Value.int IntKind.u32 x4), (Value.int IntKind.i64 (0 : Int)), (Value.int IntKind.i64 (0 : Int))])) []))))) (K (Value.tuple (Array.mk [(Value.int IntKind.u32 (0 : Int)), (Value.int IntKind.i64 (2 : Int)), (Value.int IntKind.i64 (0 : Int))])) [])) (K (Value.tuple (Array.mk [(Value.int IntKind.u32 (0 : Int)), (Value.int IntKind.i64 (2 : Int)), (Value.int IntKind.i64 (0 : Int))])) [])))))))))))))) := by
  kernel_rfl
theorem b10_eq (c : Int) (K : Value → AHeap → Prop) : b10 c K = (∀ x1 : Int, ((x1 = (Int.fdiv c (549755813888 : Int))) → (cond (!(decide ((x1 = (0 : Int))))) (K (Value.tuple (Array.mk [(Value.int IntKind.u32 (0 : Int)), (Value.int IntKind.i64 (0 : Int)), (Value.int IntKind.i64 (2 : Int))])) []) (((0 : Int) ≤ c) ∧ ((c < (18446744073709551616 : Int)) ∧ (∀ x2 : Int, ((x2 = (((synB (Nat.testBit (Int.toNat c)) (39 : Nat)) : Nat) : Int)) → (∀ x3 : Int, ((x3 = (((parB (Nat.testBit (Int.toNat c)) (39 : Nat)) : Nat) : Int)) → (cond (decide ((x2 = (0 : Int)))) (cond (decide ((x3 = (0 : Int)))) (((0 : Int) ≤ c) ∧ ((c < (18446744073709551616 : Int)) ∧ (∀ x12 : Int, ((x12 = (((wordN (Int.toNat c) (32 : Nat)) : Nat) : Int)) → (K (Value.tuple (Array.mk [(Value.int IntKind.u32 x12), (Value.int IntKind.i64 (0 : Int)), (Value.int IntKind.i64 (0 : Int))])) []))))) (cond (decide ((x3 = (1 : Int)))) (cond (decide ((x2 < (39 : Int)))) (∀ x8 : Int, ((x8 = (IntKind.wrap IntKind.u64 x2)) → (cond (decide (((0 : Int) ≤ x8))) (∀ x9 : Int, ((x9 = (iMul IntKind.u64 (1 : Int) ((2 : Int) ^ (ite ((Int.toNat x8) ≤ (64 : Nat)) (Int.toNat x8) (64 : Nat)) : Int))) → (∀ x10 : Int, ((x10 = (iXor IntKind.u64 c x9)) → (((0 : Int) ≤ x10) ∧ ((x10 < (18446744073709551616 : Int)) ∧ (∀ x11 : Int, ((x11 = (((wordN (Int.toNat x10) (32 : Nat)) : Nat) : Int)) → (K (Value.tuple (Array.mk [(Value.int IntKind.u32 x11), (Value.int IntKind.i64 (1 : Int)), (Value.int IntKind.i64 (0 : Int))])) []))))))))) False))) (K (Value.tuple (Array.mk [(Value.int IntKind.u32 (0 : Int)), (Value.int IntKind.i64 (2 : Int)), (Value.int IntKind.i64 (0 : Int))])) [])) (K (Value.tuple (Array.mk [(Value.int IntKind.u32 (0 : Int)), (Value.int IntKind.i64 (2 : Int)), (Value.int IntKind.i64 (0 : Int))])) []))) (cond (decide ((x3 = (1 : Int)))) (cond (decide ((x2 < (39 : Int)))) (∀ x4 : Int, ((x4 = (IntKind.wrap IntKind.u64 x2)) → (cond (decide (((0 : Int) ≤ x4))) (∀ x5 : Int, ((x5 = (iMul IntKind.u64 (1 : Int) ((2 : Int) ^ (ite ((Int.toNat x4) ≤ (64 : Nat)) (Int.toNat x4) (64 : Nat)) : Int))) → (∀ x6 : Int, ((x6 = (iXor IntKind.u64 c x5)) → (((0 : Int) ≤ x6) ∧ ((x6 < (18446744073709551616 : Int)) ∧ (∀ x7 : Int, ((x7 = (((wordN (Int.toNat x6) (32 : Nat)) : Nat) : Int)) → (K (Value.tuple (Array.mk [(Value.int IntKind.u32 x7), (Value.int IntKind.i64 (1 : Int)), (Value.int IntKind.i64 (0 : Int))])) []))))))))) False))) (K (Value.tuple (Array.mk [(Value.int IntKind.u32 (0 : Int)), (Value.int IntKind.i64 (2 : Int)), (Value.int IntKind.i64 (0 : Int))])) [])) (K (Value.tuple (Array.mk [(Value.int IntKind.u32 (0 : Int)), (Value.int IntKind.i64 (2 : Int)), (Value.int IntKind.i64 (0 : Int))])) [])))))))))))) := by
  kernel_rfl
end Go.Am.Ham
