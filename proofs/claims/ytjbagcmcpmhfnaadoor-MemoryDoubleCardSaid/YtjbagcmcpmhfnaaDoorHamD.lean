/-
  Hamming: hamming.ones, a loop over the bits that are set. Own work.
-/
import Derived.Test.YtjbagcmcpmhfnaaDoorHamC
namespace Go.Am.Ham
open Go Go.Am Go.Proofs
set_option maxRecDepth 100000

theorem and_pred_lt {n : Nat} (h : n ≠ 0) : n &&& (n - 1) < n := by
  have : n &&& (n - 1) ≤ n - 1 := Nat.and_le_right
  omega
/-- The exclusive or of the places of the bits that are set, as the loop finds them. -/
def onesX (n : Nat) : Nat := if h : n = 0 then 0 else tzR n ^^^ onesX (n &&& (n - 1))
termination_by n
decreasing_by exact and_pred_lt h
theorem onesX_zero : onesX 0 = 0 := by rw [onesX]; simp
theorem onesX_pos {n : Nat} (h : n ≠ 0) : onesX n = tzR n ^^^ onesX (n &&& (n - 1)) := by rw [onesX]; simp [h]
theorem tzR_lt (n : Nat) : tzR n < 64 := by
  obtain ⟨v, h1, h2, _⟩ := tab_facts ⟨tzI n, tzI_lt n⟩
  have : tzR n = v := h2
  omega

def T24 : LSpec := fun e h k => match e, h with
  | [(0, .int .u64 c), (1, .func (.func 139) ⟨[]⟩ ⟨[.pointer (some ⟨0, 0, some 0⟩)]⟩)], [.cells true [.int .i64 x] ty mv] =>
    0 ≤ c ∧ c < 2 ^ 64 ∧ 0 ≤ x ∧ x < 64 ∧ k (.exit 0) [] [.cells true [.int .i64 ((x.toNat ^^^ onesX c.toNat : Nat) : Int)] ty mv]
  | _, _ => False
def clo : Value := .func (.func 139) #[] #[.pointer (some ⟨0, 0, some 0⟩)]
def tbl24 : List (Nat × Spec) := [(139, s25), (141, s27)]
noncomputable def c24 : FCfg := mkG Tryd.prog G0 tbl24 14 [(0, [0, 1, 5]), (1, [0, 1]), (2, [0, 1])] [(0, [0, 1])] [(0, [])] [(0, T24)] [] [] 40 1
noncomputable def t24 (c x : Int) (ty : TypeId) (mv : Bool) (k : AExit → Env → AHeap → Prop) : Prop := codeK c24 (nthLoop 0 (codeOf Tryd.f138)) [(0, .int .u64 c), (1, clo)] [.cells true [.int .i64 x] ty mv] k
noncomputable def b24 (c x : Int) (ty : TypeId) (mv : Bool) (K : Value → AHeap → Prop) : Prop := bodyK c24 (codeOf Tryd.f138) Tryd.f138.results.toList [.int .u64 c, clo] [.cells true [.int .i64 x] ty mv] K
theorem t24_eq (c x : Int) (ty : TypeId) (mv : Bool) (k : AExit → Env → AHeap → Prop) : t24 c x ty mv k = (cond (!(decide ((c = (0 : Int))))) (((0 : Int) < c) ∧ ((c < (18446744073709551616 : Int)) ∧ (∀ x1 : Int, ((x1 = (((tzR (Int.toNat c)) : Nat) : Int)) → (((0 : Int) ≤ x1) ∧ ((x1 < (64 : Int)) ∧ (((0 : Int) ≤ x) ∧ ((x < (64 : Int)) ∧ (∀ x2 : Int, ((x2 = (iSub IntKind.u64 c (1 : Int))) → (∀ x3 : Int, ((x3 = (iAnd IntKind.u64 c x2)) → (k AExit.normal [(Prod.mk 0 (Value.int IntKind.u64 x3)), (Prod.mk 1 (Value.func (Fn.func (139 : Nat)) (Array.mk []) (Array.mk [(Value.pointer (Option.some (Addr.mk 0 0 (Option.some 0))))])))] [(AObj.cells Bool.true [(Value.int IntKind.i64 ((((Int.toNat x) ^^^ (Int.toNat x1) : Nat) : Nat) : Int))] ty mv)]))))))))))))) (k (AExit.exit 0) [(Prod.mk 0 (Value.int IntKind.u64 c)), (Prod.mk 1 (Value.func (Fn.func (139 : Nat)) (Array.mk []) (Array.mk [(Value.pointer (Option.some (Addr.mk 0 0 (Option.some 0))))]))), (Prod.mk 5 (Value.bool Bool.false))] [(AObj.cells Bool.true [(Value.int IntKind.i64 x)] ty mv)])) := by
  kernel_rfl
theorem b24_eq (c x : Int) (ty : TypeId) (mv : Bool) (K : Value → AHeap → Prop) : b24 c x ty mv K = (((0 : Int) ≤ c) ∧ ((c < (18446744073709551616 : Int)) ∧ (((0 : Int) ≤ x) ∧ ((x < (64 : Int)) ∧ (K Go.undef [(AObj.cells Bool.true [(Value.int IntKind.i64 ((((Int.toNat x) ^^^ (onesX (Int.toNat c)) : Nat) : Nat) : Int))] ty mv)]))))) := by
  kernel_rfl

theorem xor64 {a b : Nat} (ha : a < 64) (hb : b < 64) : a ^^^ b < 64 := Nat.xor_lt_two_pow (n := 6) ha hb

theorem loop24 : ∀ e h k, T24 e h k → ∃ m, loopN c24 (codeOf Tryd.f138) 0 0 m e h k := by
  intro e h k hT
  unfold T24 at hT
  split at hT
  · rename_i c x ty mv
    obtain ⟨h0, h1, h2, h3, hk⟩ := hT
    have key : ∀ c' x' : Nat, c' < 2 ^ 64 → x' < 64 → x' ^^^ onesX c' = x.toNat ^^^ onesX c.toNat → ∃ m, loopN c24 (codeOf Tryd.f138) 0 0 m [(0, .int .u64 (c' : Int)), (1, clo)] [.cells true [.int .i64 (x' : Int)] ty mv] k := by
      intro c'
      induction c' using Nat.strongRecOn with
      | ind c' ih =>
        intro x' g1 g2 g3
        by_cases hz : c' = 0
        · subst hz
          refine ⟨1, ?_⟩
          rw [loopN_succ]
          show t24 _ _ _ _ _
          rw [t24_eq, decide_eq_true (show ((0 : Nat) : Int) = 0 from rfl), Bool.not_true, cond_false]
          show k (.exit 0) [] [.cells true [.int .i64 ((x' : Nat) : Int)] ty mv]
          rw [onesX_zero, Nat.xor_zero] at g3
          rw [g3]; exact hk
        · have ht := tzR_lt c'
          have hlt := and_pred_lt hz
          obtain ⟨m, hm⟩ := ih (c' &&& (c' - 1)) hlt (x' ^^^ tzR c') (by omega) (xor64 g2 ht) (by rw [← g3, onesX_pos hz, Nat.xor_assoc])
          refine ⟨m + 1, ?_⟩
          rw [loopN_succ]
          show t24 _ _ _ _ _
          rw [t24_eq, decide_eq_false (show ¬ ((c' : Int) = 0) from by omega), Bool.not_false, cond_true]
          rw [Int.toNat_natCast]
          refine ⟨by omega, by omega, ?_⟩
          rintro _ rfl
          rw [Int.toNat_natCast, Int.toNat_natCast]
          refine ⟨by omega, by omega, by omega, by omega, ?_⟩
          rintro x3 e3 x4 e4
          rw [show (1 : Int) = ((1 : Nat) : Int) from rfl, iSub_cast .u64 (by omega) (by rw [cap_u64]; omega)] at e3
          rw [e3, iAnd_cast .u64 (by rw [cap_u64]; omega) (by rw [cap_u64]; omega)] at e4
          rw [e4]
          exact hm
    obtain ⟨m, hm⟩ := key c.toNat x.toNat (by omega) (by omega) rfl
    rw [Int.toNat_of_nonneg h0, Int.toNat_of_nonneg h2] at hm
    exact ⟨m, hm⟩
  · exact hT.elim

def s24 : Spec := fun args h K => match args, h with
  | [.int .u64 c, .func (.func 139) ⟨[]⟩ ⟨[.pointer (some ⟨0, 0, some 0⟩)]⟩], [.cells true [.int .i64 x] ty mv] =>
    0 ≤ c ∧ c < 2 ^ 64 ∧ 0 ≤ x ∧ x < 64 ∧ K (.tuple #[]) [.cells true [.int .i64 ((x.toNat ^^^ onesX c.toNat : Nat) : Int)] ty mv]
  | _, _ => False
theorem tbl24_ok : AllOk Tryd.prog G0 tbl24 := ⟨ok25, ok27, trivial⟩
theorem ok24 : SpecOk Tryd.prog G0 138 s24 :=
  spec2 mixed tbl24_ok Tryd.func138 (by kernel_rfl : Tryd.f138.body = some (codeOf Tryd.f138)) c24 rfl rfl rfl (by kernel_rfl) (ids := [0]) (by kernel_rfl) ⟨loop24, trivial⟩ (by
    intro args h K hk
    unfold s24 at hk
    split at hk
    · rename_i c x ty mv
      show b24 c x ty mv K
      rw [b24_eq]
      exact hk
    · exact hk.elim)
end Go.Am.Ham
