/-
  Hamming: the reference's syndrome, a loop over 39 places. Own work.
-/
import Derived.Test.YtbafdehohlpjhaaDoorHamE
namespace Go.Am.Ham
open Go Go.Am Go.Proofs
set_option maxRecDepth 100000

/-- The exclusive or of the places below n that are set, and whether their number is odd. -/
def synB (b : Nat → Bool) : Nat → Nat
  | 0 => 0
  | n + 1 => if b n then synB b n ^^^ n else synB b n
def parB (b : Nat → Bool) : Nat → Nat
  | 0 => 0
  | n + 1 => if b n then 1 - parB b n else parB b n
theorem synB_lt (b : Nat → Bool) : ∀ n, n ≤ 64 → synB b n < 64
  | 0, _ => by simp [synB]
  | n + 1, h => by
    have := synB_lt b n (by omega)
    unfold synB
    split
    · exact xor64 this (by omega)
    · exact this
theorem parB_le (b : Nat → Bool) : ∀ n, parB b n ≤ 1
  | 0 => by simp [parB]
  | n + 1 => by
    have := parB_le b n
    unfold parB
    split <;> omega

def s19 : Spec := fun args h K => match args, h with
  | [.int .u64 c], [] => 0 ≤ c ∧ c < 2 ^ 64 ∧ K (.tuple #[.int .i64 ((synB c.toNat.testBit 39 : Nat) : Int), .int .i64 ((parB c.toNat.testBit 39 : Nat) : Int)]) []
  | _, _ => False
def T19 (e : Env) (h : AHeap) (k : AExit → Env → AHeap → Prop) : Prop :=
  match eget e 0, eget e 4, eget e 5, eget e 6, h with
  | some (.int .u64 c), some (.int .i64 0), some (.int .i64 0), some (.int .i64 0), [] =>
    0 ≤ c ∧ c < 2 ^ 64 ∧ k (.exit 0) [(4, .int .i64 ((synB c.toNat.testBit 39 : Nat) : Int)), (5, .int .i64 ((parB c.toNat.testBit 39 : Nat) : Int))] []
  | _, _, _, _, _ => False
def tbl19 : List (Nat × Spec) := [(26, s26)]
theorem tbl19_ok : AllOk Tryd.prog G0 tbl19 := ⟨ok26, trivial⟩
noncomputable def cfg19 : FCfg := mkF Tryd.prog G0 tbl19 22 (fun _ => false) (fun i => match i with | 3 => some T19 | _ => none) (upto 22 0) 100 [17]

noncomputable def round19 : Code := nthLoop 0 (codeOf Tryd.f19)
noncomputable def t19 (c s p i : Int) (k : AExit → Env → AHeap → Prop) : Prop := codeK cfg19 round19 [(0, .int .u64 c), (4, .int .i64 s), (5, .int .i64 p), (6, .int .i64 i)] [] k
noncomputable def b19 (c : Int) (K : Value → AHeap → Prop) : Prop := bodyK cfg19 (codeOf Tryd.f19) Tryd.f19.results.toList [.int .u64 c] [] K
--HEAD
theorem t19_eq (c s p i : Int) (k : AExit → Env → AHeap → Prop) : t19 c s p i k = (cond (decide ((i < (39 : Int)))) (((0 : Int) ≤ c) ∧ ((c < (18446744073709551616 : Int)) ∧ (((0 : Int) ≤ i) ∧ ((i < (64 : Int)) ∧ (cond (decide (((((((Int.toNat c) / (Nat.pow (2 : Nat) (Int.toNat i)) : Nat) % (2 : Nat) : Nat) : Nat) : Int) = (1 : Int)))) (k AExit.normal [(Prod.mk 0 (Value.int IntKind.u64 c)), (Prod.mk (4 : Nat) (Value.int IntKind.i64 (sealI (iXor IntKind.i64 s i)))), (Prod.mk (5 : Nat) (Value.int IntKind.i64 (iSub IntKind.i64 (1 : Int) p))), (Prod.mk (6 : Nat) (Value.int IntKind.i64 (iAdd IntKind.i64 i (1 : Int)))), (Prod.mk (7 : Nat) (Value.int IntKind.i64 i)), (Prod.mk (8 : Nat) (Value.bool Bool.true)), (Prod.mk (9 : Nat) (Value.int IntKind.i64 i)), (Prod.mk (10 : Nat) (Value.int IntKind.i64 (iAdd IntKind.i64 i (1 : Int)))), (Prod.mk (11 : Nat) (Value.int IntKind.u64 c)), (Prod.mk (12 : Nat) (Value.int IntKind.i64 i)), (Prod.mk (13 : Nat) (Value.int IntKind.i64 (((((Int.toNat c) / (Nat.pow (2 : Nat) (Int.toNat i)) : Nat) % (2 : Nat) : Nat) : Nat) : Int))), (Prod.mk (14 : Nat) (Value.bool Bool.true)), (Prod.mk (15 : Nat) (Value.int IntKind.i64 s)), (Prod.mk (16 : Nat) (Value.int IntKind.i64 i)), (Prod.mk (17 : Nat) (Value.int IntKind.i64 (sealI (iXor IntKind.i64 s i)))), (Prod.mk (18 : Nat) (Value.int IntKind.i64 p)), (Prod.mk (19 : Nat) (Value.int IntKind.i64 (iSub IntKind.i64 (1 : Int) p)))] []) (k AExit.normal [(Prod.mk 0 (Value.int IntKind.u64 c)), (Prod.mk (4 : Nat) (Value.int IntKind.i64 s)), (Prod.mk (5 : Nat) (Value.int IntKind.i64 p)), (Prod.mk (6 : Nat) (Value.int IntKind.i64 (iAdd IntKind.i64 i (1 : Int)))), (Prod.mk (7 : Nat) (Value.int IntKind.i64 i)), (Prod.mk (8 : Nat) (Value.bool Bool.true)), (Prod.mk (9 : Nat) (Value.int IntKind.i64 i)), (Prod.mk (10 : Nat) (Value.int IntKind.i64 (iAdd IntKind.i64 i (1 : Int)))), (Prod.mk (11 : Nat) (Value.int IntKind.u64 c)), (Prod.mk (12 : Nat) (Value.int IntKind.i64 i)), (Prod.mk (13 : Nat) (Value.int IntKind.i64 (((((Int.toNat c) / (Nat.pow (2 : Nat) (Int.toNat i)) : Nat) % (2 : Nat) : Nat) : Nat) : Int))), (Prod.mk (14 : Nat) (Value.bool Bool.false))] [])))))) (k (AExit.exit 0) [(Prod.mk 0 (Value.int IntKind.u64 c)), (Prod.mk (4 : Nat) (Value.int IntKind.i64 s)), (Prod.mk (5 : Nat) (Value.int IntKind.i64 p)), (Prod.mk (6 : Nat) (Value.int IntKind.i64 i)), (Prod.mk (7 : Nat) (Value.int IntKind.i64 i)), (Prod.mk (8 : Nat) (Value.bool Bool.false))] [])) := by
  kernel_rfl
theorem b19_eq (c : Int) (K : Value → AHeap → Prop) : b19 c K = (((0 : Int) ≤ c) ∧ ((c < (18446744073709551616 : Int)) ∧ (K (Value.tuple (Array.mk [(Value.int IntKind.i64 (((synB (Nat.testBit (Int.toNat c)) (39 : Nat)) : Nat) : Int)), (Value.int IntKind.i64 (((parB (Nat.testBit (Int.toNat c)) (39 : Nat)) : Nat) : Int))])) []))) := by
  kernel_rfl

theorem bit_testBit (n i : Nat) : (n / 2 ^ i % 2 = 1) ↔ n.testBit i = true := by
  rw [Nat.testBit_eq_decide_div_mod_eq, decide_eq_true_eq]

theorem loop19 (W0 : World) (hG : GOk G0 W0) (hC : SoundC cfg19.toCfg W0) (e : Env) (h : AHeap) (k : AExit → Env → AHeap → Prop) (hT : T19 e h k) : Wp W0 cfg19.toCfg (.loop round19) e h k := by
  unfold T19 at hT
  split at hT
  · rename_i c he0 he4 he5 he6
    obtain ⟨h0, h1, hk⟩ := hT
    have key : keepE [0, 4, 5, 6] e = [(0, .int .u64 c), (4, .int .i64 0), (5, .int .i64 0), (6, .int .i64 0)] := by simp only [keepE, he0, he4, he5, he6]
    have hc : c = ((c.toNat : Nat) : Int) := (Int.toNat_of_nonneg h0).symm
    have h1 : c.toNat < 2 ^ 64 := by omega
    generalize c.toNat = m at *
    subst hc
    refine Wp.loop2 [0, 4, 5, 6] [4, 5] [] (fun n e' h' => ∃ i : Nat, i ≤ 39 ∧ n = 39 - i ∧ h' = [] ∧
      e' = [(0, .int .u64 (m : Int)), (4, .int .i64 ((synB m.testBit i : Nat) : Int)), (5, .int .i64 ((parB m.testBit i : Nat) : Int)), (6, .int .i64 (i : Int))]) 39
      ⟨0, by omega, rfl, rfl, key⟩ ?_
    rintro n e' h' ⟨i, g1, g2, rfl, rfl⟩
    refine codeK_sound mixed hG hC round19 (loopsOk_nil (by kernel_rfl)) _ _ _ ?_
    show t19 (m : Int) _ _ (i : Int) _
    rw [t19_eq]
    by_cases hi : i < 39
    · rw [decide_eq_true (show (i : Int) < 39 from by omega), cond_true]
      refine ⟨by omega, by omega, by omega, by omega, ?_⟩
      rw [Int.toNat_natCast, Int.toNat_natCast]
      have ea : iAdd .i64 (i : Int) 1 = ((i + 1 : Nat) : Int) := by
        rw [show (1 : Int) = ((1 : Nat) : Int) from rfl, iAdd_cast .i64 (by rw [cap_i64]; omega)]
      have hs := synB_lt m.testBit i (by omega)
      have hp := parB_le m.testBit i
      by_cases hb : m.testBit i = true
      · have e1 : m / 2 ^ i % 2 = 1 := (bit_testBit m i).2 hb
        rw [decide_eq_true (show (((m / Nat.pow 2 i % 2 : Nat) : Nat) : Int) = 1 from by show ((m / 2 ^ i % 2 : Nat) : Int) = 1; rw [e1]; rfl), cond_true]
        refine ⟨39 - (i + 1), by omega, i + 1, by omega, rfl, rfl, ?_⟩
        show [(0, Value.int IntKind.u64 (m : Int)), (4, Value.int IntKind.i64 (sealI (iXor IntKind.i64 ((synB m.testBit i : Nat) : Int) (i : Int)))), (5, Value.int IntKind.i64 (iSub IntKind.i64 1 ((parB m.testBit i : Nat) : Int))), (6, Value.int IntKind.i64 (iAdd IntKind.i64 (i : Int) 1))] = _
        rw [ea, sealI_eq, iXor_cast .i64 (by rw [cap_i64]; omega) (by rw [cap_i64]; omega), show (1 : Int) = ((1 : Nat) : Int) from rfl, iSub_cast .i64 hp (by rw [cap_i64]; omega)]
        simp only [synB, parB, hb, if_true]
      · have e1 : ¬ (m / 2 ^ i % 2 = 1) := fun h => hb ((bit_testBit m i).1 h)
        rw [decide_eq_false (show ¬ ((((m / Nat.pow 2 i % 2 : Nat) : Nat) : Int) = 1) from fun h => e1 (by have h : ((m / 2 ^ i % 2 : Nat) : Int) = 1 := h; omega)), cond_false]
        refine ⟨39 - (i + 1), by omega, i + 1, by omega, rfl, rfl, ?_⟩
        show [(0, Value.int IntKind.u64 (m : Int)), (4, Value.int IntKind.i64 ((synB m.testBit i : Nat) : Int)), (5, Value.int IntKind.i64 ((parB m.testBit i : Nat) : Int)), (6, Value.int IntKind.i64 (iAdd IntKind.i64 (i : Int) 1))] = _
        rw [ea]
        simp only [synB, parB, hb, if_false, Bool.false_eq_true]
    · rw [decide_eq_false (show ¬ ((i : Int) < 39) from by omega), cond_false]
      have e1 : i = 39 := by omega
      subst e1
      exact hk
  · exact hT.elim

theorem ok19 : SpecOk Tryd.prog G0 19 s19 :=
  spec_of_body (tbl := tbl19) (N := 22) (held := fun _ => false) (loops := fun i => match i with | 3 => some T19 | _ => none) (keep := upto 22 0) (fuel := 100) (sl := [17]) mixed tbl19_ok Tryd.func19
    (by kernel_rfl : Tryd.f19.body = some (codeOf Tryd.f19)) (by kernel_rfl)
    (fun W0 hG => loopsOk_of fun a ha T hT e h k hk => by
      rw [show loopsIn (codeOf Tryd.f19) = [round19] from by kernel_rfl, List.mem_singleton] at ha
      subst ha
      have e0 : firstReg round19 = 3 := by kernel_rfl
      rw [e0] at hT
      cases hT
      exact loop19 W0 hG (fun _ _ _ _ hk => tabC_sound hG tbl19_ok _ _ _ _ hk) e h k hk)
    (by
      intro args h K hk
      unfold s19 at hk
      split at hk
      · rename_i c
        show b19 c K
        rw [b19_eq]
        exact ⟨hk.1, hk.2.1, hk.2.2⟩
      · exact hk.elim)
end Go.Am.Ham
