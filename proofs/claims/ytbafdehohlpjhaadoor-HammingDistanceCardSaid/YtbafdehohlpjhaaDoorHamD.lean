/-
  Hamming: hamming.ones, a loop over the bits that are set. Own work.
-/
import Derived.Test.YtbafdehohlpjhaaDoorHamC
namespace Go.Am.Ham
open Go Go.Am Go.Proofs
set_option maxRecDepth 100000

theorem and_pred_lt {n : Nat} (h : n ≠ 0) : n &&& (n - 1) < n := by
  have : n &&& (n - 1) ≤ n - 1 := Nat.and_le_right
  omega
/-- The exclusive or of the places of the bits that are set, as the loop finds them. -/
def onesX (n : Nat) : Nat := if h : n = 0 then 0 else tzR n ^^^ onesX (n &&& (n - 1))
termination_by n
decreasing_by exact and_pred_lt h
theorem onesX_zero : onesX 0 = 0 := by rw [onesX]; simp
theorem onesX_pos {n : Nat} (h : n ≠ 0) : onesX n = tzR n ^^^ onesX (n &&& (n - 1)) := by rw [onesX]; simp [h]
theorem tzR_lt (n : Nat) : tzR n < 64 := by
  obtain ⟨v, h1, h2, _⟩ := tab_facts ⟨tzI n, tzI_lt n⟩
  have : tzR n = v := h2
  omega

def clo : Value := .func (.func 25) #[] #[.pointer (some ⟨0, 0, some 0⟩)]
def T24 (e : Env) (h : AHeap) (k : AExit → Env → AHeap → Prop) : Prop :=
  match eget e 0, eget e 1, h with
  | some (.int .u64 c), some (.func (.func 25) ⟨[]⟩ ⟨[.pointer (some ⟨0, 0, some 0⟩)]⟩), [.cells true [.int .i64 x] ty false] =>
    0 ≤ c ∧ c < 2 ^ 64 ∧ 0 ≤ x ∧ x < 64 ∧ k (.exit 0) [] [.cells true [.int .i64 ((x.toNat ^^^ onesX c.toNat : Nat) : Int)] ty false]
  | _, _, _ => False
def tbl24 : List (Nat × Spec) := [(25, s25), (27, s27)]
noncomputable def cfg24 : FCfg := mkF Tryd.prog G0 tbl24 14 (fun _ => false) (fun i => match i with | 0 => some T24 | _ => none) (upto 14 0) 100 [9]
def loopOf : Code → Code
  | .seq a _ => loopOf a
  | .block _ a => loopOf a
  | .loop a => a
  | c => c
noncomputable def round24 : Code := loopOf (codeOf Tryd.f24)
noncomputable def t24 (c x : Int) (ty : TypeId) (k : AExit → Env → AHeap → Prop) : Prop := codeK cfg24 round24 [(0, .int .u64 c), (1, clo)] [.cells true [.int .i64 x] ty false] k
noncomputable def b24 (c x : Int) (ty : TypeId) (K : Value → AHeap → Prop) : Prop := bodyK cfg24 (codeOf Tryd.f24) Tryd.f24.results.toList [.int .u64 c, clo] [.cells true [.int .i64 x] ty false] K

theorem t24_eq (c x : Int) (ty : TypeId) (k : AExit → Env → AHeap → Prop) : t24 c x ty k = (cond (!(decide ((c = (0 : Int))))) (((0 : Int) < c) ∧ ((c < (18446744073709551616 : Int)) ∧ (((0 : Int) ≤ (((tzR (Int.toNat c)) : Nat) : Int)) ∧ (((((tzR (Int.toNat c)) : Nat) : Int) < (64 : Int)) ∧ (((0 : Int) ≤ x) ∧ ((x < (64 : Int)) ∧ (k AExit.normal [(Prod.mk 0 (Value.int IntKind.u64 (sealI (iAnd IntKind.u64 c (iSub IntKind.u64 c (1 : Int)))))), (Prod.mk (1 : Nat) (Value.func (Go.Fn.func (25 : Nat)) (Array.mk []) (Array.mk [(Value.pointer (Option.some (Go.Addr.mk 0 0 (Option.some 0))))]))), (Prod.mk (4 : Nat) (Value.int IntKind.u64 c)), (Prod.mk (5 : Nat) (Value.bool Bool.true)), (Prod.mk (6 : Nat) (Value.int IntKind.u64 c)), (Prod.mk (7 : Nat) (Value.int IntKind.u64 c)), (Prod.mk (8 : Nat) (Value.int IntKind.u64 (iSub IntKind.u64 c (1 : Int)))), (Prod.mk (9 : Nat) (Value.int IntKind.u64 (sealI (iAnd IntKind.u64 c (iSub IntKind.u64 c (1 : Int)))))), (Prod.mk (10 : Nat) (Value.func (Go.Fn.func (25 : Nat)) (Array.mk []) (Array.mk [(Value.pointer (Option.some (Go.Addr.mk 0 0 (Option.some 0))))]))), (Prod.mk (11 : Nat) (Value.int IntKind.u64 c)), (Prod.mk (12 : Nat) (Value.int IntKind.i64 (((tzR (Int.toNat c)) : Nat) : Int))), (Prod.mk (13 : Nat) (Value.tuple (Array.mk [])))] [(AObj.cells Bool.true [(Value.int IntKind.i64 (((Nat.xor (Int.toNat x) (Int.toNat (((tzR (Int.toNat c)) : Nat) : Int))) : Nat) : Int))] ty Bool.false)]))))))) (k (AExit.exit 0) [(Prod.mk 0 (Value.int IntKind.u64 c)), (Prod.mk (1 : Nat) (Value.func (Go.Fn.func (25 : Nat)) (Array.mk []) (Array.mk [(Value.pointer (Option.some (Go.Addr.mk 0 0 (Option.some 0))))]))), (Prod.mk (4 : Nat) (Value.int IntKind.u64 c)), (Prod.mk (5 : Nat) (Value.bool Bool.false))] [(AObj.cells Bool.true [(Value.int IntKind.i64 x)] ty Bool.false)])) := by
  kernel_rfl
theorem b24_eq (c x : Int) (ty : TypeId) (K : Value → AHeap → Prop) : b24 c x ty K = (((0 : Int) ≤ c) ∧ ((c < (18446744073709551616 : Int)) ∧ (((0 : Int) ≤ x) ∧ ((x < (64 : Int)) ∧ (K (Value.tuple (Array.mk [])) [(AObj.cells Bool.true [(Value.int IntKind.i64 (((Nat.xor (Int.toNat x) (onesX (Int.toNat c))) : Nat) : Int))] ty Bool.false)]))))) := by
  kernel_rfl

theorem xor64 {a b : Nat} (ha : a < 64) (hb : b < 64) : a ^^^ b < 64 := Nat.xor_lt_two_pow (n := 6) ha hb

theorem loop24 (W0 : World) (hG : GOk G0 W0) (hC : SoundC cfg24.toCfg W0) (e : Env) (h : AHeap) (k : AExit → Env → AHeap → Prop) (hT : T24 e h k) : Wp W0 cfg24.toCfg (.loop round24) e h k := by
  unfold T24 at hT
  split at hT
  · rename_i c x ty he0 he1
    obtain ⟨h0, h1, h2, h3, hk⟩ := hT
    have key : keepE [0, 1] e = [(0, .int .u64 c), (1, clo)] := by simp only [keepE, he0, he1]; rfl
    refine Wp.loop2 [0, 1] [] [] (fun n e' h' => ∃ c' x' : Nat, e' = [(0, .int .u64 (c' : Int)), (1, clo)] ∧ h' = [.cells true [.int .i64 (x' : Int)] ty false] ∧ n = c' ∧ c' < 2 ^ 64 ∧ x' < 64 ∧ x' ^^^ onesX c' = x.toNat ^^^ onesX c.toNat) c.toNat
      ⟨c.toNat, x.toNat, ?_, ?_, rfl, by omega, by omega, rfl⟩ ?_
    · rw [key, Int.toNat_of_nonneg h0]
    · rw [Int.toNat_of_nonneg h2]
    · rintro n e' h' ⟨c', x', rfl, rfl, hn, g1, g2, g3⟩
      refine codeK_sound mixed hG hC round24 (loopsOk_nil (by kernel_rfl)) _ _ _ ?_
      show t24 (c' : Int) (x' : Int) ty _
      rw [t24_eq]
      by_cases hz : c' = 0
      · subst hz
        rw [show (!decide (((0 : Nat) : Int) = 0)) = false from rfl, cond_false]
        show k (.exit 0) [] [.cells true [.int .i64 ((x' : Nat) : Int)] ty false]
        rw [onesX_zero, Nat.xor_zero] at g3
        rw [g3]; exact hk
      · rw [decide_eq_false (show ¬ ((c' : Int) = 0) from by omega), Bool.not_false, cond_true]
        have ht := tzR_lt c'
        have hlt := and_pred_lt hz
        rw [Int.toNat_natCast, Int.toNat_natCast, Int.toNat_natCast]
        refine ⟨by omega, by omega, by omega, by omega, by omega, by omega, (c' &&& (c' - 1)), by omega, c' &&& (c' - 1), x' ^^^ tzR c', ?_, rfl, rfl, by omega, xor64 g2 ht, ?_⟩
        · show [(0, Value.int IntKind.u64 (sealI (iAnd IntKind.u64 (c' : Int) (iSub IntKind.u64 (c' : Int) 1)))), (1, clo)] = _
          rw [sealI_eq, show (1 : Int) = ((1 : Nat) : Int) from rfl, iSub_cast .u64 (by omega) (by rw [cap_u64]; omega), iAnd_cast .u64 (by rw [cap_u64]; omega) (by rw [cap_u64]; omega)]
        · rw [← g3, onesX_pos hz, Nat.xor_assoc]
  · exact hT.elim

def s24 : Spec := fun args h K => match args, h with
  | [.int .u64 c, .func (.func 25) ⟨[]⟩ ⟨[.pointer (some ⟨0, 0, some 0⟩)]⟩], [.cells true [.int .i64 x] ty false] =>
    0 ≤ c ∧ c < 2 ^ 64 ∧ 0 ≤ x ∧ x < 64 ∧ K (.tuple #[]) [.cells true [.int .i64 ((x.toNat ^^^ onesX c.toNat : Nat) : Int)] ty false]
  | _, _ => False
theorem tbl24_ok : AllOk Tryd.prog G0 tbl24 := ⟨ok25, ok27, trivial⟩
theorem ok24 : SpecOk Tryd.prog G0 24 s24 :=
  spec_of_body (tbl := tbl24) (N := 14) (held := fun _ => false) (loops := fun i => match i with | 0 => some T24 | _ => none) (keep := upto 14 0) (fuel := 100) (sl := [9]) mixed tbl24_ok Tryd.func24
    (by kernel_rfl : Tryd.f24.body = some (codeOf Tryd.f24)) (by kernel_rfl)
    (fun W0 hG => loopsOk_of fun a ha T hT e h k hk => by
      rw [show loopsIn (codeOf Tryd.f24) = [round24] from by kernel_rfl, List.mem_singleton] at ha
      subst ha
      have e0 : firstReg round24 = 0 := by kernel_rfl
      rw [e0] at hT
      cases hT
      exact loop24 W0 hG (fun _ _ _ _ hk => tabC_sound hG tbl24_ok _ _ _ _ hk) e h k hk)
    (by
      intro args h K hk
      unfold s24 at hk
      split at hk
      · rename_i c x ty
        have e := b24_eq c x ty K
        exact e.mpr hk
      · exact hk.elim)
end Go.Am.Ham
