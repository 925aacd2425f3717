/-
  Hamming: the small functions' summaries. Own work.
-/
import Derived.Test.YtjbagcmcpmhfnaaDoorHamA
namespace Go.Am.Ham
open Go Go.Am Go.Proofs
set_option maxRecDepth 100000

theorem mixed : Tryd.prog.follows .mixedOrders = true := by kernel_rfl
theorem wrap_u64' (x : Int) : IntKind.u64.wrap x = x % 18446744073709551616 := by simp [IntKind.wrap, IntKind.bits, IntKind.signed]
theorem wrap_u64 (n : Nat) : IntKind.u64.wrap (n : Int) = (n % 2 ^ 64 : Nat) := by
  rw [wrap_u64']; omega
theorem cap_u64 : cap .u64 = 2 ^ 64 := rfl
theorem cap_i64 : cap .i64 = 2 ^ 63 := rfl
theorem cap_u32 : cap .u32 = 2 ^ 32 := rfl

def tzI (n : Nat) : Nat := ((n &&& (2 ^ 64 - n)) * 285870213051353865 % 2 ^ 64) / 2 ^ 58
def tzR (n : Nat) : Nat := tzTab.getD (tzI n) 0
def s27 : Spec := fun args h K => match args, h with
  | [.int .u64 c], [] => 0 < c ∧ c < 2 ^ 64 ∧ K (.int .i64 (tzR c.toNat : Nat)) []
  | _, _ => False

theorem tab_facts : ∀ i : Fin 64, (∃ v : Nat, v < 64 ∧ tzTab.getD i.val 0 = v ∧ tzVals.getD i.val undef = .int .u8 (v : Nat)) := by
  intro i
  refine ⟨tzTab.getD i.val 0, ?_, rfl, ?_⟩
  · revert i; decide
  · have h : i.val < tzTab.length := i.isLt
    simp only [tzVals, List.getD_eq_getElem?_getD, List.getElem?_map, List.getElem?_eq_getElem h, Option.map_some, Option.getD_some]
theorem tzI_lt (n : Nat) : tzI n < 64 := by unfold tzI; omega

theorem x27_cast {n : Nat} (h0 : 0 < n) (h1 : n < 2 ^ 64) : x27 n = (tzI n : Nat) := by
  unfold x27 tzI
  rw [sealI_eq, sealI_eq]
  have e1 : iSub .u64 0 (n : Int) = ((2 ^ 64 - n : Nat) : Int) := by
    unfold iSub; rw [wrap_u64']; omega
  rw [e1, iAnd_cast .u64 (by rw [cap_u64]; omega) (by rw [cap_u64]; omega)]
  unfold iMul
  rw [show (285870213051353865 : Int) = ((285870213051353865 : Nat) : Int) from rfl, ← Int.natCast_mul, wrap_u64]
  rw [show ((2 : Int) ^ 58) = ((2 ^ 58 : Nat) : Int) from rfl, fdiv_cast]

theorem okOf {tbl : List (Nat × Spec)} {N : Nat} {sl : List Nat} {fid : Nat} {fn : Func} (ht : AllOk Tryd.prog G0 tbl) (hf : Tryd.prog.funcs[fid]? = some fn) (hb : fn.body = some (codeOf fn)) (hN : N = fn.ntmps) {s : Spec}
    (hs : ∀ args h K, s args h K → bodyK (cfg tbl N sl) (codeOf fn) fn.results.toList args h K) : SpecOk Tryd.prog G0 fid s :=
  spec_of_body (tbl := tbl) (N := N) (held := fun _ => false) (loops := fun _ => none) (keep := upto N 0) (fuel := 100) (sl := sl) mixed ht hf hb hN (fun _ _ _ => loopsOk_none (fun _ => rfl) _) hs

theorem ok27 : SpecOk Tryd.prog G0 141 s27 :=
  okOf (tbl := []) (N := 14) (sl := [8, 10]) trivial Tryd.func141 (by kernel_rfl) (by kernel_rfl) (by
    intro args h K hk
    unfold s27 at hk
    split at hk
    · rename_i c
      obtain ⟨h0, h1, hk⟩ := hk
      obtain ⟨n, rfl⟩ := nat_of (Int.le_of_lt h0)
      have h0 : 0 < n := by omega
      have h1 : n < 2 ^ 64 := by omega
      rw [body27 n K]
      have hx := x27_cast h0 h1
      have hl := tzI_lt n
      obtain ⟨v, hv, hv1, hv2⟩ := tab_facts ⟨tzI n, hl⟩
      have hv3 : v27 n = .int .u8 (v : Nat) := by
        show tzVals.getD (x27 n).toNat undef = _; rw [hx, Int.toNat_natCast]; exact hv2
      have e0 : decide ((n : Int) = 0) = false := decide_eq_false (by omega)
      rw [e0, cond_false, hv3, hx]
      have e2 : (decide (0 ≤ ((tzI n : Nat) : Int)) && decide (((tzI n : Nat) : Int) < (64 : Nat))) = true := by
        rw [Bool.and_eq_true]; exact ⟨decide_eq_true (Int.natCast_nonneg _), decide_eq_true (Int.ofNat_lt.2 hl)⟩
      have e3 : (Nat.beq 1 1 && decide (((tzI n : Nat) : Int).toNat + 1 ≤ tzVals.length)) = true := by
        rw [Bool.and_eq_true]; refine ⟨rfl, decide_eq_true ?_⟩
        rw [Int.toNat_natCast, tzVals, List.length_map]
        show tzI n + 1 ≤ 64
        omega
      rw [e2, e3, cond_true, cond_true]
      show cond (decide (IntKind.u8 = IntKind.u8)) (K (.int .i64 (IntKind.i64.wrap ((v : Nat) : Int))) []) False
      rw [decide_eq_true rfl, cond_true]
      rw [wrap_cast .i64 (Nat.lt_trans hv (by decide))]
      have e4 : tzR ((n : Int)).toNat = v := by rw [Int.toNat_natCast]; exact hv1
      rw [e4] at hk
      exact hk
    · exact hk.elim)

/-! ### bits.Len64 -/
def lenN (n : Nat) : Nat := if n = 0 then 0 else Nat.log2 n + 1
def s16 : Spec := fun args h K => match args, h with
  | [.int .u64 c], [] => 0 ≤ c ∧ c < 2 ^ 64 ∧ K (.int .i64 (lenN c.toNat : Nat)) []
  | _, _ => False
theorem lenTab_facts : ∀ i : Fin 256, (lenTab.getD i.val 0).toNat = lenN i.val := by decide
theorem lenN_shift {n k : Nat} (h : 2 ^ k ≤ n) : lenN n = lenN (n / 2 ^ k) + k := by
  have hk : 0 < 2 ^ k := Nat.two_pow_pos k
  have h1 : n / 2 ^ k ≠ 0 := by
    have := Nat.div_pos h hk; omega
  have h2 : n ≠ 0 := by omega
  unfold lenN
  rw [if_neg h1, if_neg h2]
  have h3 := Nat.log2_self_le h1
  have h4 := Nat.lt_log2_self (n := n / 2 ^ k)
  have h5 : Nat.log2 n = Nat.log2 (n / 2 ^ k) + k := by
    rw [Nat.log2_eq_iff h2]
    rw [Nat.pow_add]
    refine ⟨(Nat.le_div_iff_mul_le hk).1 h3, ?_⟩
    rw [show Nat.log2 (n / 2 ^ k) + k + 1 = (Nat.log2 (n / 2 ^ k) + 1) + k from by omega, Nat.pow_add]
    exact (Nat.div_lt_iff_lt_mul hk).1 h4
  omega
theorem lenN_le {n k : Nat} (h : n < 2 ^ k) : lenN n ≤ k := by
  unfold lenN
  split
  · omega
  · have := (Nat.log2_lt (by assumption)).2 h; omega

theorem l4_ok {n a b : Nat} {K : Value → AHeap → Prop} (hn : n < 256) (ha : a ≤ 56) (hk : K (.int .i64 ((lenN n + a : Nat) : Int)) []) (hb : b = a) : l4 K (n : Int) (b : Nat) := by
  subst hb
  unfold l4
  have e1 : IntKind.u8.wrap (n : Int) = n := wrap_cast .u8 (show n < 256 from hn)
  rw [e1]
  have e2 : (decide (0 ≤ (n : Int)) && decide ((n : Int) < (256 : Nat))) = true := by
    rw [Bool.and_eq_true]; exact ⟨decide_eq_true (Int.natCast_nonneg _), decide_eq_true (Int.ofNat_lt.2 hn)⟩
  rw [e2, cond_true, sealI_eq, Int.toNat_natCast]
  have e3 := lenTab_facts ⟨n, hn⟩
  simp only at e3
  have e4 : lenN n ≤ 8 := lenN_le (show n < 2 ^ 8 from hn)
  rw [show (((lenTab.getD n 0).toNat : Nat) : Int) = ((lenN n : Nat) : Int) from by rw [e3]]
  rw [wrap_cast .i64 (by rw [cap_i64]; omega), iAdd_cast .i64 (by rw [cap_i64]; omega), Nat.add_comm]
  exact hk
theorem l3_ok {n a : Nat} {K : Value → AHeap → Prop} (hn : n < 65536) (ha : a ≤ 48) (hk : K (.int .i64 ((lenN n + a : Nat) : Int)) []) : l3 K (n : Int) (a : Nat) := by
  unfold l3
  by_cases h : 256 ≤ n
  · rw [decide_eq_true (show (n : Int) ≥ 256 from by omega), cond_true, show (256 : Int) = ((256 : Nat) : Int) from rfl, fdiv_cast]
    rw [lenN_shift (k := 8) (show 2 ^ 8 ≤ n from h)] at hk
    have := l4_ok (n := n / 256) (a := a + 8) (K := K) (by omega) (by omega) (by rw [show lenN (n / 256) + (a + 8) = lenN (n / 2 ^ 8) + 8 + a from by simp only [Nat.reducePow]; omega]; exact hk) rfl
    rwa [Int.natCast_add] at this
  · rw [decide_eq_false (show ¬ (n : Int) ≥ 256 from by omega), cond_false]
    exact l4_ok (by omega) (by omega) hk rfl
theorem l2_ok {n a : Nat} {K : Value → AHeap → Prop} (hn : n < 4294967296) (ha : a ≤ 32) (hk : K (.int .i64 ((lenN n + a : Nat) : Int)) []) : l2 K (n : Int) (a : Nat) := by
  unfold l2
  by_cases h : 65536 ≤ n
  · rw [decide_eq_true (show (n : Int) ≥ 65536 from by omega), cond_true, show (65536 : Int) = ((65536 : Nat) : Int) from rfl, fdiv_cast]
    rw [lenN_shift (k := 16) (show 2 ^ 16 ≤ n from h)] at hk
    have := l3_ok (n := n / 65536) (a := a + 16) (K := K) (by omega) (by omega) (by rw [show lenN (n / 65536) + (a + 16) = lenN (n / 2 ^ 16) + 16 + a from by simp only [Nat.reducePow]; omega]; exact hk)
    rwa [Int.natCast_add] at this
  · rw [decide_eq_false (show ¬ (n : Int) ≥ 65536 from by omega), cond_false]
    exact l3_ok (by omega) (by omega) hk
theorem ok16 : SpecOk Tryd.prog G0 131 s16 :=
  okOf (tbl := []) (N := 25) (sl := [22]) trivial Tryd.func131 (by kernel_rfl) (by kernel_rfl) (by
    intro args h K hk
    unfold s16 at hk
    split at hk
    · rename_i c
      obtain ⟨h0, h1, hk⟩ := hk
      obtain ⟨n, rfl⟩ := nat_of h0
      have h1 : n < 2 ^ 64 := by omega
      rw [body16 n K]
      rw [Int.toNat_natCast] at hk
      by_cases h : 4294967296 ≤ n
      · rw [decide_eq_true (show (n : Int) ≥ 4294967296 from by omega), cond_true, show (4294967296 : Int) = ((4294967296 : Nat) : Int) from rfl, fdiv_cast]
        rw [lenN_shift (k := 32) (show 2 ^ 32 ≤ n from h)] at hk
        exact l2_ok (n := n / 4294967296) (a := 32) (by omega) (by omega) hk
      · rw [decide_eq_false (show ¬ (n : Int) ≥ 4294967296 from by omega), cond_false]
        exact l2_ok (n := n) (a := 0) (by omega) (by omega) hk
    · exact hk.elim)
end Go.Am.Ham
