/-
  Hamming: the code and its functions. Own work.
-/
import Derived.Test.YtecocfcaeenaoaaDoorAmY
import Derived.Test.YtecocfcaeenaoaaDoorProg
import Derived.KernelRfl
namespace Go.Am.Ham
open Go Go.Am Go.Proofs
set_option maxRecDepth 100000

def tzTab : List Nat := [0,1,56,2,57,49,28,3,61,58,42,50,38,29,17,4,62,47,59,36,45,43,51,22,53,39,33,30,24,18,12,5,63,55,48,27,60,41,37,16,46,35,44,21,52,32,23,11,54,26,40,15,34,20,31,10,25,14,19,9,13,8,7,6]
def tzVals : List Value := tzTab.map fun n => .int .u8 (n : Nat)
def G0 (g : Nat) : Option (List Value) := match g with | 0 => some tzVals | _ => none
noncomputable def cfg (tbl : List (Nat × Spec)) (N : Nat) (sl : List Nat) : FCfg := mkF Tryd.prog G0 tbl N (fun _ => false) (fun _ => none) (upto N 0) 100 sl
def codeOf (f : Func) : Code := match f.body with | some c => c | none => .skip

/-! ### bits.TrailingZeros64 -/
noncomputable def x27 (c : Int) : Int := sealI (Int.fdiv (iMul .u64 (sealI (iAnd .u64 c (iSub .u64 0 c))) 285870213051353865) (2 ^ 58))
noncomputable def v27 (c : Int) : Value := tzVals.getD (x27 c).toNat undef
theorem body27 (c : Int) (K : Value → AHeap → Prop) : bodyK (cfg [] 14 [8, 10]) (codeOf Tryd.f64) Tryd.f64.results.toList [.int .u64 c] [] K =
  cond (decide (c = 0)) (K (.int .i64 64) [])
    (cond (decide (0 ≤ x27 c) && decide (x27 c < (64 : Nat)))
      (cond (Nat.beq 1 1 && decide ((x27 c).toNat + 1 ≤ tzVals.length))
        (cond (isInt .u8 (v27 c))
          (K (.int .i64 (IntKind.i64.wrap (intOf (v27 c)))) []) False) False) False) := by
  kernel_rfl
/-! ### bits.OnesCount64 -/
noncomputable def p1 (c : Int) : Int := sealI (iAdd .u64 (iAnd .u64 (Int.fdiv c 2) 6148914691236517205) (iAnd .u64 c 6148914691236517205))
noncomputable def p2 (c : Int) : Int := sealI (iAdd .u64 (iAnd .u64 (Int.fdiv c 4) 3689348814741910323) (iAnd .u64 c 3689348814741910323))
noncomputable def p3 (c : Int) : Int := sealI (iAnd .u64 (iAdd .u64 (Int.fdiv c 16) c) 1085102592571150095)
noncomputable def p4 (k : Int) (c : Int) : Int := sealI (iAdd .u64 c (Int.fdiv c k))
theorem body23 (c : Int) (K : Value → AHeap → Prop) : bodyK (cfg [] 35 [0]) (codeOf Tryd.f61) Tryd.f61.results.toList [.int .u64 c] [] K =
  K (.int .i64 (iAnd .i64 (IntKind.i64.wrap (p4 4294967296 (p4 65536 (p4 256 (p3 (p2 (p1 c))))))) 127)) [] := by
  kernel_rfl

/-! ### bits.Len64 -/
def lenTab : List UInt8 := [0, 1] ++ (List.replicate 2 2 ++ (List.replicate 4 3 ++ (List.replicate 8 4 ++ (List.replicate 16 5 ++ (List.replicate 32 6 ++ (List.replicate 64 7 ++ List.replicate 128 8))))))
noncomputable def l4 (K : Value → AHeap → Prop) (x a : Int) : Prop :=
  cond (decide (0 ≤ IntKind.u8.wrap x) && decide (IntKind.u8.wrap x < (256 : Nat))) (K (.int .i64 (iAdd .i64 a (IntKind.i64.wrap (sealI (lenTab.getD (IntKind.u8.wrap x).toNat 0).toNat)))) []) False
noncomputable def l3 (K : Value → AHeap → Prop) (x a : Int) : Prop := cond (decide (x ≥ 256)) (l4 K (Int.fdiv x 256) (a + 8)) (l4 K x a)
noncomputable def l2 (K : Value → AHeap → Prop) (x a : Int) : Prop := cond (decide (x ≥ 65536)) (l3 K (Int.fdiv x 65536) (a + 16)) (l3 K x a)
theorem body16 (c : Int) (K : Value → AHeap → Prop) : bodyK (cfg [] 25 [22]) (codeOf Tryd.f55) Tryd.f55.results.toList [.int .u64 c] [] K =
  cond (decide (c ≥ 4294967296)) (l2 K (Int.fdiv c 4294967296) 32) (l2 K c 0) := by
  kernel_rfl
/-! ### the closure of hamming.syndrome -/
theorem body25 (i x : Int) (ty : TypeId) (mv : Bool) (K : Value → AHeap → Prop) : bodyK (cfg [] 6 [5]) (codeOf Tryd.f63) Tryd.f63.results.toList [.int .i64 i, .pointer (some ⟨0, 0, some 0⟩)] [.cells true [.int .i64 x] ty mv] K =
  K (.tuple #[]) [.cells true [.int .i64 (sealI (iXor .i64 x i))] ty mv] := by
  kernel_rfl
end Go.Am.Ham

namespace Go.Am.Ham
open Go Go.Am Go.Proofs
set_option maxRecDepth 100000

theorem mixed : Tryd.prog.follows .mixedOrders = true := by kernel_rfl
theorem wrap_u64' (x : Int) : IntKind.u64.wrap x = x % 18446744073709551616 := by simp [IntKind.wrap, IntKind.bits, IntKind.signed]
theorem wrap_u64 (n : Nat) : IntKind.u64.wrap (n : Int) = (n % 2 ^ 64 : Nat) := by
  rw [wrap_u64']; omega
theorem cap_u64 : cap .u64 = 2 ^ 64 := rfl
theorem cap_i64 : cap .i64 = 2 ^ 63 := rfl
theorem cap_u32 : cap .u32 = 2 ^ 32 := rfl

def tzI (n : Nat) : Nat := ((n &&& (2 ^ 64 - n)) * 285870213051353865 % 2 ^ 64) / 2 ^ 58
def tzR (n : Nat) : Nat := tzTab.getD (tzI n) 0
def s27 : Spec := fun args h K => match args, h with
  | [.int .u64 c], [] => 0 < c ∧ c < 2 ^ 64 ∧ K (.int .i64 (tzR c.toNat : Nat)) []
  | _, _ => False

theorem tab_facts : ∀ i : Fin 64, (∃ v : Nat, v < 64 ∧ tzTab.getD i.val 0 = v ∧ tzVals.getD i.val undef = .int .u8 (v : Nat)) := by
  intro i
  refine ⟨tzTab.getD i.val 0, ?_, rfl, ?_⟩
  · revert i; decide
  · have h : i.val < tzTab.length := i.isLt
    simp only [tzVals, List.getD_eq_getElem?_getD, List.getElem?_map, List.getElem?_eq_getElem h, Option.map_some, Option.getD_some]
theorem tzI_lt (n : Nat) : tzI n < 64 := by unfold tzI; omega

theorem x27_cast {n : Nat} (h0 : 0 < n) (h1 : n < 2 ^ 64) : x27 n = (tzI n : Nat) := by
  unfold x27 tzI
  rw [sealI_eq, sealI_eq]
  have e1 : iSub .u64 0 (n : Int) = ((2 ^ 64 - n : Nat) : Int) := by
    unfold iSub; rw [wrap_u64']; omega
  rw [e1, iAnd_cast .u64 (by rw [cap_u64]; omega) (by rw [cap_u64]; omega)]
  unfold iMul
  rw [show (285870213051353865 : Int) = ((285870213051353865 : Nat) : Int) from rfl, ← Int.natCast_mul, wrap_u64]
  rw [show ((2 : Int) ^ 58) = ((2 ^ 58 : Nat) : Int) from rfl, fdiv_cast]

theorem okOf {tbl : List (Nat × Spec)} {N : Nat} {sl : List Nat} {fid : Nat} {fn : Func} (ht : AllOk Tryd.prog G0 tbl) (hf : Tryd.prog.funcs[fid]? = some fn) (hb : fn.body = some (codeOf fn)) (hN : N = fn.ntmps) {s : Spec}
    (hs : ∀ args h K, s args h K → bodyK (cfg tbl N sl) (codeOf fn) fn.results.toList args h K) : SpecOk Tryd.prog G0 fid s :=
  spec_of_body (tbl := tbl) (N := N) (held := fun _ => false) (loops := fun _ => none) (keep := upto N 0) (fuel := 100) (sl := sl) mixed ht hf hb hN (fun _ _ _ => loopsOk_none (fun _ => rfl) _) hs

theorem ok27 : SpecOk Tryd.prog G0 64 s27 :=
  okOf (tbl := []) (N := 14) (sl := [8, 10]) trivial Tryd.func64 (by kernel_rfl) (by kernel_rfl) (by
    intro args h K hk
    unfold s27 at hk
    split at hk
    · rename_i c
      obtain ⟨h0, h1, hk⟩ := hk
      obtain ⟨n, rfl⟩ := nat_of (Int.le_of_lt h0)
      have h0 : 0 < n := by omega
      have h1 : n < 2 ^ 64 := by omega
      rw [body27 n K]
      have hx := x27_cast h0 h1
      have hl := tzI_lt n
      obtain ⟨v, hv, hv1, hv2⟩ := tab_facts ⟨tzI n, hl⟩
      have hv3 : v27 n = .int .u8 (v : Nat) := by
        show tzVals.getD (x27 n).toNat undef = _; rw [hx, Int.toNat_natCast]; exact hv2
      have e0 : decide ((n : Int) = 0) = false := decide_eq_false (by omega)
      rw [e0, cond_false, hv3, hx]
      have e2 : (decide (0 ≤ ((tzI n : Nat) : Int)) && decide (((tzI n : Nat) : Int) < (64 : Nat))) = true := by
        rw [Bool.and_eq_true]; exact ⟨decide_eq_true (Int.natCast_nonneg _), decide_eq_true (Int.ofNat_lt.2 hl)⟩
      have e3 : (Nat.beq 1 1 && decide (((tzI n : Nat) : Int).toNat + 1 ≤ tzVals.length)) = true := by
        rw [Bool.and_eq_true]; refine ⟨rfl, decide_eq_true ?_⟩
        rw [Int.toNat_natCast, tzVals, List.length_map]
        show tzI n + 1 ≤ 64
        omega
      rw [e2, e3, cond_true, cond_true]
      show cond (decide (IntKind.u8 = IntKind.u8)) (K (.int .i64 (IntKind.i64.wrap ((v : Nat) : Int))) []) False
      rw [decide_eq_true rfl, cond_true]
      rw [wrap_cast .i64 (Nat.lt_trans hv (by decide))]
      have e4 : tzR ((n : Int)).toNat = v := by rw [Int.toNat_natCast]; exact hv1
      rw [e4] at hk
      exact hk
    · exact hk.elim)

/-! ### bits.Len64 -/
def lenN (n : Nat) : Nat := if n = 0 then 0 else Nat.log2 n + 1
def s16 : Spec := fun args h K => match args, h with
  | [.int .u64 c], [] => 0 ≤ c ∧ c < 2 ^ 64 ∧ K (.int .i64 (lenN c.toNat : Nat)) []
  | _, _ => False
theorem lenTab_facts : ∀ i : Fin 256, (lenTab.getD i.val 0).toNat = lenN i.val := by decide
theorem lenN_shift {n k : Nat} (h : 2 ^ k ≤ n) : lenN n = lenN (n / 2 ^ k) + k := by
  have hk : 0 < 2 ^ k := Nat.two_pow_pos k
  have h1 : n / 2 ^ k ≠ 0 := by
    have := Nat.div_pos h hk; omega
  have h2 : n ≠ 0 := by omega
  unfold lenN
  rw [if_neg h1, if_neg h2]
  have h3 := Nat.log2_self_le h1
  have h4 := Nat.lt_log2_self (n := n / 2 ^ k)
  have h5 : Nat.log2 n = Nat.log2 (n / 2 ^ k) + k := by
    rw [Nat.log2_eq_iff h2]
    rw [Nat.pow_add]
    refine ⟨(Nat.le_div_iff_mul_le hk).1 h3, ?_⟩
    rw [show Nat.log2 (n / 2 ^ k) + k + 1 = (Nat.log2 (n / 2 ^ k) + 1) + k from by omega, Nat.pow_add]
    exact (Nat.div_lt_iff_lt_mul hk).1 h4
  omega
theorem lenN_le {n k : Nat} (h : n < 2 ^ k) : lenN n ≤ k := by
  unfold lenN
  split
  · omega
  · have := (Nat.log2_lt (by assumption)).2 h; omega

theorem l4_ok {n a b : Nat} {K : Value → AHeap → Prop} (hn : n < 256) (ha : a ≤ 56) (hk : K (.int .i64 ((lenN n + a : Nat) : Int)) []) (hb : b = a) : l4 K (n : Int) (b : Nat) := by
  subst hb
  unfold l4
  have e1 : IntKind.u8.wrap (n : Int) = n := wrap_cast .u8 (show n < 256 from hn)
  rw [e1]
  have e2 : (decide (0 ≤ (n : Int)) && decide ((n : Int) < (256 : Nat))) = true := by
    rw [Bool.and_eq_true]; exact ⟨decide_eq_true (Int.natCast_nonneg _), decide_eq_true (Int.ofNat_lt.2 hn)⟩
  rw [e2, cond_true, sealI_eq, Int.toNat_natCast]
  have e3 := lenTab_facts ⟨n, hn⟩
  simp only at e3
  have e4 : lenN n ≤ 8 := lenN_le (show n < 2 ^ 8 from hn)
  rw [show (((lenTab.getD n 0).toNat : Nat) : Int) = ((lenN n : Nat) : Int) from by rw [e3]]
  rw [wrap_cast .i64 (by rw [cap_i64]; omega), iAdd_cast .i64 (by rw [cap_i64]; omega), Nat.add_comm]
  exact hk
theorem l3_ok {n a : Nat} {K : Value → AHeap → Prop} (hn : n < 65536) (ha : a ≤ 48) (hk : K (.int .i64 ((lenN n + a : Nat) : Int)) []) : l3 K (n : Int) (a : Nat) := by
  unfold l3
  by_cases h : 256 ≤ n
  · rw [decide_eq_true (show (n : Int) ≥ 256 from by omega), cond_true, show (256 : Int) = ((256 : Nat) : Int) from rfl, fdiv_cast]
    rw [lenN_shift (k := 8) (show 2 ^ 8 ≤ n from h)] at hk
    have := l4_ok (n := n / 256) (a := a + 8) (K := K) (by omega) (by omega) (by rw [show lenN (n / 256) + (a + 8) = lenN (n / 2 ^ 8) + 8 + a from by simp only [Nat.reducePow]; omega]; exact hk) rfl
    rwa [Int.natCast_add] at this
  · rw [decide_eq_false (show ¬ (n : Int) ≥ 256 from by omega), cond_false]
    exact l4_ok (by omega) (by omega) hk rfl
theorem l2_ok {n a : Nat} {K : Value → AHeap → Prop} (hn : n < 4294967296) (ha : a ≤ 32) (hk : K (.int .i64 ((lenN n + a : Nat) : Int)) []) : l2 K (n : Int) (a : Nat) := by
  unfold l2
  by_cases h : 65536 ≤ n
  · rw [decide_eq_true (show (n : Int) ≥ 65536 from by omega), cond_true, show (65536 : Int) = ((65536 : Nat) : Int) from rfl, fdiv_cast]
    rw [lenN_shift (k := 16) (show 2 ^ 16 ≤ n from h)] at hk
    have := l3_ok (n := n / 65536) (a := a + 16) (K := K) (by omega) (by omega) (by rw [show lenN (n / 65536) + (a + 16) = lenN (n / 2 ^ 16) + 16 + a from by simp only [Nat.reducePow]; omega]; exact hk)
    rwa [Int.natCast_add] at this
  · rw [decide_eq_false (show ¬ (n : Int) ≥ 65536 from by omega), cond_false]
    exact l3_ok (by omega) (by omega) hk
theorem ok16 : SpecOk Tryd.prog G0 55 s16 :=
  okOf (tbl := []) (N := 25) (sl := [22]) trivial Tryd.func55 (by kernel_rfl) (by kernel_rfl) (by
    intro args h K hk
    unfold s16 at hk
    split at hk
    · rename_i c
      obtain ⟨h0, h1, hk⟩ := hk
      obtain ⟨n, rfl⟩ := nat_of h0
      have h1 : n < 2 ^ 64 := by omega
      rw [body16 n K]
      rw [Int.toNat_natCast] at hk
      by_cases h : 4294967296 ≤ n
      · rw [decide_eq_true (show (n : Int) ≥ 4294967296 from by omega), cond_true, show (4294967296 : Int) = ((4294967296 : Nat) : Int) from rfl, fdiv_cast]
        rw [lenN_shift (k := 32) (show 2 ^ 32 ≤ n from h)] at hk
        exact l2_ok (n := n / 4294967296) (a := 32) (by omega) (by omega) hk
      · rw [decide_eq_false (show ¬ (n : Int) ≥ 4294967296 from by omega), cond_false]
        exact l2_ok (n := n) (a := 0) (by omega) (by omega) hk
    · exact hk.elim)
end Go.Am.Ham

namespace Go.Am.Ham
open Go Go.Am Go.Proofs
set_option maxRecDepth 100000

/-! ### bits.OnesCount64 -/
def q1 (n : Nat) : Nat := (n / 2 &&& 6148914691236517205) + (n &&& 6148914691236517205)
def q2 (n : Nat) : Nat := (n / 4 &&& 3689348814741910323) + (n &&& 3689348814741910323)
def q3 (n : Nat) : Nat := (n / 16 + n) &&& 1085102592571150095
def q4 (k n : Nat) : Nat := n + n / k
def pcN (n : Nat) : Nat := q4 4294967296 (q4 65536 (q4 256 (q3 (q2 (q1 n))))) &&& 127
def s23 : Spec := fun args h K => match args, h with
  | [.int .u64 c], [] => 0 ≤ c ∧ c < 2 ^ 64 ∧ K (.int .i64 (pcN c.toNat : Nat)) []
  | _, _ => False

theorem p1_cast {n : Nat} (h : n < 2 ^ 64) : p1 n = (q1 n : Nat) := by
  unfold p1 q1
  have h1 : n / 2 &&& 6148914691236517205 ≤ 6148914691236517205 := Nat.and_le_right
  have h2 : n &&& 6148914691236517205 ≤ 6148914691236517205 := Nat.and_le_right
  rw [sealI_eq, show (2 : Int) = ((2 : Nat) : Int) from rfl, show (6148914691236517205 : Int) = ((6148914691236517205 : Nat) : Int) from rfl, fdiv_cast,
    iAnd_cast .u64 (by rw [cap_u64]; omega) (by rw [cap_u64]; omega), iAnd_cast .u64 (by rw [cap_u64]; omega) (by rw [cap_u64]; omega), iAdd_cast .u64 (by rw [cap_u64]; omega)]
theorem q1_le (n : Nat) : q1 n ≤ 2 * 6148914691236517205 := by
  unfold q1
  have h1 : n / 2 &&& 6148914691236517205 ≤ 6148914691236517205 := Nat.and_le_right
  have h2 : n &&& 6148914691236517205 ≤ 6148914691236517205 := Nat.and_le_right
  omega
theorem p2_cast {n : Nat} (h : n < 2 ^ 64) : p2 n = (q2 n : Nat) := by
  unfold p2 q2
  have h1 : n / 4 &&& 3689348814741910323 ≤ 3689348814741910323 := Nat.and_le_right
  have h2 : n &&& 3689348814741910323 ≤ 3689348814741910323 := Nat.and_le_right
  rw [sealI_eq, show (4 : Int) = ((4 : Nat) : Int) from rfl, show (3689348814741910323 : Int) = ((3689348814741910323 : Nat) : Int) from rfl, fdiv_cast,
    iAnd_cast .u64 (by rw [cap_u64]; omega) (by rw [cap_u64]; omega), iAnd_cast .u64 (by rw [cap_u64]; omega) (by rw [cap_u64]; omega), iAdd_cast .u64 (by rw [cap_u64]; omega)]
theorem q2_le (n : Nat) : q2 n ≤ 2 * 3689348814741910323 := by
  unfold q2
  have h1 : n / 4 &&& 3689348814741910323 ≤ 3689348814741910323 := Nat.and_le_right
  have h2 : n &&& 3689348814741910323 ≤ 3689348814741910323 := Nat.and_le_right
  omega
theorem p3_cast {n : Nat} (h : n ≤ 2 * 3689348814741910323) : p3 n = (q3 n : Nat) := by
  unfold p3 q3
  rw [sealI_eq, show (16 : Int) = ((16 : Nat) : Int) from rfl, show (1085102592571150095 : Int) = ((1085102592571150095 : Nat) : Int) from rfl, fdiv_cast,
    iAdd_cast .u64 (by rw [cap_u64]; omega), iAnd_cast .u64 (by rw [cap_u64]; omega) (by rw [cap_u64]; omega)]
theorem q3_le (n : Nat) : q3 n ≤ 1085102592571150095 := Nat.and_le_right
theorem p4_cast {n k : Nat} (hk : 2 ≤ k) (h : n ≤ 4611686018427387903) : p4 k n = (q4 k n : Nat) ∧ q4 k n ≤ n + n / k := by
  have h1 : n / k ≤ n / 2 := Nat.div_le_div_left hk (by omega)
  unfold p4 q4
  rw [sealI_eq, fdiv_cast, iAdd_cast .u64 (by rw [cap_u64]; omega)]
  exact ⟨rfl, Nat.le_refl _⟩
theorem pc_cast {n : Nat} (h : n < 2 ^ 64) : iAnd .i64 (IntKind.i64.wrap (p4 4294967296 (p4 65536 (p4 256 (p3 (p2 (p1 n))))))) 127 = (pcN n : Nat) := by
  have b1 := q1_le n
  have b2 := q2_le (q1 n)
  have b3 := q3_le (q2 (q1 n))
  rw [p1_cast h, p2_cast (by omega), p3_cast b2]
  unfold pcN
  generalize q3 (q2 (q1 n)) = x at *
  obtain ⟨e4, b4⟩ := p4_cast (n := x) (k := 256) (by omega) (by omega)
  rw [show (256 : Int) = ((256 : Nat) : Int) from rfl, e4]
  generalize q4 256 x = y at *
  obtain ⟨e5, b5⟩ := p4_cast (n := y) (k := 65536) (by omega) (by omega)
  rw [show (65536 : Int) = ((65536 : Nat) : Int) from rfl, e5]
  generalize q4 65536 y = z at *
  obtain ⟨e6, b6⟩ := p4_cast (n := z) (k := 4294967296) (by omega) (by omega)
  rw [show (4294967296 : Int) = ((4294967296 : Nat) : Int) from rfl, e6]
  generalize q4 4294967296 z = u at *
  rw [wrap_cast .i64 (by rw [cap_i64]; omega), show (127 : Int) = ((127 : Nat) : Int) from rfl, iAnd_cast .i64 (by rw [cap_i64]; omega) (by rw [cap_i64]; omega)]
theorem ok23 : SpecOk Tryd.prog G0 61 s23 :=
  okOf (tbl := []) (N := 35) (sl := [0]) trivial Tryd.func61 (by kernel_rfl) (by kernel_rfl) (by
    intro args h K hk
    unfold s23 at hk
    split at hk
    · rename_i c
      have h0 := hk.1
      have h1 := hk.2.1
      have e : c = ((c.toNat : Nat) : Int) := (Int.toNat_of_nonneg h0).symm
      rw [e, body23 _ K, pc_cast (by omega)]
      exact hk.2.2
    · exact hk.elim)

/-! ### ref.check, ref.bit, the closure -/
def isChk (n : Nat) : Bool := n == 0 || n == 1 || n == 2 || n == 4 || n == 8 || n == 16 || n == 32
def s22 : Spec := fun args h K => match args, h with
  | [.int .i64 c], [] => 0 ≤ c ∧ K (.bool (isChk c.toNat)) []
  | _, _ => False
def s26 : Spec := fun args h K => match args, h with
  | [.int .u64 c, .int .i64 i], [] => 0 ≤ c ∧ c < 2 ^ 64 ∧ 0 ≤ i ∧ i < 64 ∧ K (.int .i64 ((c.toNat / 2 ^ i.toNat % 2 : Nat) : Int)) []
  | _, _ => False
def s25 : Spec := fun args h K => match args, h with
  | [.int .i64 i, .pointer (some ⟨0, 0, some 0⟩)], [.cells true [.int .i64 x] ty mv] => 0 ≤ i ∧ i < 64 ∧ 0 ≤ x ∧ x < 64 ∧ K (.tuple #[]) [.cells true [.int .i64 ((x.toNat ^^^ i.toNat : Nat) : Int)] ty mv]
  | _, _ => False
theorem ok25 : SpecOk Tryd.prog G0 63 s25 :=
  okOf (tbl := []) (N := 6) (sl := [5]) trivial Tryd.func63 (by kernel_rfl) (by kernel_rfl) (by
    intro args h K hk
    unfold s25 at hk
    split at hk
    · rename_i i x ty mv
      obtain ⟨h0, h1, h2, h3, hk⟩ := hk
      obtain ⟨n, rfl⟩ := nat_of h0
      obtain ⟨j, rfl⟩ := nat_of h2
      rw [body25 n j ty mv K]
      rw [Int.toNat_natCast, Int.toNat_natCast] at hk
      rw [sealI_eq, iXor_cast .i64 (by rw [cap_i64]; omega) (by rw [cap_i64]; omega)]
      exact hk
    · exact hk.elim)
end Go.Am.Ham

namespace Go.Am.Ham
open Go Go.Am Go.Proofs
set_option maxRecDepth 100000

theorem and_pred_lt {n : Nat} (h : n ≠ 0) : n &&& (n - 1) < n := by
  have : n &&& (n - 1) ≤ n - 1 := Nat.and_le_right
  omega
/-- The exclusive or of the places of the bits that are set, as the loop finds them. -/
def onesX (n : Nat) : Nat := if _h : n = 0 then 0 else tzR n ^^^ onesX (n &&& (n - 1))
termination_by n
decreasing_by exact and_pred_lt _h
theorem onesX_zero : onesX 0 = 0 := by rw [onesX]; simp
theorem onesX_pos {n : Nat} (h : n ≠ 0) : onesX n = tzR n ^^^ onesX (n &&& (n - 1)) := by rw [onesX]; simp [h]
theorem tzR_lt (n : Nat) : tzR n < 64 := by
  obtain ⟨v, h1, h2, _⟩ := tab_facts ⟨tzI n, tzI_lt n⟩
  have : tzR n = v := h2
  omega

def T24 : LSpec := fun e h k => match e, h with
  | [(0, .int .u64 c), (1, .func (.func 63) ⟨[]⟩ ⟨[.pointer (some ⟨0, 0, some 0⟩)]⟩)], [.cells true [.int .i64 x] ty mv] =>
    0 ≤ c ∧ c < 2 ^ 64 ∧ 0 ≤ x ∧ x < 64 ∧ k (.exit 0) [] [.cells true [.int .i64 ((x.toNat ^^^ onesX c.toNat : Nat) : Int)] ty mv]
  | _, _ => False
def clo : Value := .func (.func 63) #[] #[.pointer (some ⟨0, 0, some 0⟩)]
def tbl24 : List (Nat × Spec) := [(63, s25), (64, s27)]
noncomputable def c24 : FCfg := mkG Tryd.prog G0 tbl24 14 [(0, [0, 1, 5]), (1, [0, 1]), (2, [0, 1])] [(0, [0, 1])] [(0, [])] [(0, T24)] [] [] 40 1
noncomputable def t24 (c x : Int) (ty : TypeId) (mv : Bool) (k : AExit → Env → AHeap → Prop) : Prop := codeK c24 (nthLoop 0 (codeOf Tryd.f62)) [(0, .int .u64 c), (1, clo)] [.cells true [.int .i64 x] ty mv] k
noncomputable def b24 (c x : Int) (ty : TypeId) (mv : Bool) (K : Value → AHeap → Prop) : Prop := bodyK c24 (codeOf Tryd.f62) Tryd.f62.results.toList [.int .u64 c, clo] [.cells true [.int .i64 x] ty mv] K
theorem t24_eq (c x : Int) (ty : TypeId) (mv : Bool) (k : AExit → Env → AHeap → Prop) : t24 c x ty mv k = (cond (!(decide ((c = (0 : Int))))) (((0 : Int) < c) ∧ ((c < (18446744073709551616 : Int)) ∧ (∀ x1 : Int, ((x1 = (((tzR (Int.toNat c)) : Nat) : Int)) → (((0 : Int) ≤ x1) ∧ ((x1 < (64 : Int)) ∧ (((0 : Int) ≤ x) ∧ ((x < (64 : Int)) ∧ (∀ x2 : Int, ((x2 = (iSub IntKind.u64 c (1 : Int))) → (∀ x3 : Int, ((x3 = (iAnd IntKind.u64 c x2)) → (k AExit.normal [(Prod.mk 0 (Value.int IntKind.u64 x3)), (Prod.mk 1 (Value.func (Fn.func (63 : Nat)) (Array.mk []) (Array.mk [(Value.pointer (Option.some (Addr.mk 0 0 (Option.some 0))))])))] [(AObj.cells Bool.true [(Value.int IntKind.i64 ((((Int.toNat x) ^^^ (Int.toNat x1) : Nat) : Nat) : Int))] ty mv)]))))))))))))) (k (AExit.exit 0) [(Prod.mk 0 (Value.int IntKind.u64 c)), (Prod.mk 1 (Value.func (Fn.func (63 : Nat)) (Array.mk []) (Array.mk [(Value.pointer (Option.some (Addr.mk 0 0 (Option.some 0))))]))), (Prod.mk 5 (Value.bool Bool.false))] [(AObj.cells Bool.true [(Value.int IntKind.i64 x)] ty mv)])) := by
  kernel_rfl
theorem b24_eq (c x : Int) (ty : TypeId) (mv : Bool) (K : Value → AHeap → Prop) : b24 c x ty mv K = (((0 : Int) ≤ c) ∧ ((c < (18446744073709551616 : Int)) ∧ (((0 : Int) ≤ x) ∧ ((x < (64 : Int)) ∧ (K Go.undef [(AObj.cells Bool.true [(Value.int IntKind.i64 ((((Int.toNat x) ^^^ (onesX (Int.toNat c)) : Nat) : Nat) : Int))] ty mv)]))))) := by
  kernel_rfl

theorem xor64 {a b : Nat} (ha : a < 64) (hb : b < 64) : a ^^^ b < 64 := Nat.xor_lt_two_pow (n := 6) ha hb

theorem loop24 : ∀ e h k, T24 e h k → ∃ m, loopN c24 (codeOf Tryd.f62) 0 0 m e h k := by
  intro e h k hT
  unfold T24 at hT
  split at hT
  · rename_i c x ty mv
    obtain ⟨h0, h1, h2, h3, hk⟩ := hT
    have key : ∀ c' x' : Nat, c' < 2 ^ 64 → x' < 64 → x' ^^^ onesX c' = x.toNat ^^^ onesX c.toNat → ∃ m, loopN c24 (codeOf Tryd.f62) 0 0 m [(0, .int .u64 (c' : Int)), (1, clo)] [.cells true [.int .i64 (x' : Int)] ty mv] k := by
      intro c'
      induction c' using Nat.strongRecOn with
      | ind c' ih =>
        intro x' g1 g2 g3
        by_cases hz : c' = 0
        · subst hz
          refine ⟨1, ?_⟩
          rw [loopN_succ]
          show t24 _ _ _ _ _
          rw [t24_eq, decide_eq_true (show ((0 : Nat) : Int) = 0 from rfl), Bool.not_true, cond_false]
          show k (.exit 0) [] [.cells true [.int .i64 ((x' : Nat) : Int)] ty mv]
          rw [onesX_zero, Nat.xor_zero] at g3
          rw [g3]; exact hk
        · have ht := tzR_lt c'
          have hlt := and_pred_lt hz
          obtain ⟨m, hm⟩ := ih (c' &&& (c' - 1)) hlt (x' ^^^ tzR c') (by omega) (xor64 g2 ht) (by rw [← g3, onesX_pos hz, Nat.xor_assoc])
          refine ⟨m + 1, ?_⟩
          rw [loopN_succ]
          show t24 _ _ _ _ _
          rw [t24_eq, decide_eq_false (show ¬ ((c' : Int) = 0) from by omega), Bool.not_false, cond_true]
          rw [Int.toNat_natCast]
          refine ⟨by omega, by omega, ?_⟩
          rintro _ rfl
          rw [Int.toNat_natCast, Int.toNat_natCast]
          refine ⟨by omega, by omega, by omega, by omega, ?_⟩
          rintro x3 e3 x4 e4
          rw [show (1 : Int) = ((1 : Nat) : Int) from rfl, iSub_cast .u64 (by omega) (by rw [cap_u64]; omega)] at e3
          rw [e3, iAnd_cast .u64 (by rw [cap_u64]; omega) (by rw [cap_u64]; omega)] at e4
          rw [e4]
          exact hm
    obtain ⟨m, hm⟩ := key c.toNat x.toNat (by omega) (by omega) rfl
    rw [Int.toNat_of_nonneg h0, Int.toNat_of_nonneg h2] at hm
    exact ⟨m, hm⟩
  · exact hT.elim

def s24 : Spec := fun args h K => match args, h with
  | [.int .u64 c, .func (.func 63) ⟨[]⟩ ⟨[.pointer (some ⟨0, 0, some 0⟩)]⟩], [.cells true [.int .i64 x] ty mv] =>
    0 ≤ c ∧ c < 2 ^ 64 ∧ 0 ≤ x ∧ x < 64 ∧ K (.tuple #[]) [.cells true [.int .i64 ((x.toNat ^^^ onesX c.toNat : Nat) : Int)] ty mv]
  | _, _ => False
theorem tbl24_ok : AllOk Tryd.prog G0 tbl24 := ⟨ok25, ok27, trivial⟩
theorem ok24 : SpecOk Tryd.prog G0 62 s24 :=
  spec2 mixed tbl24_ok Tryd.func62 (by kernel_rfl : Tryd.f62.body = some (codeOf Tryd.f62)) c24 rfl rfl rfl (by kernel_rfl) (ids := [0]) (by kernel_rfl) ⟨loop24, trivial⟩ (by
    intro args h K hk
    unfold s24 at hk
    split at hk
    · rename_i c x ty mv
      show b24 c x ty mv K
      rw [b24_eq]
      exact hk
    · exact hk.elim)
end Go.Am.Ham

namespace Go.Am.Ham
open Go Go.Am Go.Proofs
set_option maxRecDepth 100000

def plT : List Nat := [3, 5, 6, 7, 9, 10, 11, 12, 13, 14, 15, 17, 18, 19, 20, 21, 22, 23, 24, 25, 26, 27, 28, 29, 30, 31, 33, 34, 35, 36, 37, 38]
def plV : List Value := plT.map fun (n : Nat) => .int .i64 (n : Int)
def s21 : Spec := fun args h K => match args, h with
  | [], [] => K (.agg ⟨plV⟩) []
  | _, _ => False
theorem body21 (K : Value → AHeap → Prop) : bodyK (cfg [] 2 []) (codeOf Tryd.f60) Tryd.f60.results.toList [] [] K = K (.agg ⟨plV⟩) [] := by
  kernel_rfl
theorem ok21 : SpecOk Tryd.prog G0 60 s21 :=
  okOf (tbl := []) (N := 2) (sl := []) trivial Tryd.func60 (by kernel_rfl) (by kernel_rfl) (by
    intro args h K hk
    unfold s21 at hk
    split at hk
    · exact (body21 K).mpr hk
    · exact hk.elim)

def tblE : List (Nat × Spec) := [(60, s21), (61, s23), (62, s24)]
theorem tblE_ok : AllOk Tryd.prog G0 tblE := ⟨ok21, ok23, ok24, trivial⟩
noncomputable def cfgE (N : Nat) (held : Nat → Bool) (sl : List Nat) : FCfg := mkF Tryd.prog G0 tblE N held (fun _ => none) (upto N 0) 100 sl
theorem body17 (c : Int) (K : Value → AHeap → Prop) : bodyK (cfgE 12 (fun i => Nat.beq i 3) []) (codeOf Tryd.f56) Tryd.f56.results.toList [.int .u64 c] [] K =
  (((0 : Int) ≤ c) ∧ ((c < 18446744073709551616) ∧ (((0 : Int) ≤ (0 : Int)) ∧ (((0 : Int) < (64 : Int)) ∧ (((0 : Int) ≤ c) ∧ ((c < 18446744073709551616) ∧
    (K (.tuple ⟨[.int .i64 ((0 ^^^ onesX (Int.toNat c) : Nat) : Int), .int .i64 (iAnd .i64 ((pcN (Int.toNat c) : Nat) : Int) 1)]⟩) []))))))) := by
  kernel_rfl
end Go.Am.Ham

namespace Go.Am.Ham
open Go Go.Am Go.Proofs
set_option maxRecDepth 100000
noncomputable def w18 (c : Int) : List Nat → Nat → Int → Int
  | [], _, x => x
  | p :: r, i, x => w18 c r (i + 1) (sealI (iOr .u32 x (IntKind.u32.wrap (IntKind.u32.wrap (iAnd .u64 (Int.fdiv c (2 ^ p)) 1) * 2 ^ i))))
theorem body18 (c : Int) (K : Value → AHeap → Prop) : bodyK (cfgE 22 (fun _ => false) [3]) (codeOf Tryd.f57) Tryd.f57.results.toList [.int .u64 c] [] K =
  K (.int .u32 (w18 c plT 0 (sealI 0))) [] := by
  kernel_rfl
end Go.Am.Ham

namespace Go.Am.Ham
open Go Go.Am Go.Proofs
set_option maxRecDepth 100000

/-- The exclusive or of the places below n that are set, and whether their number is odd. -/
def synB (b : Nat → Bool) : Nat → Nat
  | 0 => 0
  | n + 1 => if b n then synB b n ^^^ n else synB b n
def parB (b : Nat → Bool) : Nat → Nat
  | 0 => 0
  | n + 1 => if b n then 1 - parB b n else parB b n
theorem synB_lt (b : Nat → Bool) : ∀ n, n ≤ 64 → synB b n < 64
  | 0, _ => by simp [synB]
  | n + 1, h => by
    have := synB_lt b n (by omega)
    unfold synB
    split
    · exact xor64 this (by omega)
    · exact this
theorem parB_le (b : Nat → Bool) : ∀ n, parB b n ≤ 1
  | 0 => by simp [parB]
  | n + 1 => by
    have := parB_le b n
    unfold parB
    split <;> omega

def s19 : Spec := fun args h K => match args, h with
  | [.int .u64 c], [] => 0 ≤ c ∧ c < 2 ^ 64 ∧ K (.tuple #[.int .i64 ((synB c.toNat.testBit 39 : Nat) : Int), .int .i64 ((parB c.toNat.testBit 39 : Nat) : Int)]) []
  | _, _ => False
def T19 : LSpec := fun e h k => match e, h with
  | [(0, .int .u64 c), (4, .int .i64 s), (5, .int .i64 p), (6, .int .i64 i)], [] =>
    0 ≤ c ∧ c < 2 ^ 64 ∧ s = 0 ∧ p = 0 ∧ i = 0 ∧ k (.exit 0) [(4, .int .i64 ((synB c.toNat.testBit 39 : Nat) : Int)), (5, .int .i64 ((parB c.toNat.testBit 39 : Nat) : Int))] []
  | _, _ => False
def tbl19 : List (Nat × Spec) := []
theorem tbl19_ok : AllOk Tryd.prog G0 tbl19 := trivial
theorem bit_testBit (n i : Nat) : (n / 2 ^ i % 2 = 1) ↔ n.testBit i = true := by
  rw [Nat.testBit_eq_decide_div_mod_eq, decide_eq_true_eq]

end Go.Am.Ham

namespace Go.Am.Ham
open Go Go.Am Go.Proofs
set_option maxRecDepth 100000

def tbl12 : List (Nat × Spec) := []
theorem tbl12_ok : AllOk Tryd.prog G0 tbl12 := trivial
def r12 (K : Value → AHeap → Prop) : Nat → Nat → Int → Prop
  | 0, _, _ => K (.tuple #[.int .i64 0, .bool false]) []
  | f + 1, i, n => (0 : Int) ≤ ((i : Nat) : Int) ∧ cond (isChk i) (r12 K f (i + 1) n) (cond (decide (n = 0)) (K (.tuple #[.int .i64 ((i : Nat) : Int), .bool true]) []) (r12 K f (i + 1) (iSub .i64 n 1)))
/-- The place of the nth data bit. -/
def plR (n : Int) : Value := cond (decide (0 ≤ n) && decide (n < 32)) (.tuple #[.int .i64 ((plT.getD n.toNat 0 : Nat) : Int), .bool true]) (.tuple #[.int .i64 0, .bool false])
def s12 : Spec := fun args h K => match args, h with
  | [.int .i64 n], [] => -1 ≤ n ∧ n ≤ 1000 ∧ K (plR n) []
  | _, _ => False
theorem pl_facts : ∀ i : Fin 32, ∃ v : Nat, plT.getD i.val 0 = v ∧ v < 64 ∧ plV.getD i.val undef = .int .i64 (v : Nat) := by
  intro i
  refine ⟨plT.getD i.val 0, rfl, ?_, ?_⟩
  · revert i; decide
  · have h : i.val < plT.length := i.isLt
    simp only [plV, List.getD_eq_getElem?_getD, List.getElem?_map, List.getElem?_eq_getElem h, Option.map_some, Option.getD_some]

theorem i64_in (n : Int) (h : -9223372036854775808 ≤ n ∧ n ≤ 9223372036854775807) : IntKind.i64.wrap n = n := by
  simp only [IntKind.wrap, IntKind.bits, IntKind.signed]; simp; split <;> omega
def q12 : Nat → Nat → Nat → Option Nat
  | 0, _, _ => none
  | f + 1, i, n => cond (isChk i) (q12 f (i + 1) n) (match n with | 0 => some i | m + 1 => q12 f (i + 1) m)
theorem r12_ok {K : Value → AHeap → Prop} : ∀ (f i n : Nat), n ≤ 1000 → K (match q12 f i n with | some p => .tuple #[.int .i64 ((p : Nat) : Int), .bool true] | none => .tuple #[.int .i64 0, .bool false]) [] → r12 K f i ((n : Nat) : Int)
  | 0, _, _, _, hk => hk
  | f + 1, i, n, hn, hk => by
    refine ⟨Int.natCast_nonneg i, ?_⟩
    cases hc : isChk i with
    | true =>
      simp only [q12, hc, cond_true] at hk
      rw [cond_true]
      exact r12_ok f (i + 1) n hn hk
    | false =>
      simp only [q12, hc, cond_false] at hk
      rw [cond_false]
      cases n with
      | zero => exact hk
      | succ m =>
        rw [decide_eq_false (show ¬ (((m + 1 : Nat) : Int) = 0) from by omega), cond_false, show (1 : Int) = ((1 : Nat) : Int) from rfl, iSub_cast .i64 (by omega) (by rw [cap_i64]; omega)]
        exact r12_ok f (i + 1) m (by omega) hk
theorem r12_neg {K : Value → AHeap → Prop} (hk : K (.tuple #[.int .i64 0, .bool false]) []) : ∀ (f i : Nat) (n : Int), n < 0 → -10000 + f ≤ n → r12 K f i n
  | 0, _, _, _, _ => hk
  | f + 1, i, n, hn, hl => by
    refine ⟨Int.natCast_nonneg i, ?_⟩
    cases hc : isChk i with
    | true => exact r12_neg hk f (i + 1) n hn (by omega)
    | false =>
      rw [cond_false, decide_eq_false (show ¬ (n = 0) from by omega), cond_false]
      have e : iSub .i64 n 1 = n - 1 := by
        unfold iSub; exact i64_in _ (by omega)
      rw [e]
      exact r12_neg hk f (i + 1) (n - 1) (by omega) (by omega)
theorem q12_small : ∀ i : Fin 32, q12 39 0 i.val = some (plT.getD i.val 0) := by decide
theorem q12_none : ∀ (f i n : Nat), f ≤ n → q12 f i n = none
  | 0, _, _, _ => rfl
  | f + 1, i, n, h => by
    cases hc : isChk i with
    | true => simp only [q12, hc, cond_true]; exact q12_none f (i + 1) n (by omega)
    | false =>
      cases n with
      | zero => omega
      | succ m => simp only [q12, hc, cond_false]; exact q12_none f (i + 1) m (by omega)
theorem q12_mid : ∀ i : Fin 39, 32 ≤ i.val → q12 39 0 i.val = none := by decide
end Go.Am.Ham

namespace Go.Am.Ham
open Go Go.Am Go.Proofs
set_option maxRecDepth 100000

def tbl20 : List (Nat × Spec) := []
theorem tbl20_ok : AllOk Tryd.prog G0 tbl20 := trivial
noncomputable def r20 (K : Value → AHeap → Prop) (c : Int) : Nat → Int → Prop
  | 0, x => K (.int .u32 x) []
  | i + 1, x => (-1 : Int) ≤ ((i : Nat) : Int) ∧ ((i : Nat) : Int) ≤ 1000 ∧ 0 ≤ c ∧ c < 2 ^ 64 ∧ (0 : Int) ≤ ((plT.getD i 0 : Nat) : Int) ∧ ((plT.getD i 0 : Nat) : Int) < 64 ∧
    r20 K c i (sealI (iAdd .u32 (iMul .u32 x 2) (IntKind.u32.wrap ((c.toNat / 2 ^ (plT.getD i 0) % 2 : Nat) : Int))))
end Go.Am.Ham

namespace Go.Am.Ham
open Go Go.Am Go.Proofs
set_option maxRecDepth 100000

def s17 : Spec := fun args h K => match args, h with
  | [.int .u64 c], [] => 0 ≤ c ∧ c < 2 ^ 64 ∧ K (.tuple #[.int .i64 ((onesX c.toNat : Nat) : Int), .int .i64 ((pcN c.toNat % 2 : Nat) : Int)]) []
  | _, _ => False
theorem pcN_lt (n : Nat) : pcN n < 128 := by
  unfold pcN
  have h : q4 4294967296 (q4 65536 (q4 256 (q3 (q2 (q1 n))))) &&& 127 ≤ 127 := Nat.and_le_right
  omega
theorem and_one (n : Nat) : n &&& 1 = n % 2 := by simp
theorem ok17 : SpecOk Tryd.prog G0 56 s17 :=
  spec_of_body (tbl := tblE) (N := 12) (held := fun i => Nat.beq i 3) (loops := fun _ => none) (keep := upto 12 0) (fuel := 100) (sl := []) mixed tblE_ok Tryd.func56
    (by kernel_rfl : Tryd.f56.body = some (codeOf Tryd.f56)) (by kernel_rfl) (fun _ _ _ => loopsOk_none (fun _ => rfl) _) (by
      intro args h K hk
      unfold s17 at hk
      split at hk
      · rename_i c
        show bodyK (cfgE 12 (fun i => Nat.beq i 3) []) (codeOf Tryd.f56) Tryd.f56.results.toList [.int .u64 c] [] K
        have h0 := hk.1
        have h1 := hk.2.1
        replace hk := hk.2.2
        have hp := pcN_lt c.toNat
        rw [body17, Nat.zero_xor, show (1 : Int) = ((1 : Nat) : Int) from rfl, iAnd_cast .i64 (by rw [cap_i64]; omega) (by rw [cap_i64]; omega), and_one]
        exact ⟨h0, h1, by omega, by omega, h0, h1, hk⟩
      · exact hk.elim)

end Go.Am.Ham

namespace Go.Am.Ham
open Go Go.Am Go.Proofs
set_option maxRecDepth 100000

def plN (n : Nat) : Nat := plT.getD n 0
/-- The word's bits at their places. -/
def encA (w : Nat) : Nat → Nat
  | 0 => 0
  | i + 1 => encA w i ||| (w / 2 ^ i % 2) * 2 ^ plN i
/-- The word with the check bits that s asks for. -/
def encB (s x : Nat) : Nat → Nat
  | 0 => x
  | j + 1 => if s &&& 2 ^ j ≠ 0 then encB s x j ||| 2 ^ 2 ^ j else encB s x j

/-- The place of a bit, by cases. -/
def s12b : Spec := fun args h K => match args, h with
  | [.int .i64 n], [] => -1 ≤ n ∧ n ≤ 1000 ∧ (0 ≤ n ∧ n < 32 → K (.tuple #[.int .i64 ((plN n.toNat : Nat) : Int), .bool true]) []) ∧ (¬ (0 ≤ n ∧ n < 32) → K (.tuple #[.int .i64 0, .bool false]) [])
  | _, _ => False
def T13a : LSpec := fun e h k => match e, h with
  | [(0, .int .u32 w), (3, .int .u64 x), (9, .agg a), (10, .int .i64 i)], [] =>
    0 ≤ w ∧ w < 2 ^ 32 ∧ x = 0 ∧ a = ⟨plV⟩ ∧ i = 0 ∧ k (.exit 0) [(3, .int .u64 ((encA w.toNat 32 : Nat) : Int))] []
  | _, _ => False
def T13b : LSpec := fun e h k => match e, h with
  | [(3, .int .u64 x), (6, .int .i64 s), (8, .int .i64 j)], [] =>
    0 ≤ x ∧ x < 2 ^ 64 ∧ 0 ≤ s ∧ s < 64 ∧ j = 1 ∧ k (.exit 2) [(3, .int .u64 ((encB s.toNat x.toNat 6 : Nat) : Int))] []
  | _, _ => False
def tbl13 : List (Nat × Spec) := [(60, s21), (61, s23), (56, s17)]
theorem tbl13_ok : AllOk Tryd.prog G0 tbl13 := ⟨ok21, ok23, ok17, trivial⟩
noncomputable def c13 : FCfg := mkG Tryd.prog G0 tbl13 47 [(0, [0]), (1, [0, 3]), (2, [0, 3, 9, 10]), (3, [0, 3, 9, 10, 11]), (4, [0, 3, 4, 5, 9, 10]), (5, [0, 3, 9, 10]), (6, [0, 3, 9, 10]), (7, [3, 6]), (8, [3, 6, 8]), (9, [3, 6, 8, 30]), (10, [3, 6, 8]), (11, [3, 6, 8, 36]), (12, [3, 6, 8]), (13, [2])] [(3, [0, 3, 9, 10]), (9, [3, 6, 8])] [(3, [3]), (9, [3])] [(3, T13a), (9, T13b)] [] [] 40 0
noncomputable def t13a (w x i : Int) (k : AExit → Env → AHeap → Prop) : Prop := codeK c13 (nthLoop 0 (codeOf Tryd.f54)) [(0, .int .u32 w), (3, .int .u64 x), (9, .agg ⟨plV⟩), (10, .int .i64 i)] [] k
noncomputable def t13b (x s j : Int) (k : AExit → Env → AHeap → Prop) : Prop := codeK c13 (nthLoop 1 (codeOf Tryd.f54)) [(3, .int .u64 x), (6, .int .i64 s), (8, .int .i64 j)] [] k
noncomputable def b13 (w : Int) (K : Value → AHeap → Prop) : Prop := bodyK c13 (codeOf Tryd.f54) Tryd.f54.results.toList [.int .u32 w] [] K

def T14a : LSpec := fun e h k => match e, h with
  | [(0, .int .u32 w), (3, .int .u64 x), (4, .int .i64 i)], [] =>
    0 ≤ w ∧ w < 2 ^ 32 ∧ x = 0 ∧ i = 0 ∧ k (.exit 0) [(3, .int .u64 ((encA w.toNat 32 : Nat) : Int))] []
  | _, _ => False
def T14b : LSpec := fun e h k => match e, h with
  | [(3, .int .u64 x), (7, .int .i64 s), (9, .int .i64 j)], [] =>
    0 ≤ x ∧ x < 2 ^ 64 ∧ 0 ≤ s ∧ s < 64 ∧ j = 1 ∧ k (.exit 2) [(3, .int .u64 ((encB s.toNat x.toNat 6 : Nat) : Int))] []
  | _, _ => False
def tbl14 : List (Nat × Spec) := []
theorem tbl14_ok : AllOk Tryd.prog G0 tbl14 := trivial
theorem t13a_eq (w x i : Int) (k : AExit → Env → AHeap → Prop) : t13a w x i k = (cond (decide ((i < (32 : Int)))) (cond ((((decide (((0 : Int) ≤ i))) && (decide ((i < (32 : Int))))) && (decide ((((Int.toNat i) + (1 : Nat) : Nat) ≤ (32 : Nat))))) && Bool.true) (cond (isInt IntKind.i64 (List.getD plV (Int.toNat i) Go.undef)) (∀ x1 : Int, ((x1 = (intOf (List.getD plV (Int.toNat i) Go.undef))) → (cond (decide (((0 : Int) ≤ i))) (∀ x2 : Int, ((x2 = (Int.fdiv w ((2 : Int) ^ (ite ((Int.toNat i) ≤ (32 : Nat)) (Int.toNat i) (32 : Nat)) : Int))) → (∀ x3 : Int, ((x3 = (iAnd IntKind.u32 x2 (1 : Int))) → (∀ x4 : Int, ((x4 = (IntKind.wrap IntKind.u64 x3)) → (cond (decide (((0 : Int) ≤ x1))) (∀ x5 : Int, ((x5 = (iMul IntKind.u64 x4 ((2 : Int) ^ (ite ((Int.toNat x1) ≤ (64 : Nat)) (Int.toNat x1) (64 : Nat)) : Int))) → (∀ x6 : Int, ((x6 = (iOr IntKind.u64 x x5)) → (∀ x7 : Int, ((x7 = (iAdd IntKind.i64 i (1 : Int))) → (k AExit.normal [(Prod.mk 0 (Value.int IntKind.u32 w)), (Prod.mk 3 (Value.int IntKind.u64 x6)), (Prod.mk 9 (Value.agg (Array.mk plV))), (Prod.mk 10 (Value.int IntKind.i64 x7))] []))))))) False))))))) False))) False) False) (k (AExit.exit 0) [(Prod.mk 0 (Value.int IntKind.u32 w)), (Prod.mk 3 (Value.int IntKind.u64 x)), (Prod.mk 9 (Value.agg (Array.mk plV))), (Prod.mk 10 (Value.int IntKind.i64 i)), (Prod.mk 11 (Value.bool Bool.false))] [])) := by
  kernel_rfl
theorem t13b_eq (x s j : Int) (k : AExit → Env → AHeap → Prop) : t13b x s j k = (cond (decide ((j ≤ (32 : Int)))) (∀ x1 : Int, ((x1 = (iAnd IntKind.i64 s j)) → (cond (!(decide ((x1 = (0 : Int))))) (cond (decide (((0 : Int) ≤ j))) (∀ x3 : Int, ((x3 = (iMul IntKind.u64 (1 : Int) ((2 : Int) ^ (ite ((Int.toNat j) ≤ (64 : Nat)) (Int.toNat j) (64 : Nat)) : Int))) → (∀ x4 : Int, ((x4 = (iOr IntKind.u64 x x3)) → (∀ x5 : Int, ((x5 = (iMul IntKind.i64 j (2 : Int))) → (k AExit.normal [(Prod.mk 3 (Value.int IntKind.u64 x4)), (Prod.mk 6 (Value.int IntKind.i64 s)), (Prod.mk 8 (Value.int IntKind.i64 x5))] []))))))) False) (∀ x2 : Int, ((x2 = (iMul IntKind.i64 j (2 : Int))) → (k AExit.normal [(Prod.mk 3 (Value.int IntKind.u64 x)), (Prod.mk 6 (Value.int IntKind.i64 s)), (Prod.mk 8 (Value.int IntKind.i64 x2))] [])))))) (k (AExit.exit (2 : Nat)) [(Prod.mk 3 (Value.int IntKind.u64 x)), (Prod.mk 6 (Value.int IntKind.i64 s)), (Prod.mk 8 (Value.int IntKind.i64 j)), (Prod.mk 30 (Value.bool Bool.false))] [])) := by
  kernel_rfl
theorem b13_eq (w : Int) (K : Value → AHeap → Prop) : b13 w K = (((0 : Int) ≤ w) ∧ ((w < (4294967296 : Int)) ∧ (((0 : Int) = (0 : Int)) ∧ (((Array.mk plV) = (Array.mk plV)) ∧ (((0 : Int) = (0 : Int)) ∧ (((0 : Int) ≤ (((encA (Int.toNat w) (32 : Nat)) : Nat) : Int)) ∧ (((((encA (Int.toNat w) (32 : Nat)) : Nat) : Int) < (18446744073709551616 : Int)) ∧ (∀ x1 : Int, ((x1 = (((onesX (Int.toNat (((encA (Int.toNat w) (32 : Nat)) : Nat) : Int))) : Nat) : Int)) → (∀ x2 : Int, ((x2 = ((((pcN (Int.toNat (((encA (Int.toNat w) (32 : Nat)) : Nat) : Int))) % (2 : Nat) : Nat) : Nat) : Int)) → (((0 : Int) ≤ (((encA (Int.toNat w) (32 : Nat)) : Nat) : Int)) ∧ (((((encA (Int.toNat w) (32 : Nat)) : Nat) : Int) < (18446744073709551616 : Int)) ∧ (((0 : Int) ≤ x1) ∧ ((x1 < (64 : Int)) ∧ (((1 : Int) = (1 : Int)) ∧ (((0 : Int) ≤ (((encB (Int.toNat x1) (Int.toNat (((encA (Int.toNat w) (32 : Nat)) : Nat) : Int)) (6 : Nat)) : Nat) : Int)) ∧ (((((encB (Int.toNat x1) (Int.toNat (((encA (Int.toNat w) (32 : Nat)) : Nat) : Int)) (6 : Nat)) : Nat) : Int) < (18446744073709551616 : Int)) ∧ (∀ x3 : Int, ((x3 = (((pcN (Int.toNat (((encB (Int.toNat x1) (Int.toNat (((encA (Int.toNat w) (32 : Nat)) : Nat) : Int)) (6 : Nat)) : Nat) : Int))) : Nat) : Int)) → (∀ x4 : Int, ((x4 = (iAnd IntKind.i64 x3 (1 : Int))) → (∀ x5 : Int, ((x5 = (IntKind.wrap IntKind.u64 x4)) → (∀ x6 : Int, ((x6 = (iOr IntKind.u64 (((encB (Int.toNat x1) (Int.toNat (((encA (Int.toNat w) (32 : Nat)) : Nat) : Int)) (6 : Nat)) : Nat) : Int) x5)) → (K (Value.int IntKind.u64 x6) []))))))))))))))))))))))))))) := by
  kernel_rfl
end Go.Am.Ham

namespace Go.Am.Ham
open Go Go.Am Go.Proofs
set_option maxRecDepth 100000

theorem two_pow_cast (n : Nat) : ((2 : Int) ^ n) = ((2 ^ n : Nat) : Int) := by rw [Int.natCast_pow]; rfl
theorem one_cast : (1 : Int) = ((1 : Nat) : Int) := rfl
theorem two_cast : (2 : Int) = ((2 : Nat) : Int) := rfl

theorem plN_lt (i : Nat) : plN i < 39 := by
  by_cases h : i < 32
  · have : ∀ j : Fin 32, plN j.val < 39 := by decide
    exact this ⟨i, h⟩
  · have : plN i = 0 := by
      unfold plN
      rw [List.getD_eq_getElem?_getD, List.getElem?_eq_none (show plT.length ≤ i from by simp [plT]; omega)]; rfl
    omega
theorem bit_mul_lt {b p : Nat} (hb : b < 2) (hp : p < 39) : b * 2 ^ p < 2 ^ 39 := by
  have h1 : b * 2 ^ p ≤ 1 * 2 ^ p := Nat.mul_le_mul_right _ (by omega)
  have h2 : 2 ^ p < 2 ^ 39 := Nat.pow_lt_pow_right (by omega) hp
  omega
theorem encA_lt (w : Nat) : ∀ n, encA w n < 2 ^ 39
  | 0 => by simp [encA]
  | n + 1 => by
    unfold encA
    exact Nat.or_lt_two_pow (encA_lt w n) (bit_mul_lt (Nat.mod_lt _ (by omega)) (plN_lt n))
theorem encB_lt (s : Nat) {x : Nat} (hx : x < 2 ^ 39) : ∀ n, n ≤ 6 → encB s x n < 2 ^ 39
  | 0, _ => hx
  | n + 1, h => by
    have := encB_lt s hx n (by omega)
    unfold encB
    split
    · refine Nat.or_lt_two_pow this ?_
      have h1 : 2 ^ n ≤ 2 ^ 5 := Nat.pow_le_pow_right (by omega) (by omega)
      exact Nat.pow_lt_pow_right (by omega) (by omega)
    · exact this

theorem encB_lt64 (s : Nat) {x : Nat} (hx : x < 2 ^ 64) : ∀ n, n ≤ 6 → encB s x n < 2 ^ 64
  | 0, _ => hx
  | n + 1, h => by
    have := encB_lt64 s hx n (by omega)
    unfold encB
    split
    · refine Nat.or_lt_two_pow this ?_
      have h1 : 2 ^ n ≤ 2 ^ 5 := Nat.pow_le_pow_right (by omega) (by omega)
      exact Nat.pow_lt_pow_right (by omega) (by omega)
    · exact this

theorem loop13a : ∀ e h k, T13a e h k → ∃ m, loopN c13 (codeOf Tryd.f54) 0 3 m e h k := by
  intro e h k hT
  unfold T13a at hT
  split at hT
  · rename_i w x a i
    obtain ⟨h0, h1, rfl, rfl, rfl, hk⟩ := hT
    obtain ⟨w, rfl⟩ := nat_of h0
    have h1 : w < 2 ^ 32 := by omega
    rw [Int.toNat_natCast] at hk
    refine ⟨33, ?_⟩
    have key : ∀ n i : Nat, i + n = 32 → loopN c13 (codeOf Tryd.f54) 0 3 (n + 1) [(0, .int .u32 (w : Nat)), (3, .int .u64 (encA w i : Nat)), (9, .agg ⟨plV⟩), (10, .int .i64 (i : Nat))] [] k := by
      intro n
      induction n with
      | zero =>
        intro i hi
        have : i = 32 := by omega
        subst this
        rw [loopN_succ]
        show t13a _ _ _ _
        rw [t13a_eq, decide_eq_false (by omega), cond_false]
        exact hk
      | succ n ih =>
        intro i hi
        rw [loopN_succ]
        show t13a _ _ _ _
        rw [t13a_eq, decide_eq_true (show (i : Int) < 32 by omega), cond_true]
        obtain ⟨v, e1, e2, e3⟩ := pl_facts ⟨i, by omega⟩
        have e1 : plN i = v := e1
        have e3 : plV.getD i undef = .int .i64 (v : Nat) := e3
        rw [Int.toNat_natCast, decide_eq_true (show (0 : Int) ≤ i by omega), decide_eq_true (show i + 1 ≤ 32 by omega)]
        simp only [Bool.and_self, cond_true]
        show cond (isInt .i64 (plV.getD i undef)) (∀ x1 : Int, x1 = intOf (plV.getD i undef) → _) False
        rw [e3]
        show ∀ x1 : Int, x1 = (v : Int) → _
        rintro _ rfl
        intro x2 hx2 x3 hx3 x4 hx4
        have hw : i < 32 := by omega
        rw [if_pos (by omega), two_pow_cast, fdiv_cast] at hx2
        rw [hx2, one_cast, iAnd_cast .u32 (Nat.lt_of_le_of_lt (Nat.div_le_self _ _) (by rw [cap_u32]; omega)) (by rw [cap_u32]; omega), and_one] at hx3
        rw [hx3, wrap_cast .u64 (by rw [cap_u64]; omega)] at hx4
        rw [decide_eq_true (show (0 : Int) ≤ v by omega), cond_true]
        intro x5 hx5 x6 hx6 x7 hx7
        have hb : w / 2 ^ i % 2 < 2 := Nat.mod_lt _ (by omega)
        have hv := plN_lt i
        rw [e1] at hv
        have hm := bit_mul_lt hb hv
        have ha := encA_lt w i
        rw [hx4, Int.toNat_natCast, if_pos (by omega), two_pow_cast, iMul_cast .u64 (by rw [cap_u64]; omega)] at hx5
        rw [hx5, iOr_cast .u64 (by rw [cap_u64]; omega) (by rw [cap_u64]; omega)] at hx6
        rw [one_cast, iAdd_cast .i64 (by rw [cap_i64]; omega)] at hx7
        rw [hx6, hx7]
        have := ih (i + 1) (by omega)
        unfold encA at this
        rw [e1] at this
        exact this
    have h := key 32 0 rfl
    rw [show ((encA w 0 : Nat) : Int) = 0 from rfl, show ((0 : Nat) : Int) = 0 from rfl] at h
    exact h
  · exact hT.elim

theorem loop13b : ∀ e h k, T13b e h k → ∃ m, loopN c13 (codeOf Tryd.f54) 1 9 m e h k := by
  intro e h k hT
  unfold T13b at hT
  split at hT
  · rename_i x s j
    obtain ⟨h0, h1, h2, h3, rfl, hk⟩ := hT
    obtain ⟨x, rfl⟩ := nat_of h0
    obtain ⟨s, rfl⟩ := nat_of h2
    have h1 : x < 2 ^ 64 := by omega
    rw [Int.toNat_natCast, Int.toNat_natCast] at hk
    refine ⟨7, ?_⟩
    have key : ∀ n i : Nat, i + n = 6 → loopN c13 (codeOf Tryd.f54) 1 9 (n + 1) [(3, .int .u64 (encB s x i : Nat)), (6, .int .i64 (s : Nat)), (8, .int .i64 ((2 ^ i : Nat) : Int))] [] k := by
      intro n
      induction n with
      | zero =>
        intro i hi
        have : i = 6 := by omega
        subst this
        rw [loopN_succ]
        show t13b _ _ _ _
        rw [t13b_eq, decide_eq_false (by omega), cond_false]
        exact hk
      | succ n ih =>
        intro i hi
        have hp : 2 ^ i ≤ 2 ^ 5 := Nat.pow_le_pow_right (by omega) (by omega)
        have hq : 2 ^ 2 ^ i < 2 ^ 33 := Nat.pow_lt_pow_right (by omega) (by omega)
        have hb := encB_lt64 s h1 i (by omega)
        have := ih (i + 1) (by omega)
        unfold encB at this
        rw [Nat.pow_succ] at this
        have h0' : 0 < 2 ^ i := Nat.two_pow_pos i
        generalize 2 ^ i = p at *
        rw [loopN_succ]
        show t13b _ _ _ _
        rw [t13b_eq, decide_eq_true (show (p : Int) ≤ 32 by omega), cond_true]
        intro x1 hx1
        rw [iAnd_cast .i64 (by rw [cap_i64]; omega) (by rw [cap_i64]; omega)] at hx1
        rw [hx1]
        have eM : iMul .i64 (p : Int) 2 = (p * 2 : Nat) := by rw [two_cast, iMul_cast .i64 (by rw [cap_i64]; omega)]
        by_cases hz : s &&& p = 0
        · rw [decide_eq_true (show ((s &&& p : Nat) : Int) = 0 by omega), Bool.not_true, cond_false]
          intro x2 hx2
          rw [eM] at hx2
          rw [if_neg (by omega)] at this
          rw [hx2]; exact this
        · rw [decide_eq_false (show ¬ ((s &&& p : Nat) : Int) = 0 by omega), Bool.not_false, cond_true, decide_eq_true (show (0 : Int) ≤ p by omega), cond_true]
          intro x3 hx3 x4 hx4 x5 hx5
          rw [Int.toNat_natCast, if_pos (by omega), two_pow_cast, one_cast, iMul_cast .u64 (by rw [cap_u64]; omega), Nat.one_mul] at hx3
          rw [hx3, iOr_cast .u64 (by rw [cap_u64]; omega) (by rw [cap_u64]; omega)] at hx4
          rw [eM] at hx5
          rw [if_pos hz] at this
          rw [hx4, hx5]; exact this
    have h := key 6 0 rfl
    rw [show encB s x 0 = x from rfl, show ((2 ^ 0 : Nat) : Int) = 1 from rfl] at h
    exact h
  · exact hT.elim

def encN (w : Nat) : Nat := encB (onesX (encA w 32)) (encA w 32) 6 ||| pcN (encB (onesX (encA w 32)) (encA w 32) 6) % 2
def s13 : Spec := fun args h K => match args, h with
  | [.int .u32 w], [] => 0 ≤ w ∧ w < 2 ^ 32 ∧ K (.int .u64 ((encN w.toNat : Nat) : Int)) []
  | _, _ => False
theorem onesX_lt (n : Nat) : onesX n < 64 := by
  induction n using Nat.strongRecOn with
  | ind n ih =>
    by_cases h : n = 0
    · subst h; rw [onesX_zero]; omega
    · rw [onesX_pos h]; exact xor64 (tzR_lt n) (ih _ (and_pred_lt h))

theorem ok13 : SpecOk Tryd.prog G0 54 s13 :=
  spec2 mixed tbl13_ok Tryd.func54 (by kernel_rfl : Tryd.f54.body = some (codeOf Tryd.f54)) c13 rfl rfl rfl (by kernel_rfl) (ids := [3, 9]) (by kernel_rfl) ⟨loop13a, loop13b, trivial⟩ (by
    intro args h K hk
    unfold s13 at hk
    split at hk
    · rename_i w
      have h0 := hk.1
      have h1 := hk.2.1
      replace hk := hk.2.2
      show b13 w K
      rw [b13_eq]
      have hA := encA_lt w.toNat 32
      refine ⟨h0, h1, rfl, rfl, rfl, by omega, by omega, ?_⟩
      intro x1 hx1 x2 _
      have hX := onesX_lt (encA w.toNat 32)
      rw [Int.toNat_natCast] at hx1
      refine ⟨by omega, by omega, by omega, by omega, rfl, ?_⟩
      subst hx1
      have hB := encB_lt (onesX (encA w.toNat 32)) hA 6 (by omega)
      rw [Int.toNat_natCast, Int.toNat_natCast]
      unfold encN at hk
      generalize encB (onesX (encA w.toNat 32)) (encA w.toNat 32) 6 = y at *
      refine ⟨by omega, by omega, ?_⟩
      intro x3 hx3 x4 hx4 x5 hx5 x6 hx6
      have hp := pcN_lt y
      rw [Int.toNat_natCast] at hx3
      rw [hx3, one_cast, iAnd_cast .i64 (by rw [cap_i64]; omega) (by rw [cap_i64]; omega), and_one] at hx4
      rw [hx4, wrap_cast .u64 (by rw [cap_u64]; omega)] at hx5
      rw [hx5, iOr_cast .u64 (by rw [cap_u64]; omega) (by rw [cap_u64]; omega)] at hx6
      rw [hx6]; exact hk
    · exact hk.elim)
end Go.Am.Ham

namespace Go.Am.Ham
open Go Go.Am Go.Proofs
set_option maxRecDepth 100000

def encR (w : Nat) : Nat := encB (synB (encA w 32).testBit 39) (encA w 32) 6 ||| parB (encB (synB (encA w 32).testBit 39) (encA w 32) 6).testBit 39
def s14 : Spec := fun args h K => match args, h with
  | [.int .u32 w], [] => 0 ≤ w ∧ w < 2 ^ 32 ∧ K (.int .u64 ((encR w.toNat : Nat) : Int)) []
  | _, _ => False

end Go.Am.Ham

namespace Go.Am.Ham
open Go Go.Am Go.Proofs
set_option maxRecDepth 100000

/-- The word of a coded word, by its first n bits. -/
def wordN (c : Nat) : Nat → Nat
  | 0 => 0
  | n + 1 => wordN c n + (c / 2 ^ plN n % 2) * 2 ^ n
theorem wordN_lt (c : Nat) : ∀ n, wordN c n < 2 ^ n
  | 0 => by simp [wordN]
  | n + 1 => by
    have h1 := wordN_lt c n
    have h2 : (c / 2 ^ plN n % 2) * 2 ^ n ≤ 1 * 2 ^ n := Nat.mul_le_mul_right _ (by have := Nat.mod_lt (c / 2 ^ plN n) (show 0 < 2 by omega); omega)
    unfold wordN
    rw [Nat.pow_succ]; omega
theorem add_or {x b i : Nat} (h : x < 2 ^ i) : x ||| b * 2 ^ i = x + b * 2 ^ i := by
  rw [Nat.or_comm, Nat.add_comm, Nat.mul_comm, ← Nat.two_pow_add_eq_or_of_lt h]
theorem plT_drop (i : Nat) (h : i < 32) : plT.drop i = plN i :: plT.drop (i + 1) := by
  rw [List.drop_eq_getElem_cons (show i < plT.length from h)]
  unfold plN
  rw [List.getD_eq_getElem?_getD, List.getElem?_eq_getElem (show i < plT.length from h)]; rfl

def s18 : Spec := fun args h K => match args, h with
  | [.int .u64 c], [] => 0 ≤ c ∧ c < 2 ^ 64 ∧ K (.int .u32 ((wordN c.toNat 32 : Nat) : Int)) []
  | _, _ => False
theorem w18_ok (c : Nat) (hc : c < 2 ^ 64) : ∀ n i, i + n = 32 → w18 (c : Int) (plT.drop i) i ((wordN c i : Nat) : Int) = ((wordN c 32 : Nat) : Int)
  | 0, i, h => by
    have : i = 32 := by omega
    subst this
    rfl
  | n + 1, i, h => by
    rw [plT_drop i (by omega)]
    have hw := wordN_lt c i
    have hle : 2 ^ (i + 1) ≤ 2 ^ 32 := Nat.pow_le_pow_right (by omega) (by omega)
    have hw2 := wordN_lt c (i + 1)
    have ho := add_or (b := c / 2 ^ plN i % 2) hw
    have ih := w18_ok c hc n (i + 1) (by omega)
    have e : wordN c (i + 1) = wordN c i + (c / 2 ^ plN i % 2) * 2 ^ i := rfl
    have hd : c / 2 ^ plN i < 2 ^ 64 := Nat.lt_of_le_of_lt (Nat.div_le_self _ _) hc
    show w18 (c : Int) (plT.drop (i + 1)) (i + 1) (sealI (iOr .u32 _ (IntKind.u32.wrap (IntKind.u32.wrap (iAnd .u64 (Int.fdiv (c : Int) (2 ^ plN i)) 1) * 2 ^ i)))) = _
    have hp : 2 ^ (i + 1) = 2 ^ i * 2 := Nat.pow_succ 2 i
    rw [sealI_eq, two_pow_cast, fdiv_cast, one_cast, iAnd_cast .u64 (by rw [cap_u64]; omega) (by rw [cap_u64]; omega), and_one, wrap_cast .u32 (by rw [cap_u32]; omega), two_pow_cast, ← Int.natCast_mul,
      wrap_cast .u32 (by rw [cap_u32]; omega), iOr_cast .u32 (by rw [cap_u32]; omega) (by rw [cap_u32]; omega), ho, ← e]
    exact ih
theorem ok18 : SpecOk Tryd.prog G0 57 s18 :=
  spec_of_body (tbl := tblE) (N := 22) (held := fun _ => false) (loops := fun _ => none) (keep := upto 22 0) (fuel := 100) (sl := [3]) mixed tblE_ok Tryd.func57
    (by kernel_rfl : Tryd.f57.body = some (codeOf Tryd.f57)) (by kernel_rfl) (fun _ _ _ => loopsOk_none (fun _ => rfl) _) (by
      intro args h K hk
      unfold s18 at hk
      split at hk
      · rename_i c
        have h0 := hk.1
        have h1 := hk.2.1
        replace hk := hk.2.2
        show bodyK (cfgE 22 (fun _ => false) [3]) (codeOf Tryd.f57) Tryd.f57.results.toList [.int .u64 c] [] K
        obtain ⟨c, rfl⟩ := nat_of h0
        rw [body18]
        rw [Int.toNat_natCast] at hk
        have := w18_ok c (by omega) 32 0 rfl
        rw [show wordN c 0 = 0 from rfl, List.drop_zero] at this
        rw [sealI_eq, show (0 : Int) = ((0 : Nat) : Int) from rfl, this]
        exact hk
      · exact hk.elim)

def s20 : Spec := s18
theorem r20_ok (K : Value → AHeap → Prop) (c : Nat) (hc : c < 2 ^ 64) : ∀ (i x : Nat), x * 2 ^ i + wordN c i < 2 ^ 32 → i ≤ 32 → K (.int .u32 ((x * 2 ^ i + wordN c i : Nat) : Int)) [] → r20 K (c : Int) i (x : Int)
  | 0, x, _, _, hk => by
    rw [Nat.pow_zero, Nat.mul_one, show wordN c 0 = 0 from rfl, Nat.add_zero] at hk
    exact hk
  | i + 1, x, hx, hi, hk => by
    have hpl := plN_lt i
    have e1 : plT.getD i 0 = plN i := rfl
    have hb : c / 2 ^ plN i % 2 < 2 := Nat.mod_lt _ (by omega)
    have e : x * 2 ^ (i + 1) + wordN c (i + 1) = (x * 2 + c / 2 ^ plN i % 2) * 2 ^ i + wordN c i := by
      rw [show wordN c (i + 1) = wordN c i + (c / 2 ^ plN i % 2) * 2 ^ i from rfl, Nat.pow_succ, Nat.add_mul, Nat.mul_assoc, Nat.mul_comm (2 ^ i) 2]; omega
    rw [e] at hx hk
    have h0 : 0 < 2 ^ i := Nat.two_pow_pos i
    have hb2 : x * 2 + c / 2 ^ plN i % 2 < 2 ^ 32 := Nat.lt_of_le_of_lt (Nat.le_trans (Nat.le_mul_of_pos_right _ h0) (Nat.le_add_right _ _)) hx
    unfold r20
    rw [e1]
    refine ⟨by omega, by omega, by omega, by omega, by omega, by omega, ?_⟩
    rw [sealI_eq, Int.toNat_natCast, two_cast, iMul_cast .u32 (by rw [cap_u32]; omega), wrap_cast .u32 (by rw [cap_u32]; omega), iAdd_cast .u32 (by rw [cap_u32]; omega)]
    exact r20_ok K c hc i _ hx (by omega) hk
/-! ### Decode -/
def decN (c : Nat) : Nat × Nat × Nat :=
  if 2 ^ 39 ≤ c then (0, 0, 2) else
  if pcN c % 2 = 1 ∧ onesX c < 39 then (wordN (c ^^^ 2 ^ onesX c) 32, 1, 0) else
  if pcN c % 2 = 0 ∧ onesX c = 0 then (wordN c 32, 0, 0) else (0, 2, 0)
def decR (c : Nat) : Nat × Nat × Nat :=
  if 2 ^ 39 ≤ c then (0, 0, 2) else
  if synB c.testBit 39 = 0 ∧ parB c.testBit 39 = 0 then (wordN c 32, 0, 0) else
  if parB c.testBit 39 = 1 ∧ synB c.testBit 39 < 39 then (wordN (c ^^^ 2 ^ synB c.testBit 39) 32, 1, 0) else (0, 2, 0)
def tripV (p : Nat × Nat × Nat) : Value := .tuple #[.int .u32 ((p.1 : Nat) : Int), .int .i64 ((p.2.1 : Nat) : Int), .int .i64 ((p.2.2 : Nat) : Int)]
def s9 : Spec := fun args h K => match args, h with
  | [.int .u64 c], [] => 0 ≤ c ∧ c < 2 ^ 64 ∧ K (.tuple #[.int .u32 (((decN c.toNat).1 : Nat) : Int), .int .i64 (((decN c.toNat).2.1 : Nat) : Int), .int .i64 (((decN c.toNat).2.2 : Nat) : Int)]) []
  | _, _ => False
def s10 : Spec := fun args h K => match args, h with
  | [.int .u64 c], [] => 0 ≤ c ∧ c < 2 ^ 64 ∧ K (.tuple #[.int .u32 (((decR c.toNat).1 : Nat) : Int), .int .i64 (((decR c.toNat).2.1 : Nat) : Int), .int .i64 (((decR c.toNat).2.2 : Nat) : Int)]) []
  | _, _ => False
def tbl9 : List (Nat × Spec) := [(55, s16), (56, s17), (57, s18)]
theorem tbl9_ok : AllOk Tryd.prog G0 tbl9 := ⟨ok16, ok17, ok18, trivial⟩
noncomputable def c9 : FCfg := mkG Tryd.prog G0 tbl9 36 [(0, [0]), (1, [0, 9]), (2, [2, 3, 4]), (3, [0, 5, 6]), (4, [0, 5, 6, 15]), (5, [2, 3, 4]), (6, [0, 27]), (7, [2, 3, 4]), (8, [2, 3, 4])] [] [] [] [] [] 40 0
noncomputable def b9 (c : Int) (K : Value → AHeap → Prop) : Prop := bodyK c9 (codeOf Tryd.f51) Tryd.f51.results.toList [.int .u64 c] [] K
def tbl10 : List (Nat × Spec) := []
theorem tbl10_ok : AllOk Tryd.prog G0 tbl10 := trivial
theorem b9_eq (c : Int) (K : Value → AHeap → Prop) : b9 c K = (((0 : Int) ≤ c) ∧ ((c < (18446744073709551616 : Int)) ∧ (∀ x1 : Int, ((x1 = (((lenN (Int.toNat c)) : Nat) : Int)) → (cond (decide ((x1 > (39 : Int)))) (K (Value.tuple (Array.mk [(Value.int IntKind.u32 (0 : Int)), (Value.int IntKind.i64 (0 : Int)), (Value.int IntKind.i64 (2 : Int))])) []) (((0 : Int) ≤ c) ∧ ((c < (18446744073709551616 : Int)) ∧ (∀ x2 : Int, ((x2 = (((onesX (Int.toNat c)) : Nat) : Int)) → (∀ x3 : Int, ((x3 = ((((pcN (Int.toNat c)) % (2 : Nat) : Nat) : Nat) : Int)) → (cond (decide ((x3 = (1 : Int)))) (cond (decide ((x2 < (39 : Int)))) (cond (decide (((0 : Int) ≤ x2))) (∀ x6 : Int, ((x6 = (iMul IntKind.u64 (1 : Int) ((2 : Int) ^ (ite ((Int.toNat x2) ≤ (64 : Nat)) (Int.toNat x2) (64 : Nat)) : Int))) → (∀ x7 : Int, ((x7 = (iXor IntKind.u64 c x6)) → (((0 : Int) ≤ x7) ∧ ((x7 < (18446744073709551616 : Int)) ∧ (∀ x8 : Int, ((x8 = (((wordN (Int.toNat x7) (32 : Nat)) : Nat) : Int)) → (K (Value.tuple (Array.mk [(Value.int IntKind.u32 x8), (Value.int IntKind.i64 (1 : Int)), (Value.int IntKind.i64 (0 : Int))])) []))))))))) False) (cond (decide ((x3 = (0 : Int)))) (cond (decide ((x2 = (0 : Int)))) (((0 : Int) ≤ c) ∧ ((c < (18446744073709551616 : Int)) ∧ (∀ x5 : Int, ((x5 = (((wordN (Int.toNat c) (32 : Nat)) : Nat) : Int)) → (K (Value.tuple (Array.mk [(Value.int IntKind.u32 x5), (Value.int IntKind.i64 (0 : Int)), (Value.int IntKind.i64 (0 : Int))])) []))))) (K (Value.tuple (Array.mk [(Value.int IntKind.u32 (0 : Int)), (Value.int IntKind.i64 (2 : Int)), (Value.int IntKind.i64 (0 : Int))])) [])) (K (Value.tuple (Array.mk [(Value.int IntKind.u32 (0 : Int)), (Value.int IntKind.i64 (2 : Int)), (Value.int IntKind.i64 (0 : Int))])) []))) (cond (decide ((x3 = (0 : Int)))) (cond (decide ((x2 = (0 : Int)))) (((0 : Int) ≤ c) ∧ ((c < (18446744073709551616 : Int)) ∧ (∀ x4 : Int, ((x4 = (((wordN (Int.toNat c) (32 : Nat)) : Nat) : Int)) → (K (Value.tuple (Array.mk [(Value.int IntKind.u32 x4), (Value.int IntKind.i64 (0 : Int)), (Value.int IntKind.i64 (0 : Int))])) []))))) (K (Value.tuple (Array.mk [(Value.int IntKind.u32 (0 : Int)), (Value.int IntKind.i64 (2 : Int)), (Value.int IntKind.i64 (0 : Int))])) [])) (K (Value.tuple (Array.mk [(Value.int IntKind.u32 (0 : Int)), (Value.int IntKind.i64 (2 : Int)), (Value.int IntKind.i64 (0 : Int))])) [])))))))))))))) := by
  kernel_rfl
end Go.Am.Ham

namespace Go.Am.Ham
open Go Go.Am Go.Proofs
set_option maxRecDepth 100000

theorem lenN_gt {n : Nat} (h : 2 ^ 39 ≤ n) : 39 < lenN n := by
  have h0 : n ≠ 0 := by omega
  unfold lenN
  rw [if_neg h0]
  have := (Nat.le_log2 h0).2 h
  omega
theorem flip_cast {c s : Nat} (hc : c < 2 ^ 39) (hs : s < 39) : iXor .u64 (c : Int) (iMul .u64 (1 : Int) ((2 : Int) ^ (if ((s : Nat) : Int).toNat ≤ 64 then ((s : Nat) : Int).toNat else 64))) = (c ^^^ 2 ^ s : Nat) ∧ c ^^^ 2 ^ s < 2 ^ 39 := by
  have h1 : 2 ^ s < 2 ^ 39 := Nat.pow_lt_pow_right (by omega) hs
  refine ⟨?_, Nat.xor_lt_two_pow hc h1⟩
  rw [Int.toNat_natCast, if_pos (by omega), two_pow_cast, one_cast, iMul_cast .u64 (by rw [cap_u64]; omega), Nat.one_mul, iXor_cast .u64 (by rw [cap_u64]; omega) (by rw [cap_u64]; omega)]

theorem ok9 : SpecOk Tryd.prog G0 51 s9 :=
  spec2 mixed tbl9_ok Tryd.func51 (by kernel_rfl : Tryd.f51.body = some (codeOf Tryd.f51)) c9 rfl rfl rfl (by kernel_rfl) (ids := []) (by kernel_rfl) trivial (by
    intro args h K hk
    unfold s9 at hk
    split at hk
    · rename_i c
      have h0 := hk.1
      have h1 := hk.2.1
      replace hk := hk.2.2
      show b9 c K
      obtain ⟨c, rfl⟩ := nat_of h0
      rw [Int.toNat_natCast] at hk
      rw [b9_eq, Int.toNat_natCast]
      refine ⟨h0, by omega, ?_⟩
      rintro _ rfl
      unfold decN at hk
      by_cases hc : 2 ^ 39 ≤ c
      · rw [if_pos hc] at hk
        have := lenN_gt hc
        rw [decide_eq_true (show ((lenN c : Nat) : Int) > 39 by omega), cond_true]
        exact hk
      · rw [if_neg hc] at hk
        have := lenN_le (show c < 2 ^ 39 by omega)
        rw [decide_eq_false (show ¬ ((lenN c : Nat) : Int) > 39 by omega), cond_false]
        refine ⟨h0, by omega, ?_⟩
        rintro _ rfl _ rfl
        have hp : pcN c % 2 < 2 := Nat.mod_lt _ (by omega)
        by_cases h2 : pcN c % 2 = 1
        · rw [decide_eq_true (show ((pcN c % 2 : Nat) : Int) = 1 by omega), cond_true]
          by_cases h3 : onesX c < 39
          · rw [if_pos ⟨h2, h3⟩] at hk
            rw [decide_eq_true (show ((onesX c : Nat) : Int) < 39 by omega), cond_true, decide_eq_true (show (0 : Int) ≤ (onesX c : Nat) by omega), cond_true]
            obtain ⟨e1, e2⟩ := flip_cast (show c < 2 ^ 39 by omega) h3
            rintro _ rfl
            rw [e1]
            rintro _ rfl
            refine ⟨by omega, by omega, ?_⟩
            rintro _ rfl
            rw [Int.toNat_natCast]
            exact hk
          · rw [if_neg (by omega), if_neg (by omega)] at hk
            rw [decide_eq_false (show ¬ ((onesX c : Nat) : Int) < 39 by omega), cond_false, decide_eq_false (show ¬ ((pcN c % 2 : Nat) : Int) = 0 by omega), cond_false]
            exact hk
        · rw [decide_eq_false (show ¬ ((pcN c % 2 : Nat) : Int) = 1 by omega), cond_false, decide_eq_true (show ((pcN c % 2 : Nat) : Int) = 0 by omega), cond_true]
          rw [if_neg (by omega)] at hk
          by_cases h3 : onesX c = 0
          · rw [if_pos ⟨by omega, h3⟩] at hk
            rw [decide_eq_true (show ((onesX c : Nat) : Int) = 0 by omega), cond_true]
            refine ⟨h0, by omega, ?_⟩
            rintro _ rfl
            exact hk
          · rw [if_neg (by omega)] at hk
            rw [decide_eq_false (show ¬ ((onesX c : Nat) : Int) = 0 by omega), cond_false]
            exact hk
    · exact hk.elim)

end Go.Am.Ham

namespace Go.Am.Ham
open Go Go.Am
set_option maxRecDepth 100000

/-! ### sums over bits -/
def cnt (b : Nat → Bool) : Nat → Nat
  | 0 => 0
  | n + 1 => cnt b n + (if b n then 1 else 0)
theorem cnt_succ (b : Nat → Bool) (n : Nat) : cnt b (n + 1) = cnt b n + (if b n then 1 else 0) := rfl
theorem parB_cnt (b : Nat → Bool) : ∀ n, parB b n = cnt b n % 2
  | 0 => rfl
  | n + 1 => by
    have := parB_cnt b n
    unfold parB cnt
    split <;> omega
theorem cnt_congr {a b : Nat → Bool} : ∀ n, (∀ i, i < n → a i = b i) → cnt a n = cnt b n
  | 0, _ => rfl
  | n + 1, h => by
    unfold cnt
    rw [cnt_congr n (fun i hi => h i (by omega)), h n (by omega)]
theorem synB_congr {a b : Nat → Bool} : ∀ n, (∀ i, i < n → a i = b i) → synB a n = synB b n
  | 0, _ => rfl
  | n + 1, h => by
    unfold synB
    rw [synB_congr n (fun i hi => h i (by omega)), h n (by omega)]
theorem cnt_split (b : Nat → Bool) (k : Nat) : ∀ m, cnt b (k + m) = cnt b k + cnt (fun i => b (k + i)) m
  | 0 => rfl
  | m + 1 => by
    rw [← Nat.add_assoc, cnt_succ, cnt_succ, cnt_split b k m]; omega
theorem cnt_le (b : Nat → Bool) : ∀ n, cnt b n ≤ n
  | 0 => Nat.le_refl _
  | n + 1 => by
    have := cnt_le b n
    unfold cnt
    split <;> omega
theorem synB_xor (a b : Nat → Bool) : ∀ n, synB (fun i => a i ^^ b i) n = synB a n ^^^ synB b n
  | 0 => by simp [synB]
  | n + 1 => by
    unfold synB
    rw [synB_xor a b n]
    cases ha : a n <;> cases hb : b n <;> simp only [Bool.xor_false, Bool.xor_true, Bool.not_true, Bool.not_false, if_true, if_false, Bool.false_eq_true]
    · rw [Nat.xor_assoc]
    · rw [Nat.xor_assoc, Nat.xor_assoc, Nat.xor_comm n]
    · rw [Nat.xor_assoc, Nat.xor_comm (synB b n) n, ← Nat.xor_assoc n n, Nat.xor_self, Nat.zero_xor]
theorem cnt_xor (a b : Nat → Bool) : ∀ n, cnt (fun i => a i ^^ b i) n % 2 = (cnt a n + cnt b n) % 2
  | 0 => rfl
  | n + 1 => by
    have := cnt_xor a b n
    unfold cnt
    cases ha : a n <;> cases hb : b n <;> simp only [Bool.xor_false, Bool.xor_true, Bool.not_true, Bool.not_false, if_true, if_false, Bool.false_eq_true] <;> omega
theorem synB_false : ∀ n, synB (fun _ => false) n = 0
  | 0 => rfl
  | n + 1 => by unfold synB; rw [synB_false n]; rfl
theorem cnt_false : ∀ n, cnt (fun _ => false) n = 0
  | 0 => rfl
  | n + 1 => by unfold cnt; rw [cnt_false n]; rfl
theorem synB_one (t : Nat) : ∀ n, synB (fun i => decide (t = i)) n = if t < n then t else 0
  | 0 => rfl
  | n + 1 => by
    unfold synB
    rw [synB_one t n]
    by_cases h : t = n
    · subst h; simp
    · simp only [decide_eq_true_eq, h, if_false]
      by_cases h2 : t < n
      · rw [if_pos h2, if_pos (by omega)]
      · rw [if_neg h2, if_neg (by omega)]
theorem cnt_one (t : Nat) : ∀ n, cnt (fun i => decide (t = i)) n = if t < n then 1 else 0
  | 0 => rfl
  | n + 1 => by
    unfold cnt
    rw [cnt_one t n]
    by_cases h : t = n
    · subst h; simp
    · simp only [decide_eq_true_eq, h, if_false]
      by_cases h2 : t < n
      · rw [if_pos h2, if_pos (by omega)]
      · rw [if_neg h2, if_neg (by omega)]

/-! ### the lowest bit -/
theorem low_split : ∀ n : Nat, n ≠ 0 → ∃ t m, n = 2 ^ t * (2 * m + 1) := by
  intro n
  induction n using Nat.strongRecOn with
  | ind n ih =>
    intro h
    by_cases h2 : n % 2 = 1
    · exact ⟨0, n / 2, by rw [Nat.pow_zero, Nat.one_mul]; omega⟩
    · obtain ⟨t, m, e⟩ := ih (n / 2) (by omega) (by omega)
      refine ⟨t + 1, m, ?_⟩
      rw [Nat.pow_succ, Nat.mul_comm (2 ^ t) 2, Nat.mul_assoc, ← e]; omega
theorem and_shift (t a b : Nat) : (2 ^ t * a) &&& (2 ^ t * b) = 2 ^ t * (a &&& b) := by
  apply Nat.eq_of_testBit_eq
  intro i
  rw [Nat.testBit_and, Nat.testBit_two_pow_mul, Nat.testBit_two_pow_mul, Nat.testBit_two_pow_mul, Nat.testBit_and]
  cases decide (i ≥ t) <;> simp
theorem and_odd (a b : Nat) : (2 * a + 1) &&& (2 * b + 1) = 2 * (a &&& b) + 1 := by
  apply Nat.eq_of_testBit_eq
  intro i
  cases i with
  | zero => rw [Nat.testBit_and]; simp [Nat.testBit_zero]
  | succ i =>
    rw [Nat.testBit_and, Nat.testBit_succ, Nat.testBit_succ, Nat.testBit_succ, show (2 * a + 1) / 2 = a by omega, show (2 * b + 1) / 2 = b by omega, show (2 * (a &&& b) + 1) / 2 = (a &&& b) by omega, Nat.testBit_and]
theorem and_compl {j m : Nat} (h : m < 2 ^ j) : m &&& (2 ^ j - (m + 1)) = 0 := by
  apply Nat.eq_of_testBit_eq
  intro i
  rw [Nat.testBit_and, Nat.testBit_two_pow_sub_succ h, Nat.zero_testBit]
  cases m.testBit i <;> simp
theorem low_lt {n t m : Nat} (hn : n < 2 ^ 64) (e : n = 2 ^ t * (2 * m + 1)) : t < 64 := by
  rcases Nat.lt_or_ge t 64 with h | h
  · exact h
  · have h1 : 2 ^ 64 ≤ 2 ^ t := Nat.pow_le_pow_right (by omega) h
    have h2 : 2 ^ t * 1 ≤ 2 ^ t * (2 * m + 1) := Nat.mul_le_mul_left _ (by omega)
    omega
theorem neg_and {n t m : Nat} (hn : n < 2 ^ 64) (e : n = 2 ^ t * (2 * m + 1)) : n &&& (2 ^ 64 - n) = 2 ^ t := by
  have ht := low_lt hn e
  have hp : 2 ^ 64 = 2 ^ t * (2 * 2 ^ (63 - t)) := by
    rw [show 2 * 2 ^ (63 - t) = 2 ^ (64 - t) by rw [show 64 - t = (63 - t) + 1 by omega, Nat.pow_succ, Nat.mul_comm], ← Nat.pow_add]
    congr 1; omega
  have h0 : 0 < 2 ^ t := Nat.two_pow_pos t
  have hm : m < 2 ^ (63 - t) := by
    rw [e, hp] at hn
    have := Nat.lt_of_mul_lt_mul_left hn
    omega
  have e2 : 2 ^ 64 - n = 2 ^ t * (2 * (2 ^ (63 - t) - (m + 1)) + 1) := by
    rw [e, hp, ← Nat.mul_sub]; congr 1; omega
  rw [e2, e, and_shift, and_odd, and_compl hm, Nat.mul_zero, Nat.zero_add, Nat.mul_one]
theorem tz_tab : ∀ t : Fin 64, tzTab.getD ((2 ^ t.val * 285870213051353865 % 2 ^ 64) / 2 ^ 58) 0 = t.val := by decide
theorem tzR_low {n t m : Nat} (hn : n < 2 ^ 64) (e : n = 2 ^ t * (2 * m + 1)) : tzR n = t := by
  unfold tzR tzI
  rw [neg_and hn e]
  exact tz_tab ⟨t, low_lt hn e⟩
theorem pred_and {n t m : Nat} (e : n = 2 ^ t * (2 * m + 1)) : n &&& (n - 1) = 2 ^ t * (2 * m) := by
  have h0 : 0 < 2 ^ t := Nat.two_pow_pos t
  have e1 : n - 1 = 2 ^ t * (2 * m) + (2 ^ t - 1) := by rw [e, Nat.mul_add, Nat.mul_one]; omega
  apply Nat.eq_of_testBit_eq
  intro i
  rw [e1, Nat.testBit_and, e, Nat.testBit_two_pow_mul, Nat.testBit_two_pow_mul_add _ (by omega), Nat.testBit_two_pow_mul]
  by_cases hi : i < t
  · rw [decide_eq_false (by omega)]; rfl
  · rw [if_neg hi, decide_eq_true (by omega), Bool.true_and, Bool.true_and]
    cases hj : i - t with
    | zero => simp [Nat.testBit_zero]
    | succ j => rw [Nat.testBit_succ, Nat.testBit_succ, show (2 * m + 1) / 2 = m by omega, show 2 * m / 2 = m by omega, Bool.and_self]
theorem low_bits {n t m : Nat} (e : n = 2 ^ t * (2 * m + 1)) (i : Nat) : n.testBit i = ((2 ^ t * (2 * m)).testBit i ^^ decide (t = i)) := by
  rw [e, Nat.testBit_two_pow_mul, Nat.testBit_two_pow_mul]
  by_cases hi : t = i
  · subst hi
    rw [decide_eq_true rfl, decide_eq_true (show t ≥ t from Nat.le_refl _), Nat.sub_self, Nat.testBit_zero, Nat.testBit_zero]
    simp
  · rw [decide_eq_false hi, Bool.xor_false]
    by_cases h2 : i ≥ t
    · rw [decide_eq_true h2, Bool.true_and, Bool.true_and]
      obtain ⟨j, hj⟩ : ∃ j, i - t = j + 1 := ⟨i - t - 1, by omega⟩
      rw [hj, Nat.testBit_succ, Nat.testBit_succ]
      congr 1; omega
    · rw [decide_eq_false h2]; rfl
theorem onesX_syn : ∀ n, n < 2 ^ 64 → onesX n = synB n.testBit 64 := by
  intro n
  induction n using Nat.strongRecOn with
  | ind n ih =>
    intro hn
    by_cases h : n = 0
    · subst h
      rw [onesX_zero, synB_congr (b := fun _ => false) 64 (fun i _ => Nat.zero_testBit i), synB_false]
    · obtain ⟨t, m, e⟩ := low_split n h
      have hlt := and_pred_lt h
      rw [onesX_pos h, tzR_low hn e, ih _ hlt (by omega), pred_and e]
      have e2 : n.testBit = fun i => ((2 ^ t * (2 * m)).testBit i ^^ decide (t = i)) := funext fun i => low_bits e i
      rw [e2, synB_xor, synB_one, if_pos (low_lt hn e), Nat.xor_comm]
theorem testBit_big {n N i : Nat} (hn : n < 2 ^ N) (hi : N ≤ i) : n.testBit i = false :=
  Nat.testBit_lt_two_pow (Nat.lt_of_lt_of_le hn (Nat.pow_le_pow_right (by omega) hi))
theorem synB_cut (b : Nat → Bool) (N : Nat) (h : ∀ i, N ≤ i → b i = false) : ∀ m, synB b (N + m) = synB b N
  | 0 => rfl
  | m + 1 => by
    rw [← Nat.add_assoc]
    unfold synB
    rw [h (N + m) (by omega), synB_cut b N h m]
    cases N <;> rfl
theorem cnt_cut (b : Nat → Bool) (N : Nat) (h : ∀ i, N ≤ i → b i = false) (m : Nat) : cnt b (N + m) = cnt b N := by
  rw [cnt_split, cnt_congr (b := fun _ => false) m (fun i _ => h _ (by omega)), cnt_false]; rfl

/-! ### the count of the bits, eight at a time -/
theorem and_byte {a b c d : Nat} (hb : b < 256) (hd : d < 256) : (256 * a + b) &&& (256 * c + d) = 256 * (a &&& c) + (b &&& d) := by
  apply Nat.eq_of_testBit_eq
  intro i
  have hbd : b &&& d < 2 ^ 8 := Nat.and_lt_two_pow b hd
  rw [Nat.testBit_and, show (256 : Nat) = 2 ^ 8 from rfl, Nat.testBit_two_pow_mul_add _ hb, Nat.testBit_two_pow_mul_add _ hd, Nat.testBit_two_pow_mul_add _ hbd, Nat.testBit_and, Nat.testBit_and]
  split <;> rfl
def rep (d : Nat) : Nat → Nat
  | 0 => 0
  | k + 1 => 256 * rep d k + d
theorem rep_succ (d k : Nat) : rep d (k + 1) = 256 * rep d k + d := rfl
def g1 (M n : Nat) : Nat := (n / 2 &&& M) + (n &&& M)
def g2 (M n : Nat) : Nat := (n / 4 &&& M) + (n &&& M)
def g3 (M n : Nat) : Nat := (n / 16 + n) &&& M
def b1 (r : Nat) : Nat := (r / 2 &&& 85) + (r &&& 85)
def b2 (r : Nat) : Nat := (r / 4 &&& 51) + (r &&& 51)
def b3 (r : Nat) : Nat := (r / 16 + r) &&& 15
theorem f1 : ∀ r : Fin 256, (128 + r.val / 2) &&& 85 = r.val / 2 &&& 85 := by decide
theorem f2 : ∀ r : Fin 256, ∀ x : Fin 4, (64 * x.val + r.val / 4) &&& 51 = r.val / 4 &&& 51 := by decide
theorem fc : ∀ r : Fin 256, b2 (b1 r.val) ≤ 68 ∧ b2 (b1 r.val) % 16 ≤ 4 ∧ b3 (b2 (b1 r.val)) = cnt r.val.testBit 8 := by decide
theorem and15 (x y : Nat) : (16 * x + y) &&& 15 = y &&& 15 := by
  have h (n : Nat) : n &&& 15 = n % 16 := by simpa using Nat.and_two_pow_sub_one_eq_mod n 4
  rw [h, h]; omega
theorem g1_byte (M n r : Nat) (hr : r < 256) : g1 (256 * M + 85) (256 * n + r) = 256 * g1 M n + b1 r := by
  unfold g1 b1
  have e1 : (256 * n + r) / 2 = 256 * (n / 2) + (128 * (n % 2) + r / 2) := by omega
  have e2 : 128 * (n % 2) + r / 2 < 256 := by omega
  have e3 : (128 * (n % 2) + r / 2) &&& 85 = r / 2 &&& 85 := by
    rcases Nat.mod_two_eq_zero_or_one n with h | h
    · rw [h]; simp
    · rw [h]; exact f1 ⟨r, hr⟩
  rw [e1, and_byte e2 (by omega), and_byte hr (by omega), e3]; omega
theorem b1_lt (r : Nat) : b1 r < 256 := by
  unfold b1
  have h1 : r / 2 &&& 85 ≤ 85 := Nat.and_le_right
  have h2 : r &&& 85 ≤ 85 := Nat.and_le_right
  omega
theorem g2_byte (M n r : Nat) (hr : r < 256) : g2 (256 * M + 51) (256 * n + r) = 256 * g2 M n + b2 r := by
  unfold g2 b2
  have e1 : (256 * n + r) / 4 = 256 * (n / 4) + (64 * (n % 4) + r / 4) := by omega
  have e2 : 64 * (n % 4) + r / 4 < 256 := by omega
  have e3 : (64 * (n % 4) + r / 4) &&& 51 = r / 4 &&& 51 := f2 ⟨r, hr⟩ ⟨n % 4, Nat.mod_lt _ (by omega)⟩
  rw [e1, and_byte e2 (by omega), and_byte hr (by omega), e3]; omega
theorem g3_byte (M n r : Nat) (hr : r ≤ 68) (hn : n % 16 ≤ 4) : g3 (256 * M + 15) (256 * n + r) = 256 * g3 M n + b3 r := by
  unfold g3 b3
  have e1 : (256 * n + r) / 16 + (256 * n + r) = 256 * (n / 16 + n) + (16 * (n % 16) + (r / 16 + r)) := by omega
  rw [e1, and_byte (by omega) (by omega), and15]
/-- the bytes' counts, one byte each -/
def cb (n : Nat) : Nat → Nat
  | 0 => 0
  | k + 1 => 256 * cb (n / 256) k + cnt (n % 256).testBit 8
theorem g21_low (n k : Nat) : n < 256 ^ k → g2 (rep 51 k) (g1 (rep 85 k) n) % 16 ≤ 4 := by
  intro h
  cases k with
  | zero => rw [Nat.pow_zero] at h; have : n = 0 := by omega
            subst this; decide
  | succ k =>
    have hr : n % 256 < 256 := Nat.mod_lt _ (by omega)
    have e : n = 256 * (n / 256) + n % 256 := by omega
    rw [e]
    unfold rep
    rw [g1_byte _ _ _ hr, g2_byte _ _ _ (b1_lt _)]
    have := (fc ⟨n % 256, hr⟩).2.1
    simp only at this
    omega
theorem g321 : ∀ (k n : Nat), n < 256 ^ k → g3 (rep 15 k) (g2 (rep 51 k) (g1 (rep 85 k) n)) = cb n k
  | 0, n, h => by rw [Nat.pow_zero] at h; have : n = 0 := by omega
                  subst this; decide
  | k + 1, n, h => by
    have hr : n % 256 < 256 := Nat.mod_lt _ (by omega)
    have e : n = 256 * (n / 256) + n % 256 := by omega
    have hq : n / 256 < 256 ^ k := by rw [Nat.pow_succ] at h; exact (Nat.div_lt_iff_lt_mul (by omega)).2 h
    have ih := g321 k (n / 256) hq
    have hl := g21_low (n / 256) k hq
    obtain ⟨h1, _, h3⟩ := fc ⟨n % 256, hr⟩
    simp only at h1 h3
    have e2 : g3 (rep 15 (k + 1)) (g2 (rep 51 (k + 1)) (g1 (rep 85 (k + 1)) (256 * (n / 256) + n % 256))) = 256 * g3 (rep 15 k) (g2 (rep 51 k) (g1 (rep 85 k) (n / 256))) + b3 (b2 (b1 (n % 256))) := by
      rw [rep_succ, rep_succ, rep_succ, g1_byte _ _ _ hr, g2_byte _ _ _ (b1_lt _), g3_byte _ _ _ h1 hl]
    rw [← e] at e2
    rw [e2, ih, h3]
    rfl
theorem cnt_bytes (n k : Nat) : cnt n.testBit (8 * (k + 1)) = cnt (n % 256).testBit 8 + cnt (n / 256).testBit (8 * k) := by
  rw [show 8 * (k + 1) = 8 + 8 * k by omega, cnt_split]
  congr 1
  · apply cnt_congr
    intro i hi
    rw [show (256 : Nat) = 2 ^ 8 from rfl, Nat.testBit_mod_two_pow, decide_eq_true hi, Bool.true_and]
  · apply cnt_congr
    intro i _
    rw [show (256 : Nat) = 2 ^ 8 from rfl, Nat.testBit_div_two_pow, Nat.add_comm]
theorem fold_par (a0 a1 a2 a3 a4 a5 a6 a7 : Nat) (h0 : a0 ≤ 8) (h1 : a1 ≤ 8) (h2 : a2 ≤ 8) (h3 : a3 ≤ 8) (h4 : a4 ≤ 8) (h5 : a5 ≤ 8) (h6 : a6 ≤ 8) (h7 : a7 ≤ 8) (S B A : Nat)
    (eS : S = 256 * (256 * (256 * (256 * (256 * (256 * (256 * a7 + a6) + a5) + a4) + a3) + a2) + a1) + a0) (eB : B = S + S / 256) (eA : A = B + B / 65536) :
    (A + A / 4294967296) % 2 = (a0 + a1 + a2 + a3 + a4 + a5 + a6 + a7) % 2 := by
  have hB : B = 256 * (256 * (256 * (256 * (256 * (256 * (256 * a7 + (a6 + a7)) + (a5 + a6)) + (a4 + a5)) + (a3 + a4)) + (a2 + a3)) + (a1 + a2)) + (a0 + a1) := by omega
  have hA : A = 256 * (256 * (256 * (256 * (256 * (256 * (256 * a7 + (a6 + a7)) + (a5 + a6 + a7)) + (a4 + a5 + a6 + a7)) + (a3 + a4 + a5 + a6)) + (a2 + a3 + a4 + a5)) + (a1 + a2 + a3 + a4)) + (a0 + a1 + a2 + a3) := by omega
  clear eS eB hB
  have hd : A / 4294967296 = 256 * (256 * (256 * a7 + (a6 + a7)) + (a5 + a6 + a7)) + (a4 + a5 + a6 + a7) := by omega
  have hl : A % 2 = (a0 + a1 + a2 + a3) % 2 := by omega
  rw [Nat.add_mod, hl, hd]; clear hl hd hA
  omega
theorem pcN_par (n : Nat) (hn : n < 2 ^ 64) : pcN n % 2 = cnt n.testBit 64 % 2 := by
  have e0 : q3 (q2 (q1 n)) = cb n 8 := g321 8 n (by rw [show 256 ^ 8 = 2 ^ 64 from rfl]; exact hn)
  have e1 : ∀ x, (x &&& 127) % 2 = x % 2 := fun x => by
    rw [show x &&& 127 = x % 128 by simpa using Nat.and_two_pow_sub_one_eq_mod x 7]; omega
  unfold pcN
  rw [e0, e1]
  have c (x : Nat) : cnt (x % 256).testBit 8 ≤ 8 := cnt_le _ 8
  have := fold_par _ _ _ _ _ _ _ _ (c n) (c (n / 256)) (c (n / 256 / 256)) (c (n / 256 / 256 / 256)) (c (n / 256 / 256 / 256 / 256)) (c (n / 256 / 256 / 256 / 256 / 256)) (c (n / 256 / 256 / 256 / 256 / 256 / 256))
    (c (n / 256 / 256 / 256 / 256 / 256 / 256 / 256)) (cb n 8) _ _ (by simp only [cb]; omega) rfl rfl
  unfold q4
  rw [this]
  have z : cnt (n / 256 / 256 / 256 / 256 / 256 / 256 / 256 / 256).testBit (8 * 0) = 0 := rfl
  rw [show 64 = 8 * (7 + 1) from rfl, cnt_bytes n 7, show 8 * 7 = 8 * (6 + 1) from rfl, cnt_bytes _ 6, show 8 * 6 = 8 * (5 + 1) from rfl, cnt_bytes _ 5, show 8 * 5 = 8 * (4 + 1) from rfl, cnt_bytes _ 4, show 8 * 4 = 8 * (3 + 1) from rfl, cnt_bytes _ 3,
    show 8 * 3 = 8 * (2 + 1) from rfl, cnt_bytes _ 2, show 8 * 2 = 8 * (1 + 1) from rfl, cnt_bytes _ 1, cnt_bytes (n / 256 / 256 / 256 / 256 / 256 / 256 / 256) 0, z]
  congr 1; omega
end Go.Am.Ham

namespace Go.Am.Ham
open Go Go.Am
set_option maxRecDepth 100000

theorem syn_of {n : Nat} (hn : n < 2 ^ 39) : onesX n = synB n.testBit 39 := by
  rw [onesX_syn n (by omega), show 64 = 39 + 25 from rfl, synB_cut _ 39 (fun i hi => testBit_big hn hi)]
theorem par_of {n : Nat} (hn : n < 2 ^ 39) : pcN n % 2 = parB n.testBit 39 := by
  rw [pcN_par n (by omega), parB_cnt, show 64 = 39 + 25 from rfl, cnt_cut _ 39 (fun i hi => testBit_big hn hi)]
theorem enc_eq (w : Nat) : encN w = encR w := by
  unfold encN encR
  have hA := encA_lt w 32
  rw [syn_of hA, par_of (encB_lt _ hA 6 (by omega))]
theorem dec_eq (c : Nat) : decN c = decR c := by
  unfold decN decR
  by_cases h : 2 ^ 39 ≤ c
  · rw [if_pos h, if_pos h]
  · have hc : c < 2 ^ 39 := by omega
    rw [if_neg h, if_neg h, syn_of hc, par_of hc]
    have := parB_le c.testBit 39
    by_cases h1 : synB c.testBit 39 = 0 ∧ parB c.testBit 39 = 0
    · rw [if_neg (by omega), if_pos (by omega), if_pos h1]
    · rw [if_neg h1]
      by_cases h2 : parB c.testBit 39 = 1 ∧ synB c.testBit 39 < 39
      · rw [if_pos h2, if_pos h2]
      · rw [if_neg h2, if_neg h2, if_neg (by omega)]

/-! ### bits -/
theorem bit_mul (b k p : Nat) (hb : b < 2) : (b * 2 ^ k).testBit p = (decide (b = 1) && decide (k = p)) := by
  rcases (by omega : b = 0 ∨ b = 1) with rfl | rfl
  · rw [Nat.zero_mul, Nat.zero_testBit]; rfl
  · rw [Nat.one_mul, Nat.testBit_two_pow]; rfl
theorem encA_bit (w p : Nat) : ∀ n, (encA w n).testBit p = true ↔ ∃ i, i < n ∧ plN i = p ∧ w.testBit i = true
  | 0 => by simp [encA]
  | n + 1 => by
    unfold encA
    rw [Nat.testBit_or, bit_mul _ _ _ (Nat.mod_lt _ (by omega)), Bool.or_eq_true, encA_bit w p n, Bool.and_eq_true, ← Nat.testBit_eq_decide_div_mod_eq, decide_eq_true_eq]
    constructor
    · rintro (⟨i, h1, h2, h3⟩ | ⟨h1, h2⟩)
      · exact ⟨i, by omega, h2, h3⟩
      · exact ⟨n, by omega, h2, h1⟩
    · rintro ⟨i, h1, h2, h3⟩
      by_cases h : i = n
      · subst h; exact .inr ⟨h3, h2⟩
      · exact .inl ⟨i, by omega, h2, h3⟩
theorem plN_inj : ∀ i j : Fin 32, plN i.val = plN j.val → i = j := by decide
theorem plN_chk : ∀ i : Fin 32, isChk (plN i.val) = false := by decide
theorem plN_onto : ∀ p : Fin 39, isChk p.val = false → ∃ i : Fin 32, plN i.val = p.val := by decide
theorem encA_at (w : Nat) {i : Nat} (hi : i < 32) : (encA w 32).testBit (plN i) = w.testBit i := by
  rw [Bool.eq_iff_iff, encA_bit]
  constructor
  · rintro ⟨j, h1, h2, h3⟩
    have := plN_inj ⟨j, h1⟩ ⟨i, hi⟩ h2
    have : j = i := congrArg Fin.val this
    subst this; exact h3
  · exact fun h => ⟨i, hi, rfl, h⟩
theorem encA_chk (w : Nat) {p : Nat} (hp : isChk p = true) : (encA w 32).testBit p = false := by
  rw [← Bool.not_eq_true, encA_bit]
  rintro ⟨i, h1, rfl, _⟩
  rw [plN_chk ⟨i, h1⟩] at hp; cases hp

theorem and_pow_ne (s j : Nat) : (s &&& 2 ^ j ≠ 0) ↔ s.testBit j = true := by
  constructor
  · intro h
    cases hb : s.testBit j with
    | true => rfl
    | false =>
      exfalso; apply h
      apply Nat.eq_of_testBit_eq
      intro i
      rw [Nat.testBit_and, Nat.testBit_two_pow, Nat.zero_testBit]
      by_cases e : j = i
      · subst e; rw [hb]; rfl
      · rw [decide_eq_false e, Bool.and_false]
  · intro hb h
    have : (s &&& 2 ^ j).testBit j = true := by rw [Nat.testBit_and, Nat.testBit_two_pow_self, hb]; rfl
    rw [h, Nat.zero_testBit] at this; cases this
theorem encB_step (s x p j : Nat) : (encB s x (j + 1)).testBit p = ((encB s x j).testBit p || (s.testBit j && decide (2 ^ j = p))) := by
  unfold encB
  by_cases h : s &&& 2 ^ j ≠ 0
  · rw [if_pos h, Nat.testBit_or, Nat.testBit_two_pow, (and_pow_ne s j).1 h, Bool.true_and]
    cases j <;> rfl
  · rw [if_neg h]
    have : s.testBit j = false := by rw [← Bool.not_eq_true]; exact fun hb => h ((and_pow_ne s j).2 hb)
    rw [this, Bool.false_and, Bool.or_false]
    cases j <;> rfl
/-- The check bits. -/
def chkF (s p : Nat) : Bool := (((((s.testBit 0 && decide (1 = p)) || (s.testBit 1 && decide (2 = p))) || (s.testBit 2 && decide (4 = p))) || (s.testBit 3 && decide (8 = p))) || (s.testBit 4 && decide (16 = p))) || (s.testBit 5 && decide (32 = p))
theorem encB_bit (s x p : Nat) : (encB s x 6).testBit p = (x.testBit p || chkF s p) := by
  rw [encB_step, encB_step, encB_step, encB_step, encB_step, encB_step]
  unfold chkF
  simp only [Bool.or_assoc]
  rfl
theorem chkF_not (s : Nat) {p : Nat} (hp : isChk p = false) : chkF s p = false := by
  unfold chkF
  unfold isChk at hp
  simp only [Bool.or_eq_false_iff, beq_eq_false_iff_ne] at hp
  rw [decide_eq_false (by omega), decide_eq_false (by omega), decide_eq_false (by omega), decide_eq_false (by omega), decide_eq_false (by omega), decide_eq_false (by omega)]
  simp
theorem chkF_zero (s : Nat) : chkF s 0 = false := by simp [chkF]
theorem chkF_syn : ∀ s : Fin 64, synB (chkF s.val) 39 = s.val := by decide
theorem encB_xor (s w p : Nat) : (encB s (encA w 32) 6).testBit p = ((encA w 32).testBit p ^^ chkF s p) := by
  rw [encB_bit]
  cases hp : isChk p with
  | true => rw [encA_chk w hp]; simp
  | false => rw [chkF_not s hp]; simp
theorem bit01 {q : Nat} (h : q < 2) (p : Nat) : q.testBit p = (decide (q = 1) && decide (0 = p)) := by
  have := bit_mul q 0 p h
  rwa [Nat.pow_zero, Nat.mul_one] at this

/-! ### the code -/
theorem enc_bits (w : Nat) : ∃ s q, s < 64 ∧ q < 2 ∧ s = synB (encA w 32).testBit 39 ∧ q = cnt (fun p => (encA w 32).testBit p ^^ chkF s p) 39 % 2 ∧
    ∀ p, (encR w).testBit p = (((encA w 32).testBit p ^^ chkF s p) ^^ (decide (q = 1) && decide (0 = p))) := by
  refine ⟨_, parB (encB (synB (encA w 32).testBit 39) (encA w 32) 6).testBit 39, synB_lt _ 39 (by omega), by have := parB_le (encB (synB (encA w 32).testBit 39) (encA w 32) 6).testBit 39; omega, rfl, ?_, fun p => ?_⟩
  · rw [parB_cnt, cnt_congr 39 (fun i _ => encB_xor _ w i)]
  · have hq := parB_le (encB (synB (encA w 32).testBit 39) (encA w 32) 6).testBit 39
    unfold encR
    rw [Nat.testBit_or, encB_xor, bit01 (q := parB (encB (synB (encA w 32).testBit 39) (encA w 32) 6).testBit 39) (by omega) p]
    by_cases h : 0 = p
    · subst h; rw [encA_chk w rfl, chkF_zero]; simp
    · rw [decide_eq_false h, Bool.and_false, Bool.or_false, Bool.xor_false]
theorem encR_lt (w : Nat) : encR w < 2 ^ 39 := by
  unfold encR
  have hq := parB_le (encB (synB (encA w 32).testBit 39) (encA w 32) 6).testBit 39
  exact Nat.or_lt_two_pow (encB_lt _ (encA_lt w 32) 6 (by omega)) (by omega)
theorem encR_syn (w : Nat) : synB (encR w).testBit 39 = 0 := by
  obtain ⟨s, q, hs, hq, es, eq, hb⟩ := enc_bits w
  rw [synB_congr 39 (fun i _ => hb i), synB_xor (fun p => (encA w 32).testBit p ^^ chkF s p), synB_xor, ← es, show synB (fun i => chkF s i) 39 = s from chkF_syn ⟨s, hs⟩, Nat.xor_self, Nat.zero_xor]
  cases hd : decide (q = 1) with
  | false => simp only [Bool.false_and]; exact synB_false 39
  | true => simp only [Bool.true_and]; rw [synB_one]; rfl
theorem encR_cnt (w : Nat) : cnt (encR w).testBit 39 % 2 = 0 := by
  obtain ⟨s, q, hs, hq, es, eq, hb⟩ := enc_bits w
  rw [cnt_congr 39 (fun i _ => hb i), cnt_xor (fun p => (encA w 32).testBit p ^^ chkF s p)]
  have : cnt (fun i => decide (q = 1) && decide (0 = i)) 39 = q := by
    rcases (by omega : q = 0 ∨ q = 1) with rfl | rfl
    · exact cnt_false 39
    · exact cnt_one 0 39
  rw [this]; omega
theorem wordN_bit (c i : Nat) : ∀ n, (wordN c n).testBit i = (decide (i < n) && c.testBit (plN i))
  | 0 => by simp [wordN]
  | n + 1 => by
    unfold wordN
    rw [← add_or (wordN_lt c n), Nat.testBit_or, wordN_bit c i n, bit_mul _ _ _ (Nat.mod_lt _ (by omega)), ← Nat.testBit_eq_decide_div_mod_eq]
    by_cases h : n = i
    · subst h; rw [decide_eq_false (by omega), decide_eq_true rfl, decide_eq_true (by omega)]; simp
    · rw [decide_eq_false h, Bool.and_false, Bool.or_false]
      congr 1
      rw [decide_eq_decide]; omega
theorem encR_data (w : Nat) {i : Nat} (hi : i < 32) : (encR w).testBit (plN i) = w.testBit i := by
  obtain ⟨s, q, _, _, _, _, hb⟩ := enc_bits w
  have hc := plN_chk ⟨i, hi⟩
  have h0 : ¬ 0 = plN i := fun e => by rw [← e] at hc; cases hc
  rw [hb, encA_at w hi, chkF_not s hc, decide_eq_false h0, Bool.and_false, Bool.xor_false, Bool.xor_false]
theorem word_enc {w : Nat} (hw : w < 2 ^ 32) : wordN (encR w) 32 = w := by
  apply Nat.eq_of_testBit_eq
  intro i
  rw [wordN_bit]
  by_cases hi : i < 32
  · rw [decide_eq_true hi, Bool.true_and, encR_data w hi]
  · rw [decide_eq_false hi, Bool.false_and, testBit_big hw (by omega)]
def only (b0 b1 b2 b4 b8 b16 b32 : Bool) (p : Nat) : Bool := match p with | 0 => b0 | 1 => b1 | 2 => b2 | 4 => b4 | 8 => b8 | 16 => b16 | 32 => b32 | _ => false
theorem only_zero : ∀ b0 b1 b2 b4 b8 b16 b32 : Bool, synB (only b0 b1 b2 b4 b8 b16 b32) 39 = 0 → cnt (only b0 b1 b2 b4 b8 b16 b32) 39 % 2 = 0 → b0 = false ∧ b1 = false ∧ b2 = false ∧ b4 = false ∧ b8 = false ∧ b16 = false ∧ b32 = false := by
  intro b0 b1 b2 b4 b8 b16 b32
  cases b0 <;> cases b1 <;> cases b2 <;> cases b4 <;> cases b8 <;> cases b16 <;> cases b32 <;> decide
theorem only_eq (d : Nat → Bool) : ∀ p : Fin 39, isChk p.val = true → d p.val = only (d 0) (d 1) (d 2) (d 4) (d 8) (d 16) (d 32) p.val := by
  intro p hp
  obtain ⟨p, hlt⟩ := p
  unfold isChk at hp
  simp only [Bool.or_eq_true, beq_iff_eq] at hp
  simp only at hp ⊢
  rcases hp with (((((rfl | rfl) | rfl) | rfl) | rfl) | rfl) | rfl <;> rfl
theorem only_not : ∀ p : Fin 39, isChk p.val = false → ∀ b0 b1 b2 b4 b8 b16 b32 : Bool, only b0 b1 b2 b4 b8 b16 b32 p.val = false := by
  intro p hp
  obtain ⟨p, hlt⟩ := p
  unfold isChk at hp
  simp only [Bool.or_eq_false_iff, beq_eq_false_iff_ne] at hp
  intro b0 b1 b2 b4 b8 b16 b32
  unfold only
  split <;> first | rfl | (rename_i heq; simp only at heq; omega)
theorem support_zero (d : Nat → Bool) (hd : ∀ p, p < 39 → isChk p = false → d p = false) (h1 : synB d 39 = 0) (h2 : cnt d 39 % 2 = 0) : ∀ p, p < 39 → d p = false := by
  have e : ∀ p, p < 39 → d p = only (d 0) (d 1) (d 2) (d 4) (d 8) (d 16) (d 32) p := fun p hp => by
    cases hc : isChk p with
    | true => exact only_eq d ⟨p, hp⟩ hc
    | false => rw [hd p hp hc]; exact (only_not ⟨p, hp⟩ hc _ _ _ _ _ _ _).symm
  rw [synB_congr 39 e] at h1
  rw [cnt_congr 39 e] at h2
  obtain ⟨z0, z1, z2, z4, z8, z16, z32⟩ := only_zero _ _ _ _ _ _ _ h1 h2
  intro p hp
  cases hc : isChk p with
  | false => exact hd p hp hc
  | true =>
    rw [e p hp, z0, z1, z2, z4, z8, z16, z32]
    unfold only; split <;> rfl
/-- A word is clean. -/
def Valid (c : Nat) : Prop := c < 2 ^ 39 ∧ synB c.testBit 39 = 0 ∧ cnt c.testBit 39 % 2 = 0
theorem encR_valid (w : Nat) : Valid (encR w) := ⟨encR_lt w, encR_syn w, encR_cnt w⟩
theorem Valid.xor {a b : Nat} (ha : Valid a) (hb : Valid b) : Valid (a ^^^ b) := by
  refine ⟨Nat.xor_lt_two_pow ha.1 hb.1, ?_, ?_⟩
  · rw [synB_congr 39 (fun i _ => Nat.testBit_xor ..), synB_xor, ha.2.1, hb.2.1]; rfl
  · rw [cnt_congr 39 (fun i _ => Nat.testBit_xor ..), cnt_xor]
    have := ha.2.2; have := hb.2.2; omega
theorem valid_enc {c : Nat} (h : Valid c) : c = encR (wordN c 32) := by
  have hx := h.xor (encR_valid (wordN c 32))
  have e : (c ^^^ encR (wordN c 32)).testBit = fun i => c.testBit i ^^ (encR (wordN c 32)).testBit i := funext fun i => Nat.testBit_xor ..
  have hz := support_zero (c ^^^ encR (wordN c 32)).testBit (fun p hp hc => by
    obtain ⟨i, hi⟩ := plN_onto ⟨p, hp⟩ hc
    have hi : plN i.val = p := hi
    rw [e, ← hi]
    show (c.testBit (plN i.val) ^^ (encR (wordN c 32)).testBit (plN i.val)) = false
    rw [encR_data _ i.isLt, wordN_bit, decide_eq_true i.isLt, Bool.true_and, Bool.xor_self]) hx.2.1 hx.2.2
  apply Nat.eq_of_testBit_eq
  intro i
  by_cases hi : i < 39
  · have := hz i hi
    rw [e] at this
    have this : (c.testBit i ^^ (encR (wordN c 32)).testBit i) = false := this
    revert this
    generalize c.testBit i = x
    generalize (encR (wordN c 32)).testBit i = y
    cases x <;> cases y <;> simp
  · rw [testBit_big h.1 (by omega), testBit_big (encR_lt _) (by omega)]
theorem wordN_xor (a b : Nat) : wordN (a ^^^ b) 32 = wordN a 32 ^^^ wordN b 32 := by
  apply Nat.eq_of_testBit_eq
  intro i
  rw [wordN_bit, Nat.testBit_xor, Nat.testBit_xor, wordN_bit, wordN_bit]
  cases decide (i < 32) <;> simp
theorem encR_xor {v w : Nat} (hv : v < 2 ^ 32) (hw : w < 2 ^ 32) : encR v ^^^ encR w = encR (v ^^^ w) := by
  have := valid_enc ((encR_valid v).xor (encR_valid w))
  rw [wordN_xor, word_enc hv, word_enc hw] at this
  exact this
theorem flip_syn (c i : Nat) (hi : i < 39) : synB (c ^^^ 2 ^ i).testBit 39 = synB c.testBit 39 ^^^ i ∧ cnt (c ^^^ 2 ^ i).testBit 39 % 2 = (cnt c.testBit 39 + 1) % 2 := by
  have e : (c ^^^ 2 ^ i).testBit = fun p => c.testBit p ^^ decide (i = p) := funext fun p => by rw [Nat.testBit_xor, Nat.testBit_two_pow]
  rw [e]
  refine ⟨?_, ?_⟩
  · rw [synB_xor, synB_one, if_pos hi]
  · rw [cnt_xor, cnt_one, if_pos hi]
theorem flip_lt {c i : Nat} (hc : c < 2 ^ 39) (hi : i < 39) : c ^^^ 2 ^ i < 2 ^ 39 := Nat.xor_lt_two_pow hc (Nat.pow_lt_pow_right (by omega) hi)
theorem decR_clean {c : Nat} (h : Valid c) : decR c = (wordN c 32, 0, 0) := by
  unfold decR
  have h1 := h.1
  rw [if_neg (by omega), parB_cnt, h.2.1, h.2.2, if_pos ⟨rfl, rfl⟩]
theorem decR_one {c i : Nat} (h : Valid c) (hi : i < 39) : decR (c ^^^ 2 ^ i) = (wordN c 32, 1, 0) := by
  unfold decR
  have h1 := flip_lt h.1 hi
  obtain ⟨f1, f2⟩ := flip_syn c i hi
  rw [h.2.1, Nat.zero_xor] at f1
  have f3 : (cnt c.testBit 39 + 1) % 2 = 1 := by have := h.2.2; omega
  rw [if_neg (by omega), parB_cnt, f1, f2, f3, if_neg (by omega), if_pos ⟨rfl, hi⟩, Nat.xor_assoc, Nat.xor_self, Nat.xor_zero]
theorem xor_ne {i j : Nat} (h : i ≠ j) : i ^^^ j ≠ 0 := fun e => h (by
  have : i ^^^ j ^^^ j = 0 ^^^ j := by rw [e]
  rwa [Nat.xor_assoc, Nat.xor_self, Nat.xor_zero, Nat.zero_xor] at this)
theorem decR_two {c i j : Nat} (h : Valid c) (hi : i < 39) (hj : j < 39) (hne : i ≠ j) : decR (c ^^^ 2 ^ i ^^^ 2 ^ j) = (0, 2, 0) := by
  unfold decR
  have h1 := flip_lt (flip_lt h.1 hi) hj
  obtain ⟨f1, f2⟩ := flip_syn c i hi
  obtain ⟨g1, g2⟩ := flip_syn (c ^^^ 2 ^ i) j hj
  rw [f1, h.2.1, Nat.zero_xor] at g1
  have g3 : cnt (c ^^^ 2 ^ i ^^^ 2 ^ j).testBit 39 % 2 = 0 := by have := h.2.2; omega
  rw [if_neg (by omega), parB_cnt, g1, g3, if_neg (fun e => xor_ne hne e.1), if_neg (by omega)]
/-- What Decode says of a word, the other way round. -/
theorem decR_cases {c : Nat} (hc : c < 2 ^ 39) : (Valid c ∧ decR c = (wordN c 32, 0, 0)) ∨ (∃ i, i < 39 ∧ Valid (c ^^^ 2 ^ i) ∧ decR c = (wordN (c ^^^ 2 ^ i) 32, 1, 0)) ∨ ((∀ i, i < 39 → ¬ Valid (c ^^^ 2 ^ i)) ∧ decR c = (0, 2, 0)) := by
  by_cases h1 : synB c.testBit 39 = 0 ∧ parB c.testBit 39 = 0
  · have : Valid c := ⟨hc, h1.1, by rw [← parB_cnt]; exact h1.2⟩
    exact .inl ⟨this, decR_clean this⟩
  · have hp := parB_cnt c.testBit 39
    by_cases h2 : parB c.testBit 39 = 1 ∧ synB c.testBit 39 < 39
    · right; left
      obtain ⟨f1, f2⟩ := flip_syn c (synB c.testBit 39) h2.2
      refine ⟨synB c.testBit 39, h2.2, ⟨flip_lt hc h2.2, by rw [f1, Nat.xor_self], by omega⟩, ?_⟩
      unfold decR
      rw [if_neg (by omega), if_neg h1, if_pos h2]
    · right; right
      refine ⟨fun i hi hv => h2 ?_, by unfold decR; rw [if_neg (by omega), if_neg h1, if_neg h2]⟩
      obtain ⟨f1, f2⟩ := flip_syn c i hi
      have hv1 := hv.2.1
      have hv2 := hv.2.2
      rw [f1] at hv1
      refine ⟨by omega, ?_⟩
      have : synB c.testBit 39 = i := Classical.byContradiction fun h => xor_ne h hv1
      omega

/-! ### the distance -/
theorem cnt0 (b : Nat → Bool) : ∀ n, cnt b n = 0 → ∀ i, i < n → b i = false
  | 0, _, i, hi => by omega
  | n + 1, h, i, hi => by
    rw [cnt_succ] at h
    by_cases e : i = n
    · subst e
      cases hb : b i with
      | false => rfl
      | true => rw [hb, if_pos rfl] at h; omega
    · exact cnt0 b n (by omega) i (by omega)
theorem synB0 (b : Nat → Bool) (n : Nat) (h : cnt b n = 0) : synB b n = 0 := by
  rw [synB_congr (b := fun _ => false) n (cnt0 b n h), synB_false]
theorem cnt1 (b : Nat → Bool) : ∀ n, cnt b n = 1 → ∃ i, i < n ∧ synB b n = i
  | 0, h => by cases h
  | n + 1, h => by
    rw [cnt_succ] at h
    unfold synB
    cases hb : b n with
    | true =>
      rw [hb, if_pos rfl] at h
      rw [if_pos rfl, synB0 b n (by omega), Nat.zero_xor]
      exact ⟨n, by omega, rfl⟩
    | false =>
      rw [hb, if_neg (by simp)] at h
      obtain ⟨i, h1, h2⟩ := cnt1 b n (by omega)
      rw [if_neg (by simp)]
      exact ⟨i, by omega, h2⟩
theorem cnt2 (b : Nat → Bool) : ∀ n, cnt b n = 2 → synB b n ≠ 0
  | 0, h => by cases h
  | n + 1, h => by
    rw [cnt_succ] at h
    unfold synB
    cases hb : b n with
    | true =>
      rw [hb, if_pos rfl] at h
      rw [if_pos rfl]
      obtain ⟨i, h1, h2⟩ := cnt1 b n (by omega)
      rw [h2]; exact xor_ne (by omega)
    | false =>
      rw [hb, if_neg (by simp)] at h
      rw [if_neg (by simp)]
      exact cnt2 b n (by omega)
theorem cnt64 {c : Nat} (h : c < 2 ^ 39) : cnt c.testBit 64 = cnt c.testBit 39 := by
  rw [show 64 = 39 + 25 from rfl, cnt_cut _ 39 (fun i hi => testBit_big h hi)]
theorem zero_of_cnt {c : Nat} (h : c < 2 ^ 39) (h0 : cnt c.testBit 39 = 0) : c = 0 := by
  apply Nat.eq_of_testBit_eq
  intro i
  rw [Nat.zero_testBit]
  by_cases hi : i < 39
  · exact cnt0 _ 39 h0 i hi
  · exact testBit_big h (by omega)
theorem enc_far {u : Nat} (hu : u < 2 ^ 32) (h : u ≠ 0) : 4 ≤ cnt (encR u).testBit 64 := by
  obtain ⟨h1, h2, h3⟩ := encR_valid u
  rw [cnt64 h1]
  have n0 : cnt (encR u).testBit 39 ≠ 0 := fun e => h (by
    have := word_enc hu
    rw [zero_of_cnt h1 e, show wordN 0 32 = 0 from by decide] at this
    exact this.symm)
  have n2 : cnt (encR u).testBit 39 ≠ 2 := fun e => cnt2 _ 39 e h2
  omega
theorem encR_zero : encR 0 = 0 := by decide
end Go.Am.Ham
