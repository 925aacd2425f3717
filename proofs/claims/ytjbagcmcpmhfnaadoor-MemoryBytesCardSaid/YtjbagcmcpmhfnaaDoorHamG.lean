/-
  Hamming: Place, of the code and of the reference. Own work.
-/
import Derived.Test.YtjbagcmcpmhfnaaDoorHamF
namespace Go.Am.Ham
open Go Go.Am Go.Proofs
set_option maxRecDepth 100000

def tbl12 : List (Nat × Spec) := [(111, s22)]
theorem tbl12_ok : AllOk Tryd.prog G0 tbl12 := ⟨ok22, trivial⟩
def r12 (K : Value → AHeap → Prop) : Nat → Nat → Int → Prop
  | 0, _, _ => K (.tuple #[.int .i64 0, .bool false]) []
  | f + 1, i, n => (0 : Int) ≤ ((i : Nat) : Int) ∧ cond (isChk i) (r12 K f (i + 1) n) (cond (decide (n = 0)) (K (.tuple #[.int .i64 ((i : Nat) : Int), .bool true]) []) (r12 K f (i + 1) (iSub .i64 n 1)))
theorem body12 (n : Int) (K : Value → AHeap → Prop) : bodyK (cfg tbl12 16 []) (codeOf Tryd.f73) Tryd.f73.results.toList [.int .i64 n] [] K = r12 K 39 0 n := by
  kernel_rfl

/-- The place of the nth data bit. -/
def plR (n : Int) : Value := cond (decide (0 ≤ n) && decide (n < 32)) (.tuple #[.int .i64 ((plT.getD n.toNat 0 : Nat) : Int), .bool true]) (.tuple #[.int .i64 0, .bool false])
def s12 : Spec := fun args h K => match args, h with
  | [.int .i64 n], [] => -1 ≤ n ∧ n ≤ 1000 ∧ K (plR n) []
  | _, _ => False
theorem pl_facts : ∀ i : Fin 32, ∃ v : Nat, plT.getD i.val 0 = v ∧ v < 64 ∧ plV.getD i.val undef = .int .i64 (v : Nat) := by
  intro i
  refine ⟨plT.getD i.val 0, rfl, ?_, ?_⟩
  · revert i; decide
  · have h : i.val < plT.length := i.isLt
    simp only [plV, List.getD_eq_getElem?_getD, List.getElem?_map, List.getElem?_eq_getElem h, Option.map_some, Option.getD_some]

theorem i64_in (n : Int) (h : -9223372036854775808 ≤ n ∧ n ≤ 9223372036854775807) : IntKind.i64.wrap n = n := by
  simp only [IntKind.wrap, IntKind.bits, IntKind.signed]; simp; split <;> omega
def q12 : Nat → Nat → Nat → Option Nat
  | 0, _, _ => none
  | f + 1, i, n => cond (isChk i) (q12 f (i + 1) n) (match n with | 0 => some i | m + 1 => q12 f (i + 1) m)
theorem r12_ok {K : Value → AHeap → Prop} : ∀ (f i n : Nat), n ≤ 1000 → K (match q12 f i n with | some p => .tuple #[.int .i64 ((p : Nat) : Int), .bool true] | none => .tuple #[.int .i64 0, .bool false]) [] → r12 K f i ((n : Nat) : Int)
  | 0, _, _, _, hk => hk
  | f + 1, i, n, hn, hk => by
    refine ⟨Int.natCast_nonneg i, ?_⟩
    cases hc : isChk i with
    | true =>
      simp only [q12, hc, cond_true] at hk
      rw [cond_true]
      exact r12_ok f (i + 1) n hn hk
    | false =>
      simp only [q12, hc, cond_false] at hk
      rw [cond_false]
      cases n with
      | zero => exact hk
      | succ m =>
        rw [decide_eq_false (show ¬ (((m + 1 : Nat) : Int) = 0) from by omega), cond_false, show (1 : Int) = ((1 : Nat) : Int) from rfl, iSub_cast .i64 (by omega) (by rw [cap_i64]; omega)]
        exact r12_ok f (i + 1) m (by omega) hk
theorem r12_neg {K : Value → AHeap → Prop} (hk : K (.tuple #[.int .i64 0, .bool false]) []) : ∀ (f i : Nat) (n : Int), n < 0 → -10000 + f ≤ n → r12 K f i n
  | 0, _, _, _, _ => hk
  | f + 1, i, n, hn, hl => by
    refine ⟨Int.natCast_nonneg i, ?_⟩
    cases hc : isChk i with
    | true => exact r12_neg hk f (i + 1) n hn (by omega)
    | false =>
      rw [cond_false, decide_eq_false (show ¬ (n = 0) from by omega), cond_false]
      have e : iSub .i64 n 1 = n - 1 := by
        unfold iSub; exact i64_in _ (by omega)
      rw [e]
      exact r12_neg hk f (i + 1) (n - 1) (by omega) (by omega)
theorem q12_small : ∀ i : Fin 32, q12 39 0 i.val = some (plT.getD i.val 0) := by decide
theorem q12_none : ∀ (f i n : Nat), f ≤ n → q12 f i n = none
  | 0, _, _, _ => rfl
  | f + 1, i, n, h => by
    cases hc : isChk i with
    | true => simp only [q12, hc, cond_true]; exact q12_none f (i + 1) n (by omega)
    | false =>
      cases n with
      | zero => omega
      | succ m => simp only [q12, hc, cond_false]; exact q12_none f (i + 1) m (by omega)
theorem q12_mid : ∀ i : Fin 39, 32 ≤ i.val → q12 39 0 i.val = none := by decide
theorem ok12 : SpecOk Tryd.prog G0 73 s12 :=
  okOf (tbl := tbl12) (N := 16) (sl := []) tbl12_ok Tryd.func73 (by kernel_rfl) (by kernel_rfl) (by
    intro args h K hk
    unfold s12 at hk
    split at hk
    · rename_i n
      have h0 := hk.1
      have h1 := hk.2.1
      replace hk := hk.2.2
      rw [body12]
      unfold plR at hk
      by_cases hn : n < 0
      · rw [decide_eq_false (show ¬ (0 ≤ n) from by omega), Bool.false_and, cond_false] at hk
        exact r12_neg hk 39 0 n hn (by omega)
      · have e : n = ((n.toNat : Nat) : Int) := (Int.toNat_of_nonneg (by omega)).symm
        rw [decide_eq_true (show 0 ≤ n from by omega), Bool.true_and] at hk
        rw [e]
        refine r12_ok 39 0 n.toNat (by omega) ?_
        by_cases h2 : n < 32
        · rw [decide_eq_true h2, cond_true] at hk
          have := q12_small ⟨n.toNat, by omega⟩
          rw [show q12 39 0 n.toNat = some (plT.getD n.toNat 0) from this]
          exact hk
        · rw [decide_eq_false h2, cond_false] at hk
          have e2 : q12 39 0 n.toNat = none := by
            by_cases h3 : n.toNat < 39
            · exact q12_mid ⟨n.toNat, h3⟩ (by show 32 ≤ n.toNat; omega)
            · exact q12_none 39 0 _ (by omega)
          rw [e2]; exact hk
    · exact hk.elim)
end Go.Am.Ham
