/-
  Packet: Take, Get: the summaries. Own work.
-/
import Derived.Test.YtbpfhjmiaaaoiaaPktC2
namespace Go.Am.Pkt
open Go Go.Am Go.Proofs
set_option maxRecDepth 100000

theorem byt_lt (s : ByteArray) (i : Nat) : byt s i < 256 := UInt8.toNat_lt _
theorem byt_eq (s : ByteArray) (i : Nat) : BitVec.toNat (UInt8.toBitVec (List.getD s.data.toList i (UInt8.ofBitVec (BitVec.ofNat 8 0)))) = byt s i := rfl
theorem w64 {n : Nat} (h : n < 9223372036854775808) : IntKind.i64.wrap ((n : Nat) : Int) = n := wrap_cast .i64 (by rw [cap64]; exact h)
theorem and232 (b : Nat) (h : b < 256) : iAnd .u8 ((b : Nat) : Int) 232 = 0 ↔ ¬ (32 ≤ b ∨ b / 8 % 2 = 1) := by
  rw [show (232 : Int) = ((232 : Nat) : Int) from rfl, iAnd_cast .u8 (by rw [cap8]; exact h) (by rw [cap8]; omega)]
  have : ∀ b : Fin 256, (b.val &&& 232 = 0) ↔ ¬ (32 ≤ b.val ∨ b.val / 8 % 2 = 1) := by decide +kernel
  have := this ⟨b, h⟩
  rw [← this]
  exact ⟨fun e => Int.ofNat.inj e, fun e => congrArg Int.ofNat e⟩
theorem okBeg : SpecOk Try.prog G0 37 sBeg :=
  spec2 mixed none_ok Try.func37 (by kernel_rfl : Try.f37.body = some (codeOf Try.f37)) cBeg rfl rfl rfl (by kernel_rfl) (ids := []) (by kernel_rfl) trivial (by
    intro args h K hk
    unfold sBeg at hk
    split at hk
    · rename_i s
      show bBeg s K
      rw [bBeg_eq]
      simp only [forall_eq, byt_eq]
      have l0 := byt_lt s 0
      have l4 := byt_lt s 4
      have no : badP s → K (.bool false) [] := fun h => by rw [decide_eq_true h] at hk; exact hk
      have yes : ¬ badP s → K (.bool true) [] := fun h => by rw [decide_eq_false h] at hk; exact hk
      have tail : ¬ (0 < s.size ∧ (32 ≤ byt s 0 ∨ byt s 0 / 8 % 2 = 1)) → cond (decide (((s.size : Nat) : Int) < 5)) (K (.bool true) []) (cond (decide ((4 : Int) < ((s.size : Nat) : Int))) (K (.bool (decide (((byt s 4 : Nat) : Int) < 4))) []) False) := by
        intro hb
        by_cases h5 : ((s.size : Nat) : Int) < 5
        · rw [dT h5]; exact yes (fun h => by rcases h with h | h; exact hb h; omega)
        · rw [dF h5, dT (by omega)]
          by_cases h4 : ((byt s 4 : Nat) : Int) < 4
          · rw [decide_eq_true h4]; exact yes (fun h => by rcases h with h | h; exact hb h; omega)
          · rw [decide_eq_false h4]; exact no (.inr (by omega))
      by_cases h1 : ((s.size : Nat) : Int) < 1
      · rw [dT h1]; exact tail (by omega)
      · rw [dF h1, dT (by omega)]
        by_cases h2 : iAnd .u8 ((byt s 0 : Nat) : Int) 232 = 0
        · rw [dT h2]
          exact tail (fun h => (and232 _ l0).1 h2 h.2)
        · rw [dF h2]
          exact no (.inl ⟨by omega, by
            by_cases h : 32 ≤ byt s 0 ∨ byt s 0 / 8 % 2 = 1
            · exact h
            · exact absurd ((and232 _ l0).2 h) h2⟩)
    · exact hk.elim)
theorem okWrd : SpecOk Try.prog G0 38 sWrd :=
  spec2 mixed none_ok Try.func38 (by kernel_rfl : Try.f38.body = some (codeOf Try.f38)) cWrd rfl rfl rfl (by kernel_rfl) (ids := []) (by kernel_rfl) trivial (by
    intro args h K hk
    unfold sWrd at hk
    split at hk
    · rename_i i s ty
      obtain ⟨h0, h1, h2, hk⟩ := hk
      obtain ⟨i, rfl⟩ := nat_of h0
      show bWrd s _ ty K
      rw [bWrd_eq]
      have e1 : iAdd .i64 ((i : Nat) : Int) 1 = ((i + 1 : Nat) : Int) := by rw [show (1 : Int) = ((1 : Nat) : Int) from rfl, iAdd_cast .i64 (by rw [cap64]; omega)]
      have l0 := byt_lt s i
      have l1 := byt_lt s (i + 1)
      simp only [forall_eq, byt_eq, Int.toNat_natCast, e1]
      rw [dT2 (by omega) (by omega), dT2 (by omega) (by omega), w64 (by omega), w64 (by omega)]
      rw [show (256 : Int) = ((256 : Nat) : Int) from rfl, iMul_cast .i64 (by rw [cap64]; omega), iOr_cast .i64 (by rw [cap64]; omega) (by rw [cap64]; omega), show (256 : Nat) = 2 ^ 8 from rfl, or_add (by omega)]
      rw [Int.toNat_natCast] at hk
      exact hk
    · exact hk.elim)
/-- The result, when there is no packet. -/
theorem take_no {s : ByteArray} {K : Value → AHeap → Prop} (hk : K (.tuple ⟨[.agg ⟨[.bool (pC s), .int .i64 ((pA s : Nat) : Int), .int .i64 ((pF s : Nat) : Int), .int .i64 ((pN s : Nat) : Int), .string (pD s)]⟩, .int .i64 ((pL s : Nat) : Int), .int .i64 (takeE s)]⟩) []) {e : Int} (he : takeE s = e) (h0 : e ≠ 0) :
    K (.tuple ⟨[.agg ⟨[.bool false, .int .i64 0, .int .i64 0, .int .i64 0, .string ⟨⟨[]⟩⟩]⟩, .int .i64 0, .int .i64 e]⟩) [] := by
  subst he
  have e1 : pC s = false := by unfold pC; rw [decide_eq_false (fun h => h0 h.1)]
  unfold pA pF pN pD pL at hk
  rw [e1, if_neg h0, if_neg h0, if_neg h0, if_neg h0, if_neg h0] at hk
  exact hk
theorem take_yes {s : ByteArray} {K : Value → AHeap → Prop} (hk : K (.tuple ⟨[.agg ⟨[.bool (pC s), .int .i64 ((pA s : Nat) : Int), .int .i64 ((pF s : Nat) : Int), .int .i64 ((pN s : Nat) : Int), .string (pD s)]⟩, .int .i64 ((pL s : Nat) : Int), .int .i64 (takeE s)]⟩) []) (h0 : takeE s = 0) :
    K (.tuple ⟨[.agg ⟨[.bool (decide (16 ≤ byt s 0)), .int .i64 ((byt s 0 % 8 * 256 + byt s 1 : Nat) : Int), .int .i64 ((third s / 16384 : Nat) : Int), .int .i64 ((third s % 16384 : Nat) : Int), .string (s.extract 6 (lenT s))]⟩, .int .i64 ((lenT s : Nat) : Int), .int .i64 0]⟩) [] := by
  have e1 : pC s = decide (16 ≤ byt s 0) := by unfold pC; simp [h0]
  unfold pA pF pN pD pL at hk
  rw [e1, if_pos h0, if_pos h0, if_pos h0, if_pos h0, if_pos h0, h0] at hk
  exact hk
theorem takeE_bad {s : ByteArray} (h : badP s) : takeE s = 6 := by unfold takeE; rw [if_pos h]
theorem takeE_short {s : ByteArray} (h : ¬ badP s) (h2 : s.size < 6 ∨ s.size < lenT s) : takeE s = 4 := by unfold takeE; rw [if_neg h, if_pos h2]
theorem takeE_ok {s : ByteArray} (h : ¬ badP s) (h2 : ¬ (s.size < 6 ∨ s.size < lenT s)) : takeE s = 0 := by unfold takeE; rw [if_neg h, if_neg h2]
theorem okRTake : SpecOk Try.prog G0 29 sTake :=
  spec2 mixed none_ok Try.func29 (by kernel_rfl : Try.f29.body = some (codeOf Try.f29)) cRTake rfl rfl rfl (by kernel_rfl) (ids := []) (by kernel_rfl) trivial (by
    intro args h K hk
    unfold sTake at hk
    split at hk
    · rename_i s
      show bRTake s K
      rw [bRTake_eq]
      have l0 := byt_lt s 0
      have l1 := byt_lt s 1
      have l2 := byt_lt s 2
      have l3 := byt_lt s 3
      have l4 := byt_lt s 4
      have l5 := byt_lt s 5
      have eb : Int.tmod (IntKind.u8.wrap (Int.tdiv ((byt s 0 : Nat) : Int) 8)) 2 = ((byt s 0 / 8 % 2 : Nat) : Int) := by
        rw [show (8 : Int) = ((8 : Nat) : Int) from rfl, tdiv_cast, wrap8, Nat.mod_eq_of_lt (by omega), show (2 : Int) = ((2 : Nat) : Int) from rfl, tmod_cast]
      have e4 : iAdd .i64 (iAdd .i64 (iAdd .i64 6 (iMul .i64 (IntKind.i64.wrap ((byt s 4 : Nat) : Int)) 256)) (IntKind.i64.wrap ((byt s 5 : Nat) : Int))) 1 = ((lenT s : Nat) : Int) := by
        rw [w64 (by omega), w64 (by omega), show (256 : Int) = ((256 : Nat) : Int) from rfl, iMul_cast .i64 (by rw [cap64]; omega), show (6 : Int) = ((6 : Nat) : Int) from rfl, iAdd_cast .i64 (by rw [cap64]; omega), iAdd_cast .i64 (by rw [cap64]; omega),
          show (1 : Int) = ((1 : Nat) : Int) from rfl, iAdd_cast .i64 (by rw [cap64]; omega)]
        rfl
      have e3 : iAdd .i64 (iMul .i64 (IntKind.i64.wrap ((byt s 2 : Nat) : Int)) 256) (IntKind.i64.wrap ((byt s 3 : Nat) : Int)) = ((third s : Nat) : Int) := by
        rw [w64 (by omega), w64 (by omega), show (256 : Int) = ((256 : Nat) : Int) from rfl, iMul_cast .i64 (by rw [cap64]; omega), iAdd_cast .i64 (by rw [cap64]; omega)]
        rfl
      have h3 : third s < 65536 := by unfold third; omega
      have eA : iAdd .i64 (iMul .i64 (Int.tmod (IntKind.i64.wrap ((byt s 0 : Nat) : Int)) 8) 256) (IntKind.i64.wrap ((byt s 1 : Nat) : Int)) = ((byt s 0 % 8 * 256 + byt s 1 : Nat) : Int) := by
        rw [w64 (by omega), w64 (by omega), show (8 : Int) = ((8 : Nat) : Int) from rfl, tmod_cast, show (256 : Int) = ((256 : Nat) : Int) from rfl, iMul_cast .i64 (by rw [cap64]; omega), iAdd_cast .i64 (by rw [cap64]; omega)]
      have eF : IntKind.i64.wrap (Int.tdiv ((third s : Nat) : Int) 16384) = ((third s / 16384 : Nat) : Int) := by
        rw [show (16384 : Int) = ((16384 : Nat) : Int) from rfl, tdiv_cast, w64 (by omega)]
      have eN : Int.tmod ((third s : Nat) : Int) 16384 = ((third s % 16384 : Nat) : Int) := by
        rw [show (16384 : Int) = ((16384 : Nat) : Int) from rfl, tmod_cast]
      simp only [forall_eq, byt_eq, eb, e4, e3, eA, eF, eN, Int.toNat_natCast]
      have no6 : badP s → _ := fun h => take_no hk (takeE_bad h) (by decide)
      have no4 : ¬ badP s → (s.size < 6 ∨ s.size < lenT s) → _ := fun h h2 => take_no hk (takeE_short h h2) (by decide)
      by_cases z : s.size = 0
      · have nb : ¬ badP s := fun h => by rcases h with h | h <;> omega
        rw [dF (by omega), dF (by omega), dT (by omega)]
        exact no4 nb (.inl (by omega))
      rw [dT (by omega), dT (by omega)]
      by_cases c1 : 32 ≤ byt s 0
      · rw [dT (by omega)]; exact no6 (.inl ⟨by omega, .inl c1⟩)
      rw [dF (by omega), dT (by omega)]
      by_cases c2 : byt s 0 / 8 % 2 = 1
      · rw [dT (by omega)]; exact no6 (.inl ⟨by omega, .inr c2⟩)
      rw [dF (by omega)]
      by_cases z4 : s.size ≤ 4
      · have nb : ¬ badP s := fun h => by rcases h with ⟨_, h⟩ | h <;> omega
        rw [dF (by omega), dT (by omega)]
        exact no4 nb (.inl (by omega))
      rw [dT (by omega), dT (by omega)]
      by_cases c4 : 4 ≤ byt s 4
      · rw [dT (by omega)]; exact no6 (.inr ⟨by omega, c4⟩)
      have nb : ¬ badP s := fun h => by rcases h with ⟨_, h⟩ | h <;> omega
      rw [dF (by omega)]
      by_cases z6 : s.size < 6
      · rw [dT (by omega)]; exact no4 nb (.inl z6)
      rw [dF (by omega), dT (by omega), dT (by omega)]
      by_cases zl : s.size < lenT s
      · rw [dT (by omega)]; exact no4 nb (.inr zl)
      have hl : 6 ≤ lenT s := by unfold lenT; omega
      have hy := take_yes hk (takeE_ok nb (by omega))
      have e16 : decide (((byt s 0 : Nat) : Int) ≥ 16) = decide (16 ≤ byt s 0) := by
        by_cases h : 16 ≤ byt s 0
        · rw [decide_eq_true h, decide_eq_true (by omega)]
        · rw [decide_eq_false h, decide_eq_false (by omega)]
      rw [dF (by omega), dT (by omega), dT (by omega), dT (by omega), dT (by omega), dT (by omega), dT2 (by omega) (by omega), e16]
      and_intros <;> first | exact hy | (rw [dT2 (by omega) (by omega)]; first | exact hy | exact ⟨hy, hy⟩)
    · exact hk.elim)
theorem tTake_ok : AllOk Try.prog G0 tTake := ⟨okBeg, okWrd, okClone, trivial⟩
theorem and_mod {x : Nat} (k : Nat) (hx : x < 65536) (hk : k ≤ 16) : iAnd .i64 ((x : Nat) : Int) ((2 ^ k - 1 : Nat) : Int) = ((x % 2 ^ k : Nat) : Int) := by
  have : 2 ^ k ≤ 2 ^ 16 := Nat.pow_le_pow_right (by omega) hk
  rw [iAnd_cast .i64 (by rw [cap64]; omega) (by rw [cap64]; omega), Nat.and_two_pow_sub_one_eq_mod]
theorem and_bit {x : Nat} (hx : x < 65536) : iAnd .i64 ((x : Nat) : Int) 4096 = ((x / 4096 % 2 * 4096 : Nat) : Int) := by
  rw [show (4096 : Int) = ((4096 : Nat) : Int) from rfl, iAnd_cast .i64 (by rw [cap64]; omega) (by rw [cap64]; omega), show (4096 : Nat) = 2 ^ 12 from rfl]
  congr 1
  apply Nat.eq_of_testBit_eq
  intro i
  rw [Nat.testBit_and, Nat.testBit_two_pow, Nat.testBit_mul_two_pow]
  by_cases h : 12 = i
  · subst h
    simp [Nat.testBit_eq_decide_div_mod_eq]
  · rw [decide_eq_false h, Bool.and_false]
    by_cases h2 : i ≥ 12
    · rw [Nat.testBit_lt_two_pow (x := x / 2 ^ 12 % 2) (i := i - 12) (by
        have := Nat.pow_le_pow_right (n := 2) (by omega) (show 1 ≤ i - 12 by omega)
        have : x / 2 ^ 12 % 2 < 2 := Nat.mod_lt _ (by omega)
        omega), Bool.and_false]
    · rw [decide_eq_false h2, Bool.false_and]
theorem okTake : SpecOk Try.prog G0 28 sTake :=
  spec2 mixed tTake_ok Try.func28 (by kernel_rfl : Try.f28.body = some (codeOf Try.f28)) cTake rfl rfl rfl (by kernel_rfl) (ids := []) (by kernel_rfl) trivial (by
    intro args h K hk
    unfold sTake at hk
    split at hk
    · rename_i s
      show bTake s K
      rw [bTake_eq]
      have l0 := byt_lt s 0
      have l1 := byt_lt s 1
      have l2 := byt_lt s 2
      have l3 := byt_lt s 3
      have l4 := byt_lt s 4
      have l5 := byt_lt s 5
      have e4 : iAdd .i64 (iAdd .i64 6 ((byt s 4 * 256 + byt s 5 : Nat) : Int)) 1 = ((lenT s : Nat) : Int) := by
        rw [show (6 : Int) = ((6 : Nat) : Int) from rfl, iAdd_cast .i64 (by rw [cap64]; omega), show (1 : Int) = ((1 : Nat) : Int) from rfl, iAdd_cast .i64 (by rw [cap64]; omega)]
        congr 1
        unfold lenT; omega
      have eC : iAnd .i64 ((byt s 0 * 256 + byt s 1 : Nat) : Int) 4096 = (((byt s 0 * 256 + byt s 1) / 4096 % 2 * 4096 : Nat) : Int) := and_bit (by omega)
      have eA : iAnd .i64 ((byt s 0 * 256 + byt s 1 : Nat) : Int) 2047 = ((byt s 0 % 8 * 256 + byt s 1 : Nat) : Int) := by
        have := and_mod (x := byt s 0 * 256 + byt s 1) 11 (by omega) (by omega)
        rw [show (2047 : Int) = ((2 ^ 11 - 1 : Nat) : Int) from rfl, this]
        congr 1; omega
      have e3 : byt s 2 * 256 + byt s 3 = third s := rfl
      have h3 : third s < 65536 := by unfold third; omega
      have eN : iAnd .i64 ((third s : Nat) : Int) 16383 = ((third s % 16384 : Nat) : Int) := and_mod (x := third s) 14 h3 (by omega)
      have eF : Int.fdiv ((third s : Nat) : Int) 16384 = ((third s / 16384 : Nat) : Int) := by
        rw [show (16384 : Int) = ((16384 : Nat) : Int) from rfl, fdiv_cast]
      have e0 : (strOf (List.getD (Array.toList (Value.cells (Value.string s))) (Addr.off (newAddr [])) Go.undef)) = s := rfl
      simp only [forall_eq, e0, e4, eC, eA, e3, eN, eF, Int.toNat_natCast, Bool.not_not]
      have no6 : badP s → _ := fun h => take_no hk (takeE_bad h) (by decide)
      have no4 : ¬ badP s → (s.size < 6 ∨ s.size < lenT s) → _ := fun h h2 => take_no hk (takeE_short h h2) (by decide)
      by_cases nb : badP s
      · rw [dT nb]; exact no6 nb
      rw [dF nb]
      by_cases z6 : s.size < 6
      · rw [dT (by omega)]; exact no4 nb (.inl z6)
      rw [dF (by omega)]
      refine ⟨by omega, by omega, by omega, ?_⟩
      by_cases zl : s.size < lenT s
      · rw [dT (by omega)]; exact no4 nb (.inr zl)
      have hl : 6 ≤ lenT s := by unfold lenT; omega
      have hl2 : lenT s ≤ 1030 := by
        have : ¬ 4 ≤ byt s 4 := fun h => nb (.inr ⟨by omega, h⟩)
        unfold lenT; omega
      have hy := take_yes hk (takeE_ok nb (by omega))
      have hb0 : byt s 0 < 32 := by
        have : ¬ 32 ≤ byt s 0 := fun h => nb (.inl ⟨by omega, .inl h⟩)
        omega
      have e16 : (!decide ((((byt s 0 * 256 + byt s 1) / 4096 % 2 * 4096 : Nat) : Int) = 0)) = decide (16 ≤ byt s 0) := by
        by_cases h : 16 ≤ byt s 0
        · rw [decide_eq_true h, decide_eq_false (by omega)]; rfl
        · rw [decide_eq_false h, decide_eq_true (by omega)]; rfl
      have hsz : (s.extract 6 (lenT s)).size ≤ 140737488355328 := by
        rw [ByteArray.size_extract]; omega
      rw [dF (by omega), dT2 (by omega) (by omega), e16]
      and_intros <;> first | exact hy | exact hsz | omega
    · exact hk.elim)
theorem tGet_ok : AllOk Try.prog G0 tGet := ⟨okTake, okRTake, trivial⟩
def getE (s : ByteArray) : Int := if takeE s = 0 ∧ pL s = s.size then 0 else 6
def gC (s : ByteArray) : Bool := decide (getE s = 0) && pC s
def gA (s : ByteArray) : Nat := if getE s = 0 then pA s else 0
def gF (s : ByteArray) : Nat := if getE s = 0 then pF s else 0
def gN (s : ByteArray) : Nat := if getE s = 0 then pN s else 0
def gD (s : ByteArray) : ByteArray := if getE s = 0 then pD s else ⟨⟨[]⟩⟩
def sGet : Spec := fun args h K => match args, h with
  | [.string s], [] => K (.tuple ⟨[.agg ⟨[.bool (gC s), .int .i64 ((gA s : Nat) : Int), .int .i64 ((gF s : Nat) : Int), .int .i64 ((gN s : Nat) : Int), .string (gD s)]⟩, .int .i64 (getE s)]⟩) []
  | _, _ => False
theorem get_key {s : ByteArray} {K : Value → AHeap → Prop} (hk : K (.tuple ⟨[.agg ⟨[.bool (gC s), .int .i64 ((gA s : Nat) : Int), .int .i64 ((gF s : Nat) : Int), .int .i64 ((gN s : Nat) : Int), .string (gD s)]⟩, .int .i64 (getE s)]⟩) []) :
    (takeE s = 0 ∧ pL s = s.size → K (.tuple ⟨[.agg ⟨[.bool (pC s), .int .i64 ((pA s : Nat) : Int), .int .i64 ((pF s : Nat) : Int), .int .i64 ((pN s : Nat) : Int), .string (pD s)]⟩, .int .i64 0]⟩) []) ∧
    (¬ (takeE s = 0 ∧ pL s = s.size) → K (.tuple ⟨[.agg ⟨[.bool false, .int .i64 0, .int .i64 0, .int .i64 0, .string ⟨⟨[]⟩⟩]⟩, .int .i64 6]⟩) []) := by
  constructor
  · intro h
    have e : getE s = 0 := by unfold getE; rw [if_pos h]
    unfold gC gA gF gN gD at hk
    rw [e] at hk
    simpa using hk
  · intro h
    have e : getE s = 6 := by unfold getE; rw [if_neg h]
    unfold gC gA gF gN gD at hk
    rw [e] at hk
    simpa using hk
theorem okGet : SpecOk Try.prog G0 30 sGet :=
  spec2 mixed tGet_ok Try.func30 (by kernel_rfl : Try.f30.body = some (codeOf Try.f30)) cGet rfl rfl rfl (by kernel_rfl) (ids := []) (by kernel_rfl) trivial (by
    intro args h K hk
    unfold sGet at hk
    split at hk
    · rename_i s
      show bGet s K
      rw [bGet_eq]
      obtain ⟨h1, h2⟩ := get_key hk
      simp only [forall_eq]
      by_cases c1 : takeE s = 0
      · rw [dnT c1]
        by_cases c2 : pL s = s.size
        · rw [dnT (by omega)]; exact h1 ⟨c1, c2⟩
        · rw [dnF (by omega)]; exact h2 (fun h => c2 h.2)
      · rw [dnF c1]; exact h2 (fun h => c1 h.1)
    · exact hk.elim)
theorem okRGet : SpecOk Try.prog G0 31 sGet :=
  spec2 mixed tGet_ok Try.func31 (by kernel_rfl : Try.f31.body = some (codeOf Try.f31)) cRGet rfl rfl rfl (by kernel_rfl) (ids := []) (by kernel_rfl) trivial (by
    intro args h K hk
    unfold sGet at hk
    split at hk
    · rename_i s
      show bRGet s K
      rw [bRGet_eq]
      obtain ⟨h1, h2⟩ := get_key hk
      simp only [forall_eq]
      by_cases c1 : takeE s = 0
      · rw [dnT c1]
        by_cases c2 : pL s = s.size
        · rw [dnT (by omega)]; exact h1 ⟨c1, c2⟩
        · rw [dnF (by omega)]; exact h2 (fun h => c2 h.2)
      · rw [dnF c1]; exact h2 (fun h => c1 h.1)
    · exact hk.elim)
end Go.Am.Pkt
