/-
  Cltu: bits, remainders: the texts' summaries. Own work.
-/
import Derived.Test.YtoeepogoogcbiaaDoorCltA
namespace Go.Am.Clt
open Go Go.Am Go.Am.Lib Go.Proofs
set_option maxRecDepth 100000

theorem mixed : Tryd.prog.follows .mixedOrders = true := by kernel_rfl
theorem none_ok : AllOk Tryd.prog G0 [] := trivial
/-! ### plain -/
theorem bitV_len (l : List Nat) : (bitV l).length = l.length := List.length_map _
theorem bitV_getD (l : List Nat) {i : Nat} (h : i < l.length) : (bitV l).getD i undef = .int .i64 ((l.getD i 0 : Nat) : Int) := by
  unfold bitV
  rw [List.getD_eq_getElem?_getD, List.getElem?_map, List.getD_eq_getElem?_getD, List.getElem?_eq_getElem h]
  rfl
theorem bitV_set (l : List Nat) (i b : Nat) : (bitV l).set i (.int .i64 ((b : Nat) : Int)) = bitV (l.set i b) := by
  unfold bitV; rw [List.map_set]
theorem bitsOf_bitV (l : List Nat) : bitsOf (bitV l) = l := by
  unfold bitsOf bitV
  rw [List.map_map]
  exact (List.map_congr_left fun x _ => by show ((x : Nat) : Int).toNat = x; omega).trans (List.map_id l)
theorem goodL {l : List Nat} (hl : l.length = 63) (hb : Bits l) : GoodL (bitV l) := by
  unfold GoodL
  rw [bitV_len, bitsOf_bitV]
  exact ⟨hl, rfl, hb⟩
theorem shI : ∀ p : Fin 128, (iAnd .u8 (iMul .u8 ((p.val : Nat) : Int) 2) 128 = 0 → iMul .u8 ((p.val : Nat) : Int) 2 = ((sh1 p.val : Nat) : Int)) ∧ (¬ iAnd .u8 (iMul .u8 ((p.val : Nat) : Int) 2) 128 = 0 → iXor .u8 (iMul .u8 ((p.val : Nat) : Int) 2) 197 = ((sh1 p.val : Nat) : Int)) := by decide +kernel
theorem nibI : ∀ (r : Fin 128) (h : Fin 16), (0 ≤ iXor .u8 (Int.fdiv ((r.val : Nat) : Int) 8) ((h.val : Nat) : Int) ∧ iXor .u8 (Int.fdiv ((r.val : Nat) : Int) 8) ((h.val : Nat) : Int) < 16) ∧
    iXor .u8 (iAnd .u8 (iMul .u8 ((r.val : Nat) : Int) 16) 127) (intOf (halvesV.getD (iXor .u8 (Int.fdiv ((r.val : Nat) : Int) 8) ((h.val : Nat) : Int)).toNat undef)) = ((nib r.val h.val : Nat) : Int) := by decide +kernel
theorem halfI : ∀ i : Fin 16, isInt .u8 (halvesV.getD i.val undef) = true := by decide +kernel
theorem and15 : ∀ b : Fin 256, iAnd .u8 ((b.val : Nat) : Int) 15 = ((b.val % 16 : Nat) : Int) := by decide +kernel

/-! ### shifted -/
theorem okShf : SpecOk Tryd.prog G0 28 sShf :=
  spec2 mixed none_ok Tryd.func28 (by kernel_rfl : Tryd.f28.body = some (codeOf Tryd.f28)) cShf rfl rfl rfl (by kernel_rfl) (ids := []) (by kernel_rfl) trivial (by
    intro args h K hk
    unfold sShf at hk
    split at hk
    · rename_i p
      obtain ⟨p0, p1, hk⟩ := hk
      obtain ⟨m, rfl⟩ := nat_of p0
      rw [Int.toNat_natCast] at hk
      have hm : m < 128 := by omega
      show bShf (m : Nat) K
      rw [bShf_eq]
      intro x1 h1 x2 h2
      have hh := shI ⟨m, hm⟩
      dsimp only at hh
      subst h1 h2
      by_cases hx : iAnd .u8 (iMul .u8 ((m : Nat) : Int) 2) 128 = 0
      · rw [dnT hx, hh.1 hx]; exact hk
      · rw [dnF hx]
        intro x3 h3
        rw [hh.2 hx] at h3
        subst h3
        exact hk
    · exact hk.elim)

/-! ### bit -/
theorem okBit : SpecOk Tryd.prog G0 26 sBit :=
  spec2 mixed none_ok Tryd.func26 (by kernel_rfl : Tryd.f26.body = some (codeOf Tryd.f26)) cBit rfl rfl rfl (by kernel_rfl) (ids := []) (by kernel_rfl) trivial (by
    intro args h K hk
    unfold sBit at hk
    split at hk
    · rename_i s i
      obtain ⟨i0, i1, i2, hk⟩ := hk
      obtain ⟨m, rfl⟩ := nat_of i0
      rw [Int.toNat_natCast] at hk
      show bBit s (m : Nat) K
      rw [bBit_eq]
      intro x1 h1
      rw [show (8 : Int) = ((8 : Nat) : Int) from rfl, tdiv_cast, w64 (by omega)] at h1
      subst h1
      rw [dT2 (by omega) (by omega), Int.toNat_natCast]
      intro x2 h2
      replace h2 : x2 = ((byteAt s (m / 8) : Nat) : Int) := h2
      have hb := byteAt_lt s (m / 8)
      intro x3 h3 x4 h4 x5 h5
      rw [h2, w64 (by omega)] at h3
      rw [show (8 : Int) = ((8 : Nat) : Int) from rfl, tmod_cast] at h4
      rw [h4, iSub_i64 (by omega) (by omega)] at h5
      rw [dT (by omega)]
      have h5' : x5.toNat = 7 - m % 8 := by omega
      rw [h5', if_pos (by omega)]
      intro x6 h6 x7 h7
      rw [h3, show (2 : Int) ^ (7 - m % 8) = ((2 ^ (7 - m % 8) : Nat) : Int) from by rw [Int.natCast_pow]; rfl, fdiv_cast] at h6
      rw [h6, show (2 : Int) = ((2 : Nat) : Int) from rfl, tmod_cast] at h7
      subst h7
      exact hk
    · exact hk.elim)

/-! ### remainder -/
theorem loopRem : ∀ e h k, TRem e h k → ∃ m, loopN cRem (codeOf Tryd.f25) 0 3 m e h k := by
  intro e h k hT
  unfold TRem at hT
  split at hT
  · rename_i s r n i
    obtain ⟨rfl, rfl, hs, rfl, hk⟩ := hT
    refine ⟨s.size + 1, ?_⟩
    have key : ∀ n i r : Nat, i + n = s.size → r < 128 → k (.exit 0) [(3, .int .u8 ((remG s n i r : Nat) : Int))] [] →
        loopN cRem (codeOf Tryd.f25) 0 3 (n + 1) [(0, .string s), (3, .int .u8 ((r : Nat) : Int)), (8, .int .i64 ((s.size : Nat) : Int)), (9, .int .i64 ((i : Nat) : Int))] [] k := by
      intro n
      induction n with
      | zero =>
        intro i r hi hr hk
        rw [loopN_succ]
        show tRem s (r : Nat) (s.size : Nat) (i : Nat) _
        rw [tRem_eq, dF (by omega)]
        exact hk
      | succ n ih =>
        intro i r hi hr hk
        rw [loopN_succ]
        show tRem s (r : Nat) (s.size : Nat) (i : Nat) _
        have hb := byteAt_lt s i
        have e1 := nibI ⟨r, hr⟩ ⟨byteAt s i / 16, by omega⟩
        dsimp only at e1
        have hn : nib r (byteAt s i / 16) < 128 := nib_lt hr (by omega)
        have e2 := nibI ⟨nib r (byteAt s i / 16), hn⟩ ⟨byteAt s i % 16, by omega⟩
        dsimp only at e2
        rw [tRem_eq, dT (by omega), dT2 (by omega) (by omega), Int.toNat_natCast]
        intro x1 h1 x2 h2
        replace h1 : x1 = ((byteAt s i : Nat) : Int) := h1
        rw [h1, show (16 : Int) = ((16 : Nat) : Int) from rfl, fdiv_cast] at h2
        rw [dT2 (by omega) (by omega)]
        intro x3 h3 x4 h4 x5 h5 x6 h6 x7 h7 x8 h8 x9 h9
        replace h3 : x3 = ((byteAt s i : Nat) : Int) := h3
        have e3 := and15 ⟨byteAt s i, hb⟩
        dsimp only at e3
        rw [h3, e3] at h4
        rw [h5, h2, h8] at h9
        obtain ⟨⟨a1, a2⟩, a3⟩ := e1
        rw [← h9] at a1 a2 a3
        have a4 := halfI ⟨x9.toNat, by omega⟩
        dsimp only at a4
        rw [dT2 a1 a2, dT (by omega), a4, cond_true]
        intro x10 h10 x11 h11 x12 h12 x13 h13 x14 h14 x15 h15
        rw [h7, h6] at h10
        have h10' : x10 = ((nib r (byteAt s i / 16) : Nat) : Int) := h10.trans a3
        rw [h11, h4, h14, h10'] at h15
        obtain ⟨⟨b1, b2⟩, b3⟩ := e2
        rw [← h15] at b1 b2 b3
        have b4 := halfI ⟨x15.toNat, by omega⟩
        dsimp only at b4
        rw [dT2 b1 b2, dT (by omega), b4, cond_true]
        intro x16 h16 x17 h17
        rw [h13, h12, h10'] at h16
        have h16' : x16 = ((byteS r (byteAt s i) : Nat) : Int) := h16.trans b3
        rw [iAdd_i64 (by omega) (by omega)] at h17
        obtain rfl : x17 = ((i + 1 : Nat) : Int) := by omega
        subst h16'
        exact ih (i + 1) _ (by omega) (byteS_lt hr hb) hk
    exact key s.size 0 0 (by omega) (by omega) hk
  · exact hT.elim
theorem okRem : SpecOk Tryd.prog G0 25 sRem :=
  spec2 mixed none_ok Tryd.func25 (by kernel_rfl : Tryd.f25.body = some (codeOf Tryd.f25)) cRem rfl rfl rfl (by kernel_rfl) (ids := [3, 6]) (by kernel_rfl) ⟨by intro e h k hT; exact loopRem e h k hT, trivial, trivial⟩ (by
    intro args h K hk
    unfold sRem at hk
    split at hk
    · rename_i s
      obtain ⟨hs, hk⟩ := hk
      show bRem s K
      rw [bRem_eq]
      intro x1 h1
      exact ⟨rfl, h1, hs, rfl, hk⟩
    · exact hk.elim)
end Go.Am.Clt
