/-
  Memory: MemoryCodes. Own work.
-/
import Derived.Test.YtjbagcmcpmhfnaaDoorMemF
namespace Go.Am.Mem
open Go Go.Am Go.Am.Ham Go.Proofs
set_option maxRecDepth 100000

theorem tH_ok : AllOk Tryd.prog G0 tH := ⟨okAwake, tG_ok⟩
def sCodes : Spec := fun args h K => match args, h with
  | [.int .u32 w, .int .u8 b], [] => 0 ≤ w ∧ w < 2 ^ 32 ∧ 0 ≤ b ∧ b < 2 ^ 8 ∧ K (.bool true) []
  | _, _ => False
/-- a shift of 1, as the machine does it -/
theorem bit_shift {x22 x21 : Int} {i : Nat} (hi : i < 39) (h21 : x21 = (i : Int)) (h22 : x22 = iMul .u64 1 ((2 : Int) ^ (if x21.toNat ≤ 64 then x21.toNat else 64))) : x22 = ((2 ^ i : Nat) : Int) := by
  subst h21
  rw [h22, Int.toNat_natCast, if_pos (by omega)]
  have : ((2 : Int) ^ i) = ((2 ^ i : Nat) : Int) := by simp
  rw [this, show (1 : Int) = ((1 : Nat) : Int) from rfl, iMul_cast .u64 (by
    have := Nat.pow_lt_pow_right (a := 2) (by omega) (show i < 64 by omega)
    show 1 * 2 ^ i < 2 ^ 64
    omega), Nat.one_mul]
theorem okCodes : SpecOk Tryd.prog G0 3 sCodes :=
  spec2 mixed tH_ok Tryd.func3 (by kernel_rfl : Tryd.f3.body = some (codeOf Tryd.f3)) cCodes rfl rfl rfl (by kernel_rfl) (ids := []) (by kernel_rfl) trivial (by
    intro args h K hk
    unfold sCodes at hk
    split at hk
    · rename_i w b
      show bCodes w b K
      rw [bCodes_eq]
      obtain ⟨w0, w1, b0, b1, hk⟩ := hk
      refine ⟨fun _ => ?_, fun h => by cases h⟩
      have hi : (0 : Int) ≤ 1 ∧ (1 : Int) < (2 : Nat) := by omega
      obtain ⟨i, hi39, hb⟩ : ∃ i : Nat, i < 39 ∧ Int.tmod b 39 = i := ⟨b.toNat % 39, Nat.mod_lt _ (by omega), by
        have e : b = ((b.toNat : Nat) : Int) := by omega
        rw [e, show (39 : Int) = ((39 : Nat) : Int) from rfl, tmod_cast, Int.toNat_natCast]⟩
      have hw : w.toNat < 2 ^ 32 := by omega
      rintro x1 h1 _ rfl
      have g1 : Good x1 2 := by rw [h1]; exact good_new (by omega) (by omega) (by omega) (by omega)
      rw [dnT (by rfl)]
      refine ⟨g1.ok, w0, w1, ?_⟩
      rintro x3 h3 _ rfl
      have g3 : Good x3 2 := by rw [h3]; exact g1.write hi _
      have a3 : wordAt x3 1 = encN w.toNat := by rw [h3, g1.write_at hi _ (by omega)]; rfl
      rw [dnT (by rw [g1.chk hi]; rfl)]
      refine ⟨g3.ok, ?_⟩
      have r3 : rawR x3 1 = (encN w.toNat, 0) := by rw [g3.raw hi]; show (wordAt x3 1, 0) = _; rw [a3]
      rw [r3]
      rintro x5 h5 _ rfl
      rw [dnT (by rfl)]
      refine ⟨w0, w1, ?_⟩
      rintro x7 h7
      rw [dnT (show x5 = x7 from by rw [h5, h7])]
      rintro x8 h8 x9 h9
      rw [hb] at h8
      have e9 : x9 = (i : Int) := by rw [h9, h8]; exact wrap_cast .i64 (Nat.lt_of_lt_of_le hi39 (by decide))
      have hi9 : 0 ≤ x9 ∧ x9 < 39 := by omega
      refine ⟨g3.ok, ?_⟩
      rintro x10 h10 x11 h11
      have g10 : Good x10 2 := by rw [h10]; exact g3.ups
      have a10 : wordAt x10 1 = encN w.toNat ^^^ 2 ^ i := by
        rw [h10, g3.ups_at hi hi9 (by omega)]
        show wordAt x3 1 ^^^ 2 ^ x9.toNat = _
        rw [a3, e9, Int.toNat_natCast]
      rw [dnT (by rw [h11, g3.ups_ok hi hi9]; rfl)]
      have r10 : rawR x10 1 = (encN w.toNat ^^^ 2 ^ i, 0) := by rw [g10.raw hi]; show (wordAt x10 1, 0) = _; rw [a10]
      have q10 : readR x10 1 = (w.toNat, 1, 0) := by rw [g10.readR hi, show (1 : Int).toNat = 1 from rfl, a10, dec_flip hw hi39]; rfl
      refine ⟨g10.ok, ?_⟩
      rw [r10, q10]
      rintro x12 h12 _ rfl
      refine ⟨g10.ok, ?_⟩
      rintro x14 h14 x15 h15 _ rfl _ rfl
      have g14 : Good x14 2 := by rw [h14]; exact g10.read _
      have a14 : wordAt x14 1 = encN w.toNat := by
        rw [h14, g10.read_at hi (by omega), show (1 : Int).toNat = 1 from rfl, a10, dec_flip hw hi39, if_pos ⟨rfl, rfl⟩]
      have r14 : rawR x14 1 = (encN w.toNat, 0) := by rw [g14.raw hi]; show (wordAt x14 1, 0) = _; rw [a14]
      refine ⟨g14.ok, ?_⟩
      rw [r14]
      rintro x18 h18 _ rfl x20 h20 x21 h21
      rw [hb] at h20
      have e21 : x21 = (i : Int) := by rw [h21, h20]; exact wrap_cast .u64 (Nat.lt_of_lt_of_le hi39 (by decide))
      rw [dT (show 0 ≤ x21 from by omega)]
      rintro x22 h22 x23 h23
      have e22 := bit_shift hi39 e21 h22
      have c1 : encN w.toNat < cap .u64 := Nat.lt_of_lt_of_le (enc39 _) (by decide)
      have c2 : 2 ^ i < cap .u64 := Nat.lt_of_lt_of_le (Nat.pow_lt_pow_right (by omega) hi39) (by decide)
      have e23 : x23 = ((encN w.toNat ^^^ 2 ^ i : Nat) : Int) := by rw [h23, h5, e22]; exact iXor_cast .u64 c1 c2
      rw [dT (show x12 = x23 from by rw [h12, e23]), dT (by rfl), dT (show x15 = w from by rw [h15]; show ((w.toNat : Nat) : Int) = w; omega), dT (by rfl), dT (by rfl), dT (show x18 = x5 from by rw [h18, h5]), dT (by rfl)]
      exact hk
    · exact hk.elim)
end Go.Am.Mem
