/-
  Cltu: the reference's Block and Check: the texts' summaries. Own work.
-/
import Derived.Test.YtoeepogoogcbiaaDoorCltE
namespace Go.Am.Clt
open Go Go.Am Go.Am.Lib Go.Proofs
set_option maxRecDepth 100000

/-! ### flipped -/
theorem app_size (a b : ByteArray) : (ByteArray.append a b).size = a.size + b.size := ByteArray.size_append
theorem app_at (a b : ByteArray) (j : Nat) : byteAt (ByteArray.append a b) j = if j < a.size then byteAt a j else byteAt b (j - a.size) := byteAt_append a b j
theorem flip_parts {s : ByteArray} (hs : s.size = 8) {i : Nat} (hi : i < 64) {x : Int} (hx : x = ((byteAt s (i / 8) ^^^ 2 ^ (7 - i % 8) : Nat) : Int)) :
    ByteArray.append (ByteArray.append (s.extract 0 (i / 8)) (bytesOf [.int .u8 x])) (s.extract (i / 8 + 1) s.size) = flipS s i := by
  have e1 : (s.extract 0 (i / 8)).size = i / 8 := by rw [ByteArray.size_extract]; omega
  have e2 : (s.extract (i / 8 + 1) s.size).size = 7 - i / 8 := by rw [ByteArray.size_extract]; omega
  have e3 : (bytesOf [.int .u8 x]).size = 1 := by rw [bytesOf_size]; rfl
  have hX : byteAt s (i / 8) ^^^ 2 ^ (7 - i % 8) < 256 := @Nat.xor_lt_two_pow _ _ 8 (byteAt_lt _ _) (pow7_lt i)
  apply bytes_eq
  · rw [app_size, app_size, e1, e2, e3, flip_size]; omega
  · intro j hj
    rw [app_size, app_size, e1, e2, e3] at hj
    rw [app_at, app_at, app_size, e1, e3, flip_at s (by omega) (by omega)]
    by_cases h1 : j < i / 8
    · rw [if_pos (by omega), if_pos h1, if_neg (by omega), byteAt_cut, if_pos (by omega), Nat.zero_add]
    · by_cases h2 : j = i / 8
      · rw [if_pos (by omega), if_neg h1, if_pos h2, hx]
        refine bytesOf_at ?_ hX (by show j - i / 8 < 1; omega)
        rw [show j - i / 8 = 0 by omega]; rfl
      · rw [if_neg (by omega), if_neg h2, byteAt_cut, if_pos (by omega)]
        congr 1
        omega
theorem one_shl : ∀ j : Fin 8, iMul .u8 1 ((2 : Int) ^ (if (7 - j.val) ≤ 8 then 7 - j.val else 8)) = ((2 ^ (7 - j.val) : Nat) : Int) := by decide +kernel
theorem okFlp : SpecOk Tryd.prog G0 29 sFlp :=
  spec2 mixed none_ok Tryd.func29 (by kernel_rfl : Tryd.f29.body = some (codeOf Tryd.f29)) cFlp rfl rfl rfl (by kernel_rfl) (ids := []) (by kernel_rfl) trivial (by
    intro args h K hk
    unfold sFlp at hk
    split at hk
    · rename_i s i
      obtain ⟨hs, i0, i1, hk⟩ := hk
      obtain ⟨m, rfl⟩ := nat_of i0
      rw [Int.toNat_natCast] at hk
      show bFlp s (m : Nat) K
      rw [bFlp_eq]
      intro x1 h1 x2 h2
      rw [show (8 : Int) = ((8 : Nat) : Int) from rfl, tdiv_cast, w64 (by omega)] at h1 h2
      subst h1
      subst h2
      rw [dT2 (by omega) (by omega)]
      intro x3 h3 x4 h4 x5 h5
      replace h3 : x3 = ((byteAt s (m / 8) : Nat) : Int) := h3
      rw [show (8 : Int) = ((8 : Nat) : Int) from rfl, tmod_cast] at h4
      rw [h4, iSub_i64 (by omega) (by omega)] at h5
      obtain rfl : x5 = ((7 - m % 8 : Nat) : Int) := by omega
      rw [dT (by omega)]
      intro x6 h6 x7 h7 x8 h8 x9 h9
      rw [Int.toNat_natCast] at h6
      have ho := one_shl ⟨m % 8, by omega⟩
      dsimp only at ho
      replace h6 := h6.trans ho
      rw [h3, h6, iXor_cast .u8 (by rw [cap8]; exact byteAt_lt _ _) (by rw [cap8]; exact pow7_lt _)] at h7
      rw [show (8 : Int) = ((8 : Nat) : Int) from rfl, tdiv_cast, w64 (by omega)] at h8
      rw [h8, iAdd_i64 (by omega) (by omega)] at h9
      obtain rfl : x9 = ((m / 8 + 1 : Nat) : Int) := by omega
      have e1 : (s.extract 0 (m / 8)).size = m / 8 := by rw [ByteArray.size_extract]; omega
      have e2 : (s.extract (m / 8 + 1) s.size).size = 7 - m / 8 := by rw [ByteArray.size_extract]; omega
      have e3 : (bytesOf [.int .u8 x7]).size = 1 := by rw [bytesOf_size]; rfl
      have hfin : K (.string (ByteArray.append (ByteArray.append (s.extract 0 (m / 8)) (bytesOf [.int .u8 x7])) (s.extract (m / 8 + 1) s.size))) [] := by
        rw [flip_parts hs (by omega) h7]; exact hk
      rw [Int.toNat_natCast, Int.toNat_natCast]
      simp only [forall_eq]
      repeat rw [dT2 (by omega) (by omega)]
      generalize hG : K (.string (ByteArray.append (ByteArray.append (s.extract 0 (m / 8)) (bytesOf [.int .u8 x7])) (s.extract (m / 8 + 1) s.size))) [] = G at hfin ⊢
      repeat rw [dT (by simp only [app_size, e1, e2, e3]; omega)]
      simp only [hfin, and_self]
    · exact hk.elim)
theorem tabC_ok : AllOk Tryd.prog G0 tabC := ⟨okRem, okShf, okBit, okRst, okFlp, trivial⟩

end Go.Am.Clt
