/-
  Cltu: Pick and Flip. Own work.
-/
import Derived.Test.YtoeepogoogcbiaaDoorCltAM
namespace Go.Am.Clt
open Go Go.Am Go.Am.Lib Go.Proofs
set_option maxRecDepth 100000

theorem okPck : SpecOk Tryd.prog G0 16 sPck :=
  spec2 mixed none_ok Tryd.func16 (by kernel_rfl : Tryd.f16.body = some (codeOf Tryd.f16)) cPck rfl rfl rfl (by kernel_rfl) (ids := []) (by kernel_rfl) trivial (by
    intro args h K hk
    unfold sPck at hk
    split at hk
    · rename_i n m
      obtain ⟨m0, m1, hk⟩ := hk
      show bPck n m K
      rw [bPck_eq]
      rw [dnF (by omega)]
      rintro x1 h1
      have hlt := Int.emod_lt_of_pos n m0
      have hnn := Int.emod_nonneg n (by omega : m ≠ 0)
      have ht : x1 = n % m ∨ (x1 + m = n % m ∧ x1 < 0) := by
        rw [h1, Int.tmod_eq_emod]
        split
        · left; omega
        · right
          rename_i hc
          have hm : (m.natAbs : Int) = m := by omega
          have hz : n % m ≠ 0 := fun z => hc (.inr (Int.dvd_of_emod_eq_zero z))
          omega
      rcases ht with ht | ⟨ht, hneg⟩
      · rw [dF (by omega)]; exact hk _ ht
      · rw [dT hneg]
        rintro x2 h2
        rw [iAdd_i64 (by omega) (by omega), ht] at h2
        exact hk _ h2
    · exact hk.elim)
theorem tabP_ok : AllOk Tryd.prog G0 tabP := ⟨okPck, trivial⟩
def flipN (s : ByteArray) (n : Int) : ByteArray := flipS s (n % ((8 * s.size : Nat) : Int)).toNat
def sFlk : Spec := fun args h K => match args, h with
  | [.string s, .int .i64 n], [] => 0 < s.size ∧ s.size < 2 ^ 40 ∧ K (.string (flipN s n)) []
  | _, _ => False
theorem ne_nil {s : ByteArray} (h : 0 < s.size) : eqLB s.data.toList [] = false := by
  have hl := size_list s
  cases hs : s.data.toList with
  | nil => rw [hs] at hl; simp at hl; omega
  | cons x l => rfl
theorem set_ints (s : ByteArray) (j : Nat) (x : Int) (m : Nat) : List.all (List.take m (List.drop 0 ((bytesV s).set j (.int .u8 x)))) (isInt .u8) = true := by
  rw [List.all_eq_true]
  intro u hu
  have hu := List.mem_of_mem_take hu
  rw [List.drop_zero] at hu
  rcases List.mem_or_eq_of_mem_set hu with h | h
  · unfold bytesV at h
    obtain ⟨b, _, rfl⟩ := List.mem_map.1 h
    exact isInt_int _ _
  · rw [h]; exact isInt_int _ _
theorem flip_out (s : ByteArray) {m : Nat} {x : Int} (hx : x = ((byteAt s (m / 8) ^^^ 2 ^ (7 - m % 8) : Nat) : Int)) : bytesOf (List.take (s.size * 1) (List.drop 0 ((bytesV s).set (m / 8) (.int .u8 x)))) = flipS s m := by
  rw [List.drop_zero, List.take_of_length_le (by rw [List.length_set, bytesV_length]; omega)]
  unfold flipS flipV
  rw [bytesOf_V, hx]
set_option maxHeartbeats 1600000 in
theorem okFlk : SpecOk Tryd.prog G0 17 sFlk :=
  spec2 mixed tabP_ok Tryd.func17 (by kernel_rfl : Tryd.f17.body = some (codeOf Tryd.f17)) cFlk rfl rfl rfl (by kernel_rfl) (ids := []) (by kernel_rfl) trivial (by
    intro args h K hk
    unfold sFlk at hk
    split at hk
    · rename_i s n
      obtain ⟨h0, h1, hk⟩ := hk
      show bFlk s n K
      rw [bFlk_eq, ne_nil h0, cond_false]
      rintro x1 e1 x2 e2
      rw [e1, iMul_i64 (by omega) (by omega)] at e2
      have e2' : x2 = ((8 * s.size : Nat) : Int) := by rw [e2]; push_cast; rfl
      refine ⟨by omega, by omega, ?_⟩
      rintro x3 e3 x4 e4
      rw [e2'] at e3
      have hlt := Int.emod_lt_of_pos n (show (0 : Int) < ((8 * s.size : Nat) : Int) by omega)
      have hnn := Int.emod_nonneg n (show ((8 * s.size : Nat) : Int) ≠ 0 by omega)
      obtain ⟨m, hm⟩ := nat_of (n := n % ((8 * s.size : Nat) : Int)) hnn
      have hms : m < 8 * s.size := by omega
      have hF : flipN s n = flipS s m := by unfold flipN; rw [hm, Int.toNat_natCast]
      rw [hF] at hk
      replace e4 : x4 = n % ((8 * s.size : Nat) : Int) := e4.trans e3
      rw [hm] at e4
      subst e4
      clear e1 e2 e2' e3 hm hF hlt hnn
      intro x5 h5 x6 h6
      rw [show (8 : Int) = ((8 : Nat) : Int) from rfl, tdiv_cast, w64 (by omega)] at h5 h6
      subst h5
      subst h6
      rw [dT2 (by omega) (by omega)]
      intro x7 h7 x8 h8
      rw [show (8 : Int) = ((8 : Nat) : Int) from rfl, tmod_cast] at h7
      rw [h7, iSub_i64 (by omega) (by omega)] at h8
      obtain rfl : x8 = ((7 - m % 8 : Nat) : Int) := by omega
      rw [dT (by omega)]
      intro x9 h9
      rw [Int.toNat_natCast] at h9
      have ho := one_shl ⟨m % 8, by omega⟩
      dsimp only at ho
      replace h9 := h9.trans ho
      have hd : m / 8 < s.size := by omega
      rw [Int.toNat_natCast]
      have hg : (bytesV s).getD (m / 8) undef = .int .u8 ((byteAt s (m / 8) : Nat) : Int) := by
        rw [List.getD_eq_getElem?_getD, bytesV_get s hd]; rfl
      rw [hg, isInt_int, cond_true, intOf_int, dT (by rw [bytesV_length]; omega)]
      intro x10 h10
      rw [h9, iXor_cast .u8 (by rw [cap8]; exact byteAt_lt _ _) (by rw [cap8]; exact pow7_lt _)] at h10
      rw [dT2 (by omega) (by omega), dT (by rw [bytesV_length]; omega), dT (by rw [List.length_set, bytesV_length]; omega), set_ints, cond_true]
      intro x11 h11
      rw [h11, flip_out s h10]
      exact hk
    · exact hk.elim)
end Go.Am.Clt
