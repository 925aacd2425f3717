/-
  Joiner: the packets of a message, one after the other. Own work; plain mathematics.
-/
import Derived.Test.YtbpfhjmiaaaoiaaJoiI
namespace Go.Am.Joi
open Go Go.Am Go.Am.Lib Go.Proofs
open Go.Am.Pkt (manyP flP)
set_option maxRecDepth 100000

/-- What is known before packet i of a message. -/
def kM (n m : Nat) (s : ByteArray) : Nat → Option Kn
  | 0 => none
  | i + 1 => some ⟨(n + (i + 1)) % 16384, true, s.data.toList.take ((i + 1) * m)⟩
theorem many_lo {s : ByteArray} {m : Nat} (m0 : 1 ≤ m) {i : Nat} (hi : i < manyP s m) : i * m < s.size := by
  unfold manyP at hi
  have h1 : (i + 1) * m ≤ s.size + m - 1 := by
    have := Nat.div_mul_le_self (s.size + m - 1) m
    exact Nat.le_trans (Nat.mul_le_mul_right m hi) this
  rw [Nat.succ_mul] at h1
  omega
theorem many_hi {s : ByteArray} {m : Nat} (m0 : 1 ≤ m) : s.size ≤ manyP s m * m := by
  unfold manyP
  have h1 := Nat.div_add_mod (s.size + m - 1) m
  have h2 := Nat.mod_lt (s.size + m - 1) m0
  rw [Nat.mul_comm] at h1
  omega
theorem part_list (s : ByteArray) (m i : Nat) : (Pkt.part s m i).data.toList = (s.data.toList.drop (i * m)).take m := by
  unfold Pkt.part
  rw [Pkt.ext_list]
  rcases Nat.le_total (i * m + m) s.size with h | h
  · rw [Nat.min_eq_left h, Nat.add_sub_cancel_left]
  · rw [Nat.min_eq_right h, List.take_of_length_le, List.take_of_length_le]
    · rw [List.length_drop, size_list]; omega
    · rw [List.length_drop, size_list]; omega
theorem part_size (s : ByteArray) (m i : Nat) : (Pkt.part s m i).size = min m (s.size - i * m) := by
  rw [← size_list, part_list, List.length_take, List.length_drop, size_list]
theorem text_snoc (s : ByteArray) (m i : Nat) : s.data.toList.take (i * m) ++ (Pkt.part s m i).data.toList = s.data.toList.take ((i + 1) * m) := by
  rw [part_list, Nat.succ_mul, List.take_add]
theorem flP_le (L i : Nat) : flP L i ≤ 3 := by unfold flP; split <;> split <;> omega
variable {n m : Nat} {s : ByteArray} (m0 : 1 ≤ m) (m1 : m ≤ 1024) (s1 : s.size ≤ 16384) {i : Nat} (hi : i < manyP s m)
include m0 m1 hi
theorem pk_valid {a : Nat} (ha : a < 2047) : Pkt.validB ((a : Nat) : Int) ((flP (manyP s m) i : Nat) : Int) (((n + i) % 16384 : Nat) : Int) (Pkt.part s m i) = true := by
  have h1 := many_lo m0 hi
  have h2 := part_size s m i
  have h3 := flP_le (manyP s m) i
  have h4 : (n + i) % 16384 < 16384 := Nat.mod_lt _ (by decide)
  exact Pkt.validB_iff.2 ⟨by omega, by omega, by omega, by omega, by omega, by omega, by omega, by omega⟩
include s1
omit m1 in
theorem pk_step : (i + 1 < manyP s m → ansK (kM n m s i) (flP (manyP s m) i) ((n + i) % 16384) (Pkt.part s m i) = ⟨false, ⟨#[]⟩, 0, false⟩ ∧ some (newK (kM n m s i) (flP (manyP s m) i) ((n + i) % 16384) (Pkt.part s m i)) = kM n m s (i + 1)) ∧
    (i + 1 = manyP s m → ansK (kM n m s i) (flP (manyP s m) i) ((n + i) % 16384) (Pkt.part s m i) = ⟨true, s, 0, false⟩) := by
  obtain ⟨L, hL⟩ : ∃ L, manyP s m = L := ⟨_, rfl⟩
  have hlo := many_lo m0 hi
  have hhi := many_hi (s := s) m0
  have hps := part_size s m i
  have htx := text_snoc s m i
  rw [hL] at hi hhi ⊢
  cases i with
  | zero =>
    have hp0 : (Pkt.part s m 0).data.toList = s.data.toList.take m := by rw [part_list, Nat.zero_mul, List.drop_zero]
    constructor
    · intro h
      have hf : flP L 0 = 1 := by unfold flP; rw [if_pos rfl, if_neg (by omega)]
      rw [hf]
      refine ⟨rfl, ?_⟩
      show some (⟨((n + 0) % 16384 + 1) % 16384, true, (Pkt.part s m 0).data.toList⟩ : Kn) = some ⟨(n + (0 + 1)) % 16384, true, s.data.toList.take ((0 + 1) * m)⟩
      rw [hp0, show (0 + 1) * m = m by omega, show ((n + 0) % 16384 + 1) % 16384 = (n + (0 + 1)) % 16384 by omega]
    · intro h
      have hf : flP L 0 = 3 := by unfold flP; rw [if_pos rfl, if_pos h]
      rw [hf]
      show (⟨true, Pkt.part s m 0, 0, false⟩ : An) = _
      have : Pkt.part s m 0 = s := Pkt.ba_ext (by rw [hp0, List.take_of_length_le (by rw [size_list]; rw [← h] at hhi; omega)])
      rw [this]
  | succ i =>
    have hne : ¬ (i + 1 = 0) := by omega
    have hmi : missK (kM n m s (i + 1)) ((n + (i + 1)) % 16384) = 0 := by
      show ((n + (i + 1)) % 16384 + (16384 - (n + (i + 1)) % 16384)) % 16384 = 0
      omega
    have htl : (txtK (kM n m s (i + 1))).length = (i + 1) * m := by
      show (s.data.toList.take ((i + 1) * m)).length = _
      rw [List.length_take, size_list]; omega
    have hfit : (txtK (kM n m s (i + 1))).length + (Pkt.part s m (i + 1)).size ≤ 16384 := by rw [htl, hps]; omega
    constructor
    · intro h
      have hf : flP L (i + 1) = 0 := by unfold flP; rw [if_neg hne, if_neg (by omega)]
      have hb : brkK (kM n m s (i + 1)) 0 ((n + (i + 1)) % 16384) = false := by unfold brkK; rw [hmi]; rfl
      have hs : stayK (kM n m s (i + 1)) 0 ((n + (i + 1)) % 16384) = true := by unfold stayK; rw [hb]; rfl
      rw [hf]
      refine ⟨?_, ?_⟩
      · unfold ansK
        rw [if_neg (by decide), if_neg (by decide), if_pos hs, if_pos hfit, if_neg (by decide), hmi]; rfl
      · unfold newK
        rw [if_neg (by decide), if_pos ⟨rfl, hs, hfit⟩]
        show some (⟨((n + (i + 1)) % 16384 + 1) % 16384, true, s.data.toList.take ((i + 1) * m) ++ (Pkt.part s m (i + 1)).data.toList⟩ : Kn) = some ⟨(n + (i + 1 + 1)) % 16384, true, s.data.toList.take ((i + 1 + 1) * m)⟩
        rw [htx, show ((n + (i + 1)) % 16384 + 1) % 16384 = (n + (i + 1 + 1)) % 16384 by omega]
    · intro h
      have hf : flP L (i + 1) = 2 := by unfold flP; rw [if_neg hne, if_pos h]
      have hb : brkK (kM n m s (i + 1)) 2 ((n + (i + 1)) % 16384) = false := by unfold brkK; rw [hmi]; rfl
      have hs : stayK (kM n m s (i + 1)) 2 ((n + (i + 1)) % 16384) = true := by unfold stayK; rw [hb]; rfl
      rw [hf]
      unfold ansK
      rw [if_neg (by decide), if_neg (by decide), if_pos hs, if_pos hfit, if_pos rfl, hmi]
      have : (⟨⟨txtK (kM n m s (i + 1))⟩⟩ : ByteArray) ++ Pkt.part s m (i + 1) = s := Pkt.ba_ext (by
        rw [ByteArray.data_append, Array.toList_append]
        show s.data.toList.take ((i + 1) * m) ++ (Pkt.part s m (i + 1)).data.toList = _
        rw [htx, List.take_of_length_le (by rw [size_list]; rw [← h] at hhi; exact hhi)])
      rw [this]
end Go.Am.Joi
