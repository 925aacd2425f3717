/-
  Cltu: the parts of a unit: plain mathematics. Own work.
-/
import Derived.Test.YtoeepogoogcbiaaDoorCltBA
import Derived.Test.YtoeepogoogcbiaaDoorCltAT
namespace Go.Am.Clt
open Go Go.Am Go.Am.Lib Go.Lib Go.Proofs Go.RowKit
set_option maxRecDepth 100000

def flatB : Nat → ByteArray → List UInt8
  | 0, _ => []
  | f + 1, t => (blkR (t.extract 0 7)).data.toList ++ flatB f (t.extract 7 t.size)
theorem runB_flat : ∀ (f n : Nat) (t : ByteArray) (acc : List UInt8), t.size = 7 * f → f < n → runB n t acc = acc ++ flatB f t
  | 0, n + 1, t, acc, h, _ => by rw [runB, if_pos (by omega), flatB, List.append_nil]
  | f + 1, n + 1, t, acc, h, hn => by
    rw [runB, if_neg (by omega), runB_flat f n _ _ (by rw [ByteArray.size_extract]; omega) (by omega), flatB, List.append_assoc]
theorem flat_len : ∀ (f : Nat) (t : ByteArray), t.size = 7 * f → (flatB f t).length = 8 * f
  | 0, _, _ => rfl
  | f + 1, t, h => by
    rw [flatB, List.length_append, size_list, blk_size (by rw [ByteArray.size_extract]; omega), flat_len f _ (by rw [ByteArray.size_extract]; omega)]; omega
theorem cut_cut (t : ByteArray) (j : Nat) (hj : 7 * (j + 1) + 7 ≤ t.size) : (t.extract 7 t.size).extract (7 * j) (7 * j + 7) = t.extract (7 * (j + 1)) (7 * (j + 1) + 7) := by
  have hs : (t.extract 7 t.size).size = t.size - 7 := by rw [ByteArray.size_extract]; omega
  apply bytes_eq
  · simp only [ByteArray.size_extract]; omega
  · intro i hi
    rw [ByteArray.size_extract, hs] at hi
    rw [byteAt_cut, if_pos (by omega), byteAt_cut, if_pos (by omega), byteAt_cut, if_pos (by omega)]
    congr 1; omega
theorem flat_cut : ∀ (j f : Nat) (t : ByteArray), t.size = 7 * f → j < f → ((flatB f t).drop (8 * j)).take 8 = (blkS (t.extract (7 * j) (7 * j + 7))).data.toList
  | 0, f + 1, t, h, _ => by
    have hq : (t.extract 0 7).size = 7 := by rw [ByteArray.size_extract]; omega
    have hb : (blkR (t.extract 0 7)).data.toList.length = 8 := by rw [size_list]; exact blk_size hq
    rw [flatB]
    show List.take 8 ((blkR (t.extract 0 7)).data.toList ++ _) = _
    rw [List.take_append_of_le_length (by omega), List.take_of_length_le (by omega), blkR_7 hq]
  | j + 1, f + 1, t, h, hj => by
    have hq : (t.extract 0 7).size = 7 := by rw [ByteArray.size_extract]; omega
    have hb : (blkR (t.extract 0 7)).data.toList.length = 8 := by rw [size_list]; exact blk_size hq
    rw [flatB, List.drop_append, List.drop_of_length_le (by omega), List.nil_append, hb, show 8 * (j + 1) - 8 = 8 * j by omega, flat_cut j f _ (by rw [ByteArray.size_extract]; omega) (by omega), cut_cut t j (by omega)]
structure UnitOf (P U : ByteArray) (m : Nat) : Prop where
  pos : 0 < m
  le : m ≤ 50
  psize : P.size = 7 * m
  size : U.size = 8 * m + 10
  start : U.extract 0 2 = startB
  blk : ∀ j, j < m → U.extract (8 * j + 2) (8 * j + 10) = blkS (P.extract (7 * j) (7 * j + 7))
  tail : U.extract (8 * m + 2) U.size = tailB
theorem ext_list (l : List UInt8) (a b : Nat) : ((⟨l.toArray⟩ : ByteArray).extract a b).data.toList = (l.drop a).take (b - a) := by
  rw [ByteArray.data_extract, Array.toList_extract, List.extract_eq_take_drop]
theorem padS_size (s : ByteArray) : (padS s).size = s.size + padN s.size := by
  unfold padS
  rw [ByteArray.size_append]
  congr 1
  show (Lib.repeatL [85] (padN s.size)).toArray.size = _
  rw [List.size_toArray, rep_len]
theorem unit_of {s : ByteArray} (h0 : 0 < s.size) (h1 : s.size ≤ 350) : ∃ m, UnitOf (padS s) ⟨(putL s).toArray⟩ m := by
  have hp := padS_size s
  have hpn : padN s.size < 7 ∧ (s.size + padN s.size) % 7 = 0 := by unfold padN; omega
  obtain ⟨m, hm⟩ : ∃ m, s.size + padN s.size = 7 * m := ⟨(s.size + padN s.size) / 7, by omega⟩
  have hP : (padS s).size = 7 * m := by omega
  have hm50 : m ≤ 50 := by omega
  have hL : putL s = [235, 144] ++ flatB m (padS s) ++ [0, 0, 0, 0, 0, 0, 0, 248] := by
    unfold putL; rw [runB_flat m 60 (padS s) [235, 144] hP (by omega)]
  have hf := flat_len m (padS s) hP
  have hlen : (putL s).length = 8 * m + 10 := by rw [hL, List.length_append, List.length_append, hf]; simp; omega
  have hU : (⟨(putL s).toArray⟩ : ByteArray).size = 8 * m + 10 := by show (putL s).toArray.size = _; rw [List.size_toArray]; exact hlen
  refine ⟨m, { pos := by omega, le := hm50, psize := hP, size := hU, start := ?_, blk := ?_, tail := ?_ }⟩
  · apply bytes_ext
    rw [ext_list, hL, List.append_assoc]
    rfl
  · intro j hj
    apply bytes_ext
    rw [ext_list, ← flat_cut j m (padS s) hP hj, hL, List.append_assoc, show 8 * j + 10 - (8 * j + 2) = 8 by omega, List.drop_append, List.drop_of_length_le (by show 2 ≤ 8 * j + 2; omega), List.nil_append, show 8 * j + 2 - ([235, 144] : List UInt8).length = 8 * j from by show 8 * j + 2 - 2 = 8 * j; omega, List.drop_append_of_le_length (by omega), List.take_append_of_le_length (by rw [List.length_drop]; omega)]
  · apply bytes_ext
    rw [ext_list, hU, hL, show 8 * m + 10 - (8 * m + 2) = 8 by omega, show 8 * m + 2 = ([235, 144] ++ flatB m (padS s)).length from by rw [List.length_append, hf]; simp; omega, List.drop_left]
    rfl
end Go.Am.Clt
