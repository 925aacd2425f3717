/-
  Packet: Split, Idle: the summaries. Own work.
-/
import Derived.Test.YtbpfhjmiaaaoiaaPktH
import Derived.Test.YtbpfhjmiaaaoiaaPktG2
namespace Go.Am.Pkt
open Go Go.Am Go.Proofs
set_option maxRecDepth 100000

/-! ### plain facts -/
theorem row_len (c : Bool) (a n : Nat) (s : ByteArray) (m : Nat) (fl : Nat → Nat) (i : Nat) : (rowP c a n s m fl i).length = 5 := rfl
theorem rows_len (c : Bool) (a n : Nat) (s : ByteArray) (m : Nat) (fl : Nat → Nat) : ∀ k, (rowsP c a n s m fl k).length = 5 * k
  | 0 => rfl
  | k + 1 => by rw [rowsP, List.length_append, rows_len c a n s m fl k, row_len]; omega
theorem suf_list (s : ByteArray) (i : Nat) : (s.extract i s.size).data.toList = s.data.toList.drop i := by
  rw [ext_list, List.take_of_length_le (by rw [List.length_drop, ← ba_size]; omega)]
theorem suf_size (s : ByteArray) (i : Nat) : (s.extract i s.size).size = s.size - i := by rw [ba_size, suf_list, List.length_drop, ← ba_size]
theorem suf_zero (s : ByteArray) : s.extract 0 s.size = s := ba_ext (by rw [suf_list, List.drop_zero])
theorem suf_part (s : ByteArray) (m j : Nat) : (s.extract (j * m) s.size).extract 0 (min m (s.size - j * m)) = part s m j := by
  apply ba_ext
  unfold part
  rw [ext_list, suf_list, ext_list, List.drop_zero, Nat.sub_zero]
  by_cases h : j * m + m ≤ s.size
  · rw [Nat.min_eq_left (by omega), Nat.min_eq_left h]; congr 1; omega
  · rw [Nat.min_eq_right (by omega), Nat.min_eq_right (by omega)]
theorem suf_next (s : ByteArray) (m j : Nat) : (s.extract (j * m) s.size).extract (min m (s.size - j * m)) (s.size - j * m) = s.extract ((j + 1) * m) s.size := by
  apply ba_ext
  rw [ext_list, suf_list, suf_list, List.drop_drop, Nat.succ_mul]
  by_cases h : j * m + m ≤ s.size
  · rw [Nat.min_eq_left (by omega), List.take_of_length_le (by rw [List.length_drop, ← ba_size]; omega)]
  · rw [Nat.min_eq_right (by omega), Nat.sub_self, List.take_zero, List.drop_eq_nil_of_le (by rw [← ba_size]; omega)]
theorem suf_empty {s : ByteArray} {i : Nat} : strEq (s.extract i s.size) ⟨⟨[]⟩⟩ = decide (s.size ≤ i) := by
  by_cases h : s.size ≤ i
  · rw [decide_eq_true h, strEq_iff]
    exact size_zero (by rw [suf_size]; omega)
  · rw [decide_eq_false h]
    refine strEq_ne fun e => ?_
    have := suf_size s i
    rw [e] at this
    have h0 : (⟨⟨[]⟩⟩ : ByteArray).size = 0 := rfl
    omega
theorem many_eq {s : ByteArray} {m j : Nat} (hm : 1 ≤ m) (h1 : j * m < s.size) (h2 : s.size ≤ (j + 1) * m) : manyP s m = j + 1 := by
  unfold manyP
  rw [Nat.succ_mul] at h2
  refine Nat.div_eq_of_lt_le ?_ ?_ <;> simp only [Nat.succ_mul] <;> omega
theorem part_small {s x : ByteArray} {m j : Nat} (h : x = part s m j) (hs : s.size ≤ 16384) : x.size ≤ 140737488355328 := by
  rw [h]; unfold part; rw [ByteArray.size_extract]
  have := Nat.min_le_right (j * m + m) s.size
  omega
theorem and14 {x : Nat} (hx : x < 65536) : iAnd .i64 ((x : Nat) : Int) 16383 = ((x % 16384 : Nat) : Int) := and_mod (x := x) 14 hx (by omega)
theorem j_le {j m : Nat} {s : ByteArray} (hm : 1 ≤ m) (h : j * m < s.size) (hs : s.size ≤ 16384) : j < 16384 := by
  have : j * 1 ≤ j * m := Nat.mul_le_mul_left _ hm
  omega

/-! ### the loop of the program -/
theorem loopSplit : ∀ e h k, TSpl e h k → ∃ m, loopN cSplit (codeOf Try.f20) 0 6 m e h k := by
  intro e h k hT
  unfold TSpl at hT
  split at hT
  · rename_i c a n s m
    obtain ⟨a0, n0, n1, m0, m1, s0, s1, hk⟩ := hT
    obtain ⟨a, rfl⟩ := nat_of a0
    obtain ⟨n, rfl⟩ := nat_of n0
    obtain ⟨m, rfl⟩ := nat_of (show (0 : Int) ≤ m by omega)
    simp only [Int.toNat_natCast] at hk
    have num : ∀ {j : Nat} {x1 x2 : Int}, j * m < s.size → x1 = (((s.extract (j * m) s.size).size : Nat) : Int) → x2 = (if x1 < ((m : Nat) : Int) then x1 else ((m : Nat) : Int)) → x2 = ((min m (s.size - j * m) : Nat) : Int) := by
      intro j x1 x2 hj h1 h2
      rw [suf_size] at h1
      rw [h2, h1]
      split <;> omega
    have cnt : ∀ {j : Nat} {x3 x4 x5 : Int}, j < 16384 → x3 = ((j : Nat) : Int) → x4 = iAdd .i64 ((n : Nat) : Int) x3 → x5 = iAnd .i64 x4 16383 → x5 = (((n + j) % 16384 : Nat) : Int) := by
      intro j x3 x4 x5 hj h3 h4 h5
      rw [h3, iAdd_cast .i64 (by rw [cap64]; omega)] at h4
      rw [h5, h4, and14 (by omega)]
    have key : ∀ (q j : Nat) (mv : Bool), 0 < j → (j - 1) * m < s.size → s.size ≤ (j + q) * m →
        loopN cSplit (codeOf Try.f20) 0 6 (q + 1) [(0, .bool c), (1, .int .i64 ((a : Nat) : Int)), (2, .int .i64 ((n : Nat) : Int)), (3, .string (s.extract (j * m) s.size)), (4, .int .i64 ((m : Nat) : Int)), (12, outV j)] [.cells true (rowsP c a n s m fl0 j) 23 mv] k := by
      intro q
      induction q with
      | zero =>
        intro j mv hj h1 h2
        rw [loopN_succ]
        show tSplS c _ _ _ _ j _ mv _
        rw [tSplS_eq, suf_empty, dnT (by simpa using h2)]
        show k (.exit 0) [(12, outV j)] [.cells true (rowsP c a n s m fl0 j) 23 mv]
        have := many_eq (j := j - 1) (by omega) h1 (by rw [Nat.sub_add_cancel hj]; simpa using h2)
        rw [Nat.sub_add_cancel hj] at this
        have hk := hk mv
        rw [this] at hk
        exact hk
      | succ q ih =>
        intro j mv hj h1 h2
        rw [loopN_succ]
        show tSplS c _ _ _ _ j _ mv _
        rw [tSplS_eq, suf_empty]
        by_cases hd : s.size ≤ j * m
        · rw [dnT hd]
          show k (.exit 0) [(12, outV j)] [.cells true (rowsP c a n s m fl0 j) 23 mv]
          have := many_eq (j := j - 1) (by omega) h1 (by rw [Nat.sub_add_cancel hj]; exact hd)
          rw [Nat.sub_add_cancel hj] at this
          have hk := hk mv
          rw [this] at hk
          exact hk
        · rw [dnF hd]
          have hjl : j < 16384 := j_le (m := m) (by omega) (by omega) s1
          rintro x1 e1 x2 e2 x3 e3 x4 e4 x5 e5
          have e2 := num (by omega) e1 e2
          have e5 := cnt hjl e3 e4 e5
          rw [suf_size, dT2 (by omega) (by omega)]
          rintro x6 e6
          rw [e2, Int.toNat_natCast, suf_part] at e6
          refine ⟨part_small e6 s1, ?_⟩
          rintro x7 e7
          rw [rows_len, dT2 (by omega) (by omega), dT2 (by omega) (by omega)]
          rintro x8 e8
          rw [e2, Int.toNat_natCast, suf_next] at e8
          rw [e7, e6, e8, e5]
          have eL : List.append (List.take (j * 5) (List.drop 0 (rowsP c a n s m fl0 j))) [.bool c, .int .i64 ((a : Nat) : Int), .int .i64 0, .int .i64 (((n + j) % 16384 : Nat) : Int), .string (part s m j)] = rowsP c a n s m fl0 (j + 1) := by
            rw [List.drop_zero, List.take_of_length_le (by rw [rows_len]; omega)]
            rfl
          have := ih (j + 1) true (by omega) (by rw [Nat.add_sub_cancel]; omega) (by rw [show j + 1 + q = j + (q + 1) by omega]; exact h2)
          rw [loopN_succ] at this
          show loopN cSplit (codeOf Try.f20) 0 6 (q + 1) _ _ k
          rw [eL, loopN_succ]
          change tSplS c _ _ _ _ (j + 1) _ true _ at this
          show tSplS c _ _ _ _ (j + 1) _ true _
          exact this
    refine ⟨s.size + 2, ?_⟩
    rw [loopN_succ]
    show tSplN c _ _ _ _ _
    rw [tSplN_eq]
    have hne : strEq s ⟨⟨[]⟩⟩ = false := by
      have := suf_empty (s := s) (i := 0)
      rw [suf_zero, decide_eq_false (by omega)] at this
      exact this
    rw [hne, Bool.not_false, cond_true]
    rintro x1 e1 x2 e2 x3 e3 x4 e4 x5 e5
    have e2 := num (j := 0) (by omega) (by rw [Nat.zero_mul, suf_zero]; exact e1) e2
    have e5 := cnt (j := 0) (by omega) (by simpa using e3) e4 e5
    rw [Nat.zero_mul, Nat.sub_zero] at e2
    rw [dT2 (by omega) (by omega)]
    rintro x6 e6
    have p6 := suf_part s m 0
    rw [Nat.zero_mul, Nat.sub_zero, suf_zero] at p6
    rw [e2, Int.toNat_natCast, p6] at e6
    refine ⟨part_small e6 s1, ?_⟩
    rintro x7 e7
    rw [dT2 (by omega) (by omega)]
    rintro x8 e8
    have p8 := suf_next s m 0
    rw [Nat.zero_mul, Nat.sub_zero, suf_zero] at p8
    rw [e2, Int.toNat_natCast, p8] at e8
    rw [e7, e6, e8, e5]
    have hmul : 1 * s.size ≤ m * s.size := Nat.mul_le_mul_right _ (by omega)
    have := key s.size 1 false (by omega) (by rw [Nat.sub_self, Nat.zero_mul]; omega) (by rw [Nat.add_mul, Nat.mul_comm s.size m]; omega)
    rw [loopN_succ] at this
    show loopN cSplit (codeOf Try.f20) 0 6 (s.size + 1) _ _ k
    rw [loopN_succ]
    change tSplS c _ _ _ _ 1 _ false _ at this
    show tSplS c _ _ _ _ 1 _ false _
    exact this
  · exact hT.elim
end Go.Am.Pkt
