/-
  Packet: Split of the reference: its loop. Own work.
-/
import Derived.Test.YtbpfhjmiaaaoiaaPktI
namespace Go.Am.Pkt
open Go Go.Am Go.Proofs
set_option maxRecDepth 100000

theorem fl_last {s : ByteArray} {m j : Nat} (hm : 1 ≤ m) (h1 : j * m < s.size) : (j + 1 = manyP s m) ↔ s.size ≤ j * m + m := by
  constructor
  · intro h
    have hd : manyP s m * m ≤ s.size + m - 1 := Nat.div_mul_le_self _ _
    by_cases c : s.size ≤ j * m + m
    · exact c
    · have h2 : (s.size + m - 1) / m < manyP s m + 1 := Nat.lt_succ_self _
      rw [Nat.div_lt_iff_lt_mul (by omega), ← h, Nat.succ_mul, Nat.succ_mul] at h2
      omega
  · intro h
    exact (many_eq hm h1 (by rw [Nat.succ_mul]; exact h)).symm
theorem part_eq (s : ByteArray) (m j : Nat) : s.extract (j * m) (min (j * m + m) s.size) = part s m j := rfl
theorem loopRSplit : ∀ e h k, TRSpl e h k → ∃ m, loopN cRSplit (codeOf Try.f24) 0 7 m e h k := by
  intro e h k hT
  unfold TRSpl at hT
  split at hT
  · rename_i c a n s m
    obtain ⟨a0, n0, n1, m0, m1, s0, s1, hk⟩ := hT
    obtain ⟨a, rfl⟩ := nat_of a0
    obtain ⟨n, rfl⟩ := nat_of n0
    obtain ⟨m, rfl⟩ := nat_of (show (0 : Int) ≤ m by omega)
    simp only [Int.toNat_natCast] at hk
    have cnt : ∀ {j : Nat} {x3 x4 x5 : Int}, j < 16384 → x3 = ((j : Nat) : Int) → x4 = iAdd .i64 ((n : Nat) : Int) x3 → x5 = Int.tmod x4 16384 → x5 = (((n + j) % 16384 : Nat) : Int) := by
      intro j x3 x4 x5 hj h3 h4 h5
      rw [h3, iAdd_cast .i64 (by rw [cap64]; omega)] at h4
      rw [h5, h4, show (16384 : Int) = ((16384 : Nat) : Int) from rfl, tmod_cast]
    have adv : ∀ {j : Nat} {x : Int}, j * m < s.size → x = iAdd .i64 ((j * m : Nat) : Int) ((m : Nat) : Int) → x = ((j * m + m : Nat) : Int) := by
      intro j x hj h
      rw [h, iAdd_cast .i64 (by rw [cap64]; omega)]
    have mn : ∀ {j : Nat} {x5 x6 x7 : Int}, x5 = ((j * m + m : Nat) : Int) → x6 = ((s.size : Nat) : Int) → x7 = (if x6 < x5 then x6 else x5) → x7 = ((min (j * m + m) s.size : Nat) : Int) := by
      intro j x5 x6 x7 h5 h6 h7
      rw [h7, h5, h6]
      split <;> omega
    have ex : ∀ (j : Nat) (mv : Bool), 0 < j → (j - 1) * m < s.size → s.size ≤ j * m → k (.exit 0) [(12, outV j)] [.cells true (rowsP c a n s m (flP (manyP s m)) j) 23 mv] := by
      intro j mv hj h1 hd
      have := many_eq (j := j - 1) (by omega) h1 (by rw [Nat.sub_add_cancel hj]; exact hd)
      rw [Nat.sub_add_cancel hj] at this
      have hk := hk mv
      rw [this] at hk
      rw [this]
      exact hk
    have key : ∀ (q j : Nat) (mv : Bool), 0 < j → (j - 1) * m < s.size → s.size ≤ (j + q) * m →
        loopN cRSplit (codeOf Try.f24) 0 7 (q + 1) [(0, .bool c), (1, .int .i64 ((a : Nat) : Int)), (2, .int .i64 ((n : Nat) : Int)), (3, .string s), (4, .int .i64 ((m : Nat) : Int)), (12, outV j), (13, .int .i64 ((j * m : Nat) : Int))] [.cells true (rowsP c a n s m (flP (manyP s m)) j) 23 mv] k := by
      intro q
      induction q with
      | zero =>
        intro j mv hj h1 h2
        rw [loopN_succ]
        show tRSplS c _ _ s _ _ j _ mv _
        rw [tRSplS_eq]
        rintro x1 rfl
        have h2 : s.size ≤ j * m := by simpa using h2
        rw [dF (by omega)]
        exact ex j mv hj h1 h2
      | succ q ih =>
        intro j mv hj h1 h2
        rw [loopN_succ]
        show tRSplS c _ _ s _ _ j _ mv _
        rw [tRSplS_eq]
        rintro x1 rfl
        by_cases hd : s.size ≤ j * m
        · rw [dF (by omega)]
          exact ex j mv hj h1 hd
        · rw [dT (by omega)]
          have hjl : j < 16384 := j_le (m := m) (by omega) (by omega) s1
          have hj1 : 1 * m ≤ j * m := Nat.mul_le_mul_right _ hj
          rintro x2 e2 x3 e3 x4 e4 x5 e5 x6 e6 x7 e7
          have e4 := cnt hjl e2 e3 e4
          have e5 := adv (by omega) e5
          have e7 := mn e5 e6 e7
          have q1 := Nat.min_le_right (j * m + m) s.size
          have q2 : j * m ≤ min (j * m + m) s.size := by omega
          rw [decide_eq_true (show (0 : Int) ≤ ((j * m : Nat) : Int) by omega), Bool.true_and, dT2 (by omega) (by omega)]
          rintro x8 e8
          rw [e7, Int.toNat_natCast, Int.toNat_natCast, part_eq] at e8
          rw [dF (by omega)]
          rintro x9 e9 x10 e10
          have e9 := adv (by omega) e9
          have hn := ih (j + 1) true (by omega) (by rw [Nat.add_sub_cancel]; omega) (by rw [show j + 1 + q = j + (q + 1) by omega]; exact h2)
          rw [Nat.succ_mul j m] at hn
          have eL : ∀ f : Int, f = ((flP (manyP s m) j : Nat) : Int) → List.append (List.take (j * 5) (List.drop 0 (rowsP c a n s m (flP (manyP s m)) j))) [.bool c, .int .i64 ((a : Nat) : Int), .int .i64 f, .int .i64 (((n + j) % 16384 : Nat) : Int), .string (part s m j)] = rowsP c a n s m (flP (manyP s m)) (j + 1) := by
            intro f hf
            rw [List.drop_zero, List.take_of_length_le (by rw [rows_len]; omega), hf]
            rfl
          have hlast := fl_last (s := s) (m := m) (j := j) (by omega) (by omega)
          by_cases hl : s.size ≤ j * m + m
          · rw [dT (by omega)]
            rintro x12 e12
            rw [rows_len, dT2 (by omega) (by omega)]
            rintro x13 e13
            have e13 := adv (by omega) e13
            rw [e4, e8, e13, eL x12 (by rw [e12]; unfold flP; rw [if_neg (by omega), if_pos (hlast.2 hl)]; rfl)]
            show loopN cRSplit (codeOf Try.f24) 0 7 (q + 1) _ _ k
            rw [loopN_succ] at hn ⊢
            change tRSplS c _ _ s _ _ (j + 1) _ true _ at hn
            show tRSplS c _ _ s _ _ (j + 1) _ true _
            exact hn
          · rw [dF (by omega), rows_len, dT2 (by omega) (by omega)]
            rintro x11 e11
            have e11 := adv (by omega) e11
            rw [e4, e8, e11, eL 0 (by unfold flP; rw [if_neg (by omega), if_neg (fun z => hl (hlast.1 z))]; rfl)]
            show loopN cRSplit (codeOf Try.f24) 0 7 (q + 1) _ _ k
            rw [loopN_succ] at hn ⊢
            change tRSplS c _ _ s _ _ (j + 1) _ true _ at hn
            show tRSplS c _ _ s _ _ (j + 1) _ true _
            exact hn
    refine ⟨s.size + 2, ?_⟩
    rw [loopN_succ]
    show tRSplN c _ _ s _ 0 _
    rw [tRSplN_eq]
    rintro x1 rfl
    rw [dT (by omega)]
    rintro x2 e2 x3 e3 x4 e4 x5 e5 x6 e6 x7 e7
    have z : (0 : Int) = ((0 * m : Nat) : Int) := by rw [Nat.zero_mul]; rfl
    have e4 := cnt (j := 0) (by omega) (by simpa using e2) e3 e4
    have e5 := adv (j := 0) (x := x5) (by omega) (by rw [← z]; exact e5)
    have e7 := mn e5 e6 e7
    rw [Nat.zero_mul, Nat.zero_add] at e7 e5
    rw [decide_eq_true (show (0 : Int) ≤ 0 by omega), Bool.true_and, dT2 (by omega) (by omega)]
    rintro x8 e8
    have p8 := part_eq s m 0
    rw [Nat.zero_mul, Nat.zero_add] at p8
    rw [e7, Int.toNat_natCast] at e8
    have e8 : x8 = part s m 0 := by rw [← p8]; exact e8
    rw [dT rfl]
    rintro x14 e14 x15 e15 x16 e16
    have e15 := adv (j := 0) (x := x15) (by omega) (by rw [← z]; exact e15)
    rw [Nat.zero_mul, Nat.zero_add] at e15
    have hlast := fl_last (s := s) (m := m) (j := 0) (by omega) (by omega)
    simp only [Nat.zero_mul, Nat.zero_add] at hlast
    have hmul : 1 * s.size ≤ m * s.size := Nat.mul_le_mul_right _ (by omega)
    have hn := key s.size 1 false (by omega) (by rw [Nat.sub_self, Nat.zero_mul]; omega) (by rw [Nat.add_mul, Nat.mul_comm s.size m]; omega)
    rw [Nat.one_mul] at hn
    have eL : ∀ f : Int, f = ((flP (manyP s m) 0 : Nat) : Int) → [.bool c, .int .i64 ((a : Nat) : Int), .int .i64 f, .int .i64 (((n + 0) % 16384 : Nat) : Int), .string (part s m 0)] = rowsP c a n s m (flP (manyP s m)) 1 := by
      intro f hf
      rw [hf]
      rfl
    by_cases hl : s.size ≤ m
    · rw [dT (by omega)]
      rintro x18 e18 x19 e19
      have e19 := adv (j := 0) (x := x19) (by omega) (by rw [← z]; exact e19)
      rw [Nat.zero_mul, Nat.zero_add] at e19
      have hf : x18 = ((flP (manyP s m) 0 : Nat) : Int) := by
        rw [e18, e14]; unfold flP; rw [if_pos rfl, if_pos (hlast.2 hl)]; rfl
      rw [e4, e8, e19, eL x18 hf]
      show loopN cRSplit (codeOf Try.f24) 0 7 (s.size + 1) _ _ k
      rw [loopN_succ] at hn ⊢
      change tRSplS c _ _ s _ _ 1 _ false _ at hn
      show tRSplS c _ _ s _ _ 1 _ false _
      exact hn
    · rw [dF (by omega)]
      rintro x17 e17
      have e17 := adv (j := 0) (x := x17) (by omega) (by rw [← z]; exact e17)
      rw [Nat.zero_mul, Nat.zero_add] at e17
      have hf : x14 = ((flP (manyP s m) 0 : Nat) : Int) := by
        rw [e14]; unfold flP; rw [if_pos rfl, if_neg (fun y => hl (hlast.1 y))]; rfl
      rw [e4, e8, e17, eL x14 hf]
      show loopN cRSplit (codeOf Try.f24) 0 7 (s.size + 1) _ _ k
      rw [loopN_succ] at hn ⊢
      change tRSplS c _ _ s _ _ 1 _ false _ at hn
      show tRSplS c _ _ s _ _ 1 _ false _
      exact hn
  · exact hT.elim
end Go.Am.Pkt
