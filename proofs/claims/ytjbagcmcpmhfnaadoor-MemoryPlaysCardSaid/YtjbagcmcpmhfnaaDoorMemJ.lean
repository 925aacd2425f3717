/-
  Memory: WriteBytes proved, of the program and of the reference. Own work.
-/
import Derived.Test.YtjbagcmcpmhfnaaDoorMemI
namespace Go.Am.Mem
open Go Go.Am Go.Am.Ham Go.Proofs
set_option maxRecDepth 100000

theorem bytesV_length (s : ByteArray) : (bytesV s).length = s.size := by
  unfold bytesV; rw [List.length_map, Array.length_toList]; rfl
theorem bytesV_get (s : ByteArray) {j : Nat} (hj : j < s.size) : (bytesV s)[j]? = some (.int .u8 ((byteAt s j : Nat) : Int)) := by
  unfold bytesV byteAt
  have : j < s.data.toList.length := by rw [Array.length_toList]; exact hj
  rw [List.getElem?_map, List.getD_eq_getElem?_getD, List.getElem?_eq_getElem this]; rfl
theorem byteAt_lt (s : ByteArray) (j : Nat) : byteAt s j < 256 := by
  unfold byteAt; exact UInt8.toNat_lt _
theorem byteAt_out (s : ByteArray) {j : Nat} (hj : s.size ≤ j) : byteAt s j = 0 := by
  unfold byteAt
  rw [List.getD_eq_getElem?_getD, List.getElem?_eq_none (by rw [Array.length_toList]; exact hj)]; rfl
theorem byteAt_ext (s : ByteArray) {k : Nat} (j : Nat) : byteAt (s.extract k s.size) j = byteAt s (k + j) := by
  unfold byteAt
  rw [ByteArray.data_extract, List.getD_eq_getElem?_getD, List.getD_eq_getElem?_getD, Array.getElem?_toList, Array.getElem?_toList, Array.getElem?_extract]
  split
  · rfl
  · rename_i h
    rw [Array.getElem?_eq_none]
    have : s.data.size = s.size := rfl
    simp only [this] at h
    rw [this]; omega
theorem wordJ_ext (s : ByteArray) (k i : Nat) : ∀ j, wordJ (s.extract k s.size) i j = wordJ s (k + i) j
  | 0 => rfl
  | j + 1 => by rw [wordJ, wordJ, wordJ_ext s k i j, byteAt_ext, Nat.add_assoc]
theorem wordJ_lt (s : ByteArray) (i : Nat) : ∀ j, wordJ s i j < 256 ^ j
  | 0 => by show 0 < 1; omega
  | j + 1 => by
    have := wordJ_lt s i j
    have := byteAt_lt s (i + j)
    rw [wordJ, Nat.pow_succ]; omega
theorem wordB_lt (s : ByteArray) (i : Nat) : wordB s i < 2 ^ 32 := Nat.lt_of_lt_of_le (wordJ_lt s i 4) (by decide)
theorem wbM_ext (s : ByteArray) (k : Nat) : ∀ (c : Nat) (m : Mem) (a i : Nat), wbM c m a (s.extract k s.size) i = wbM c m a s (k + i)
  | 0, _, _, _ => rfl
  | c + 1, m, a, i => by
    rw [wbM, wbM, wbM_ext s k c, wordB, wordJ_ext, Nat.add_assoc]; rfl
theorem ok_wb (s : ByteArray) : ∀ (c : Nat) {m : Mem} (a i : Nat), OkM m → OkM (wbM c m a s i) ∧ (wbM c m a s i).n = m.n
  | 0, _, _, _, h => ⟨h, rfl⟩
  | c + 1, m, a, i, h => by
    obtain ⟨g, e⟩ := ok_wb s c (a + 1) (i + 4) (ok_store h (i := a) (enc39 (wordB s i)))
    exact ⟨g, e.trans (store_n _ _ _)⟩
theorem strEq_nil (s : ByteArray) : strEq s (ByteArray.mk (Array.mk [])) = decide (s.size = 0) := by
  unfold strEq
  show eqLB s.data.toList [] = _
  have : s.size = s.data.toList.length := by rw [Array.length_toList]; rfl
  rw [this]
  cases s.data.toList <;> rfl

/-- The four bytes that are copied. -/
theorem four_get (s : ByteArray) {j : Nat} (hj : j < 4) : (setCells [Value.int .u8 0, Value.int .u8 0, Value.int .u8 0, Value.int .u8 0] 0 ((bytesV s).take ((if s.size ≤ 4 then s.size else 4) * 1))).getD j undef = .int .u8 ((byteAt s j : Nat) : Int) := by
  have hl : ((bytesV s).take ((if s.size ≤ 4 then s.size else 4) * 1)).length = if s.size ≤ 4 then s.size else 4 := by
    rw [List.length_take, bytesV_length, Nat.mul_one]; split <;> omega
  rw [setCells_eq _ _ _ (by rw [hl]; show 0 + (if s.size ≤ 4 then s.size else 4) ≤ 4; split <;> omega), hl, List.take_zero, List.nil_append, Nat.zero_add, List.getD_eq_getElem?_getD]
  by_cases h : j < s.size
  · rw [List.getElem?_append_left (by rw [hl]; split <;> omega), List.getElem?_take_of_lt (by rw [Nat.mul_one]; split <;> omega), bytesV_get s h]; rfl
  · rw [List.getElem?_append_right (by rw [hl]; split <;> omega), hl, if_pos (by omega), byteAt_out s (by omega), List.getElem?_drop]
    have : s.size + (j - s.size) = j := by omega
    rw [this]
    rcases (by omega : j = 0 ∨ j = 1 ∨ j = 2 ∨ j = 3) with rfl | rfl | rfl | rfl <;> rfl
theorem four_len (s : ByteArray) : (setCells [Value.int .u8 0, Value.int .u8 0, Value.int .u8 0, Value.int .u8 0] 0 ((bytesV s).take ((if s.size ≤ 4 then s.size else 4) * 1))).length = 4 := by
  rw [setCells_length]; rfl

theorem wb_step (m : Mem) (a : Nat) (s : ByteArray) (h : 0 < s.size) (k : Nat) (hk : k = if s.size ≤ 4 then s.size else 4) :
    wbM (lenW s.size) m a s 0 = wbM (lenW (s.extract k s.size).size) (storeM m a (encN (wordB s 0))) (a + 1) (s.extract k s.size) 0 ∧ lenW s.size = lenW (s.extract k s.size).size + 1 := by
  have hs : (s.extract k s.size).size = s.size - k := by rw [ByteArray.size_extract]; omega
  have hl : lenW s.size = lenW (s.size - k) + 1 := by
    unfold lenW; split at hk <;> omega
  refine ⟨?_, by rw [hs]; exact hl⟩
  rw [hs, hl, wbM, wbM_ext]
  by_cases h4 : s.size ≤ 4
  · rw [if_pos h4] at hk
    have : lenW (s.size - k) = 0 := by unfold lenW; omega
    rw [this]; rfl
  · rw [if_neg h4] at hk
    rw [hk]
theorem loopWB : ∀ e h k, TWB e h k → ∃ m, loopN cWB (codeOf Tryd.f33) 0 4 m e h k := by
  intro e h k hT
  unfold TWB at hT
  split at hT
  · rename_i a s
    replace hT := asMem_elim hT
    obtain ⟨m, ty, ty2, mv, mv2, rfl, ho, a0, a1, hk⟩ := hT
    have key : ∀ (c a : Nat) (s : ByteArray) (m : Mem), OkM m → lenW s.size = c → a + c ≤ m.n → (∀ m', m' = wbM c m a s 0 → k (.exit 0) [] (memH m' ty ty2 mv mv2)) →
        loopN cWB (codeOf Tryd.f33) 0 4 (c + 1) [(0, .pointer (some ⟨0, 0, some 0⟩)), (1, .int .i64 (a : Nat)), (2, .string s)] (memH m ty ty2 mv mv2) k := by
      intro c
      induction c with
      | zero =>
        intro a s m ho hc ha hk
        rw [loopN_succ]
        show tWB m ty ty2 mv mv2 a s _
        rw [tWB_eq, strEq_nil, dnT (by unfold lenW at hc; omega)]
        show k (.exit 0) [] (memH m ty ty2 mv mv2)
        exact hk m rfl
      | succ c ih =>
        intro a s m ho hc ha hk
        have hs : 0 < s.size := by unfold lenW at hc; omega
        have hle := ho.le
        rw [loopN_succ]
        show tWB m ty ty2 mv mv2 a s _
        rw [tWB_eq, strEq_nil, dnF (by omega)]
        rintro x1 h1
        have b0 := byteAt_lt s 0
        have b1 := byteAt_lt s 1
        have b2 := byteAt_lt s 2
        have b3 := byteAt_lt s 3
        rw [dT (by rw [four_len]; omega), four_get s (by omega), four_get s (by omega), four_get s (by omega), four_get s (by omega)]
        refine ⟨by rw [intOf_int]; omega, by rw [intOf_int]; omega, by rw [intOf_int]; omega, by rw [intOf_int]; omega, by rw [intOf_int]; omega, by rw [intOf_int]; omega, by rw [intOf_int]; omega, by rw [intOf_int]; omega, ?_⟩
        rw [intOf_int, intOf_int, intOf_int, intOf_int]
        rintro x2 h2
        have e2 : x2 = ((wordB s 0 : Nat) : Int) := by
          rw [h2]; unfold pk wordB
          rw [Int.toNat_natCast, Int.toNat_natCast, Int.toNat_natCast, Int.toNat_natCast, wordJ, wordJ, wordJ, wordJ, wordJ, Nat.zero_mul, Nat.zero_add]
        have hw := wordB_lt s 0
        refine ⟨ho.len, by omega, by omega, by omega, by omega, ?_⟩
        have e1 : x1.toNat = if s.size ≤ 4 then s.size else 4 := by rw [h1, Int.toNat_natCast]
        have hx1 : x1 ≤ ((s.size : Nat) : Int) := by rw [h1]; split <;> omega
        have hx0 : 0 ≤ x1 := by rw [h1]; split <;> omega
        rw [dT2 hx0 hx1]
        rintro x3 h3 x4 h4
        rw [iAdd_i64 (by omega) (by omega)] at h4
        obtain rfl : x4 = ((a + 1 : Nat) : Int) := by omega
        subst h3
        rw [Int.toNat_natCast, e2, Int.toNat_natCast]
        obtain ⟨w1, w2⟩ := wb_step m a s hs x1.toNat e1
        rw [hc] at w1 w2
        have := ih (a + 1) (s.extract x1.toNat s.size) (storeM m a (encN (wordB s 0))) (ok_store ho (enc39 _)) (by omega) (by rw [store_n]; omega) (fun m' hm => hk m' (by
          rw [hm, w1]
          congr 1; omega))
        rw [loopN_succ] at this
        show loopN cWB (codeOf Tryd.f33) 0 4 (c + 1) _ _ k
        rw [loopN_succ]
        exact this
    have := key (lenW s.size) a.toNat s m ho rfl (by omega) hk
    rw [show ((a.toNat : Nat) : Int) = a by omega] at this
    exact ⟨_, this⟩
  · exact hT.elim
theorem room_in {m : Mem} {a n : Int} (h : roomM m a n = 0) (hn : 0 ≤ n) : 0 ≤ a ∧ a + ((n.toNat + 3) / 4 : Nat) ≤ m.n ∧ n ≤ 4 * (m.n - a) := by
  unfold roomM at h
  split at h
  · omega
  · cases h
theorem room_cases (m : Mem) (a n : Int) : roomM m a n = 0 ∨ roomM m a n = 2 := by unfold roomM; split <;> simp
theorem okWB : SpecOk Tryd.prog G0 33 sWB :=
  spec2 mixed tI_ok Tryd.func33 (by kernel_rfl : Tryd.f33.body = some (codeOf Tryd.f33)) cWB rfl rfl rfl (by kernel_rfl) (ids := [4]) (by kernel_rfl) ⟨loopWB, trivial⟩ (by
    intro args h K hk
    unfold sWB at hk
    split at hk
    · rename_i a s
      replace hk := asMem_elim hk
      obtain ⟨m, ty, ty2, mv, mv2, rfl, ho, hk⟩ := hk
      show bWB m ty ty2 mv mv2 a s K
      rw [bWB_eq]
      rintro x1 rfl
      refine ⟨ho.le, ?_⟩
      rintro x2 h2
      rcases room_cases m a ((s.size : Nat) : Int) with h | h
      · rw [h] at hk h2
        rw [if_pos rfl] at hk
        obtain ⟨r1, r2, r3⟩ := room_in h (by omega)
        rw [Int.toNat_natCast] at r2
        rw [dnT (by omega)]
        exact ⟨ho, r1, r2, fun x3 h3 => hk x3 h3⟩
      · rw [h] at hk h2
        rw [if_neg (by omega)] at hk
        rw [dnF (by omega), h2]
        exact hk _ rfl
    · exact hk.elim)

/-! ### the reference -/
theorem loopRWBi : ∀ e h k, TRWBi e h k → ∃ m, loopN cRWB (codeOf Tryd.f81) 1 8 m e h k := by
  intro e h k hT
  unfold TRWBi at hT
  split at hT
  · rename_i a s i w j
    replace hT := asMem_elim hT
    obtain ⟨m, ty, ty2, mv, mv2, rfl, i0, i1, hs, rfl, rfl, hk⟩ := hT
    obtain ⟨i, rfl⟩ := nat_of i0
    have cap32 : cap .u32 = 4294967296 := by decide
    have key : ∀ (c t : Nat), t + c = 4 → loopN cRWB (codeOf Tryd.f81) 1 8 (c + 1) [(0, .pointer (some ⟨0, 0, some 0⟩)), (1, .int .i64 a), (2, .string s), (7, .int .i64 (i : Nat)), (8, .int .u32 ((wordJ s i t : Nat) : Int)), (9, .int .i64 ((i + t : Nat) : Int))] (memH m ty ty2 mv mv2) k := by
      intro c
      induction c with
      | zero =>
        intro t ht
        rw [loopN_succ]
        show tRWBi m ty ty2 mv mv2 a i (wordJ s i t : Nat) (i + t : Nat) s _
        rw [tRWBi_eq]
        rintro x1 h1
        rw [iAdd_i64 (by omega) (by omega)] at h1
        rw [dF (by omega)]
        obtain rfl : t = 4 := by omega
        exact hk
      | succ c ih =>
        intro t ht
        have hw := wordJ_lt s i t
        have hw2 : wordJ s i t < 16777216 := by
          refine Nat.lt_of_lt_of_le hw ?_
          rcases (by omega : t = 0 ∨ t = 1 ∨ t = 2 ∨ t = 3) with rfl | rfl | rfl | rfl <;> decide
        have hb := byteAt_lt s (i + t)
        have stp : wordJ s i (t + 1) = wordJ s i t * 256 + byteAt s (i + t) := rfl
        rw [loopN_succ]
        show tRWBi m ty ty2 mv mv2 a i (wordJ s i t : Nat) (i + t : Nat) s _
        rw [tRWBi_eq]
        rintro x1 h1
        rw [iAdd_i64 (by omega) (by omega)] at h1
        rw [dT (by omega)]
        rintro x2 h2
        rw [show (256 : Int) = ((256 : Nat) : Int) from rfl, iMul_cast .u32 (by rw [cap32]; omega)] at h2
        rintro x3 rfl
        by_cases hin : i + t < s.size
        · rw [dT (by omega), dT2 (by omega) (by omega)]
          rintro x5 h5 x6 h6 x7 h7 x8 h8
          have e5 : x5 = ((byteAt s (i + t) : Nat) : Int) := by rw [h5, Int.toNat_natCast]; rfl
          rw [e5, wrap_cast .u32 (by rw [cap32]; omega)] at h6
          rw [h2, h6, iAdd_cast .u32 (by rw [cap32]; omega), ← stp] at h7
          rw [iAdd_i64 (by omega) (by omega)] at h8
          obtain rfl : x8 = ((i + (t + 1) : Nat) : Int) := by omega
          subst h7
          exact ih (t + 1) (by omega)
        · rw [dF (by omega)]
          rintro x8 h8
          rw [iAdd_i64 (by omega) (by omega)] at h8
          obtain rfl : x8 = ((i + (t + 1) : Nat) : Int) := by omega
          have := byteAt_out s (j := i + t) (by omega)
          have e2 : x2 = ((wordJ s i (t + 1) : Nat) : Int) := by rw [h2, stp, this]; rfl
          subst e2
          exact ih (t + 1) (by omega)
    have := key 4 0 rfl
    exact ⟨_, this⟩
  · exact hT.elim
theorem loopRWB : ∀ e h k, TRWB e h k → ∃ m, loopN cRWB (codeOf Tryd.f81) 0 4 m e h k := by
  intro e h k hT
  unfold TRWB at hT
  split at hT
  · rename_i a s i
    replace hT := asMem_elim hT
    obtain ⟨m, ty, ty2, mv, mv2, rfl, ho, a0, a1, rfl, hk⟩ := hT
    have key : ∀ (c j : Nat) (m : Mem), OkM m → j + c = lenW s.size → a + ((j + c : Nat) : Int) ≤ m.n → (∀ m', m' = wbM c m (a.toNat + j) s (4 * j) → k (.exit 0) [] (memH m' ty ty2 mv mv2)) →
        loopN cRWB (codeOf Tryd.f81) 0 4 (c + 1) [(0, .pointer (some ⟨0, 0, some 0⟩)), (1, .int .i64 a), (2, .string s), (7, .int .i64 ((4 * j : Nat) : Int))] (memH m ty ty2 mv mv2) k := by
      intro c
      induction c with
      | zero =>
        intro j m ho hc ha hk
        rw [loopN_succ]
        show tRWB m ty ty2 mv mv2 a (4 * j : Nat) s _
        rw [tRWB_eq]
        rintro x1 rfl
        rw [dF (by unfold lenW at hc; omega)]
        show k (.exit 0) [] (memH m ty ty2 mv mv2)
        exact hk m rfl
      | succ c ih =>
        intro j m ho hc ha hk
        have hle := ho.le
        have hj : 4 * j < s.size := by unfold lenW at hc; omega
        have hs : s.size ≤ 65536 := by unfold lenW at hc; omega
        rw [loopN_succ]
        show tRWB m ty ty2 mv mv2 a (4 * j : Nat) s _
        rw [tRWB_eq]
        rintro x1 rfl
        rw [dT (by omega)]
        refine ⟨by omega, by omega, hs, rfl, rfl, ?_⟩
        rintro x2 h2 x3 h3
        rw [show (4 : Int) = ((4 : Nat) : Int) from rfl, tdiv_cast, Nat.mul_div_cancel_left _ (by omega), wrap_cast .i64 (by rw [show cap .i64 = 9223372036854775808 by decide]; omega)] at h2
        rw [iAdd_i64 (by omega) (by omega)] at h3
        rw [Int.toNat_natCast, Int.toNat_natCast]
        have hw := wordB_lt s (4 * j)
        refine ⟨ho, by omega, by omega, ?_⟩
        rintro x4 h4 x5 _ x6 h6
        rw [iAdd_i64 (by omega) (by omega)] at h6
        obtain rfl : x6 = ((4 * (j + 1) : Nat) : Int) := by omega
        have e4 : x4 = storeM m (a.toNat + j) (encN (wordB s (4 * j))) := by
          rw [h4]; unfold writeS
          rw [if_pos (inM_iff.2 (by omega))]
          congr 1; omega
        refine ih (j + 1) x4 (by rw [e4]; exact ok_store ho (enc39 _)) (by omega) (by rw [e4, store_n]; omega) (fun m' hm => hk m' ?_)
        rw [hm, wbM, e4]
        rfl
    have := key (lenW s.size) 0 m ho (by omega) (by omega) (fun m' hm => hk m' (by rw [hm]; rfl))
    exact ⟨_, this⟩
  · exact hT.elim
theorem okRWB : SpecOk Tryd.prog G0 81 sWB :=
  spec2 mixed tI_ok Tryd.func81 (by kernel_rfl : Tryd.f81.body = some (codeOf Tryd.f81)) cRWB rfl rfl rfl (by kernel_rfl) (ids := [4, 8]) (by kernel_rfl) ⟨loopRWB, loopRWBi, trivial⟩ (by
    intro args h K hk
    unfold sWB at hk
    split at hk
    · rename_i a s
      replace hk := asMem_elim hk
      obtain ⟨m, ty, ty2, mv, mv2, rfl, ho, hk⟩ := hk
      show bRWB m ty ty2 mv mv2 a s K
      rw [bRWB_eq]
      rintro x1 rfl
      refine ⟨ho.le, ?_⟩
      rcases room_cases m a ((s.size : Nat) : Int) with h | h
      · rw [h] at hk
        rw [if_pos rfl] at hk
        obtain ⟨r1, r2, r3⟩ := room_in h (by omega)
        rw [Int.toNat_natCast] at r2
        rw [h, dnT rfl]
        exact ⟨ho, r1, r2, rfl, fun x3 h3 => hk x3 h3⟩
      · rw [h] at hk
        rw [if_neg (by omega)] at hk
        rw [h, dnF (by omega)]
        exact hk _ rfl
    · exact hk.elim)
end Go.Am.Mem
