/-
  Cltu: a unit, with inverted bits, and what a parser makes of it: plain mathematics. Own work.
-/
import Derived.Test.YtoeepogoogcbiaaDoorCltAR
import Derived.Test.YtoeepogoogcbiaaDoorCltAO
namespace Go.Am.Clt
open Go Go.Am Go.Am.Lib Go.Lib Go.Proofs Go.RowKit
set_option maxRecDepth 100000

theorem bytes_ext {a b : ByteArray} (h : a.data.toList = b.data.toList) : a = b := ByteArray.ext (Array.toList_inj.1 h)
theorem push_list (s : ByteArray) (x : UInt8) : (s.push x).data.toList = s.data.toList ++ [x] := by simp [ByteArray.push]
/-- Eight bytes. -/
theorem eight {C : ByteArray} (h : C.size = 8) : ∃ c0 c1 c2 c3 c4 c5 c6 c7, C.data.toList = [c0, c1, c2, c3, c4, c5, c6, c7] := by
  have hl := size_list C
  rw [h] at hl
  match hC : C.data.toList, hl with
  | [c0, c1, c2, c3, c4, c5, c6, c7], _ => exact ⟨c0, c1, c2, c3, c4, c5, c6, c7, rfl⟩
theorem step_take (kn : Bool) (la : UInt8) (d bl : ByteArray) (fs : List ByteArray) (x : UInt8) (h : bl.size < 7) : stepP ⟨true, kn, la, d, bl, fs⟩ x = ⟨true, kn, la, d, bl.push x, fs⟩ := by
  unfold stepP; rw [if_pos rfl, if_pos h]
theorem feed8 (kn : Bool) (la : UInt8) (d : ByteArray) (fs : List ByteArray) {C : ByteArray} (h : C.size = 8) :
    feedP ⟨true, kn, la, d, ⟨#[]⟩, fs⟩ C.data.toList = if chkE C = 0 ∧ (d ++ chkS C).size < 350 then ⟨true, kn, la, d ++ chkS C, ⟨#[]⟩, fs⟩
      else ⟨false, false, la, ⟨#[]⟩, ⟨#[]⟩, if (d ++ chkS C).size = 0 then fs else fs ++ [d ++ chkS C]⟩ := by
  obtain ⟨c0, c1, c2, c3, c4, c5, c6, c7, hC⟩ := eight h
  rw [hC]
  have z0 : (⟨#[]⟩ : ByteArray).size = 0 := rfl
  unfold feedP
  simp only [List.foldl_cons, List.foldl_nil]
  rw [step_take _ _ _ _ _ _ (by rw [z0]; omega), step_take _ _ _ _ _ _ (by simp only [ByteArray.size_push, z0]; omega), step_take _ _ _ _ _ _ (by simp only [ByteArray.size_push, z0]; omega), step_take _ _ _ _ _ _ (by simp only [ByteArray.size_push, z0]; omega),
    step_take _ _ _ _ _ _ (by simp only [ByteArray.size_push, z0]; omega), step_take _ _ _ _ _ _ (by simp only [ByteArray.size_push, z0]; omega), step_take _ _ _ _ _ _ (by simp only [ByteArray.size_push, z0]; omega)]
  have hq : (((((((((⟨#[]⟩ : ByteArray).push c0).push c1).push c2).push c3).push c4).push c5).push c6).push c7) = C := by
    apply bytes_ext
    rw [hC]
    simp only [push_list]
    rfl
  generalize hb : ((((((((⟨#[]⟩ : ByteArray).push c0).push c1).push c2).push c3).push c4).push c5).push c6) = bl at hq
  have hbs : bl.size = 7 := by rw [← hb]; simp only [ByteArray.size_push, z0]
  unfold stepP
  rw [if_pos rfl, if_neg (by show ¬ bl.size < 7; omega)]
  dsimp only
  rw [hq]
/-- At most one bit is inverted. -/
def Near (C B : ByteArray) : Prop := C = B ∨ ∃ i, i < 8 * B.size ∧ C = flipS B i
theorem Near.size {C B : ByteArray} (h : Near C B) : C.size = B.size := by
  rcases h with h | ⟨i, _, h⟩
  · rw [h]
  · rw [h, flip_size]
theorem near_flip (B : ByteArray) (h : 0 < B.size) (n : Int) : Near (flipN B n) B := by
  right
  have h1 := Int.emod_lt_of_pos n (show (0 : Int) < ((8 * B.size : Nat) : Int) by omega)
  have h2 := Int.emod_nonneg n (show ((8 * B.size : Nat) : Int) ≠ 0 by omega)
  exact ⟨_, by omega, rfl⟩
theorem near_chk {C q : ByteArray} (hq : q.size = 7) (h : Near C (blkS q)) : chkS C = q ∧ chkE C = 0 := by
  rcases h with h | ⟨i, hi, h⟩
  · rw [h]; exact ⟨(chk_blk hq).1, (chk_blk hq).2.2⟩
  · rw [blkS_size hq] at hi
    rw [h]
    rcases (by omega : i < 63 ∨ i = 63) with h3 | h3
    · exact ⟨(chk_one hq h3).1, (chk_one hq h3).2.2⟩
    · subst h3; exact ⟨(chk_last hq).1, (chk_last hq).2.2⟩
def startB : ByteArray := ⟨#[235, 144]⟩
def tailB : ByteArray := ⟨#[0, 0, 0, 0, 0, 0, 0, 248]⟩
/-- The beginnings with one bit inverted. -/
theorem starts : ∀ i : Fin 16, ((flipS startB i.val).data.toList = [UInt8.ofNat (byteAt (flipS startB i.val) 0), UInt8.ofNat (byteAt (flipS startB i.val) 1)] ∧ nearV 248 (byteAt (flipS startB i.val) 0) = false ∧ nearV (byteAt (flipS startB i.val) 0) (byteAt (flipS startB i.val) 1) = true) := by decide +kernel
theorem start_two {C : ByteArray} (h : Near C startB) : ∃ x y : UInt8, C.data.toList = [x, y] ∧ nearV 248 x.toNat = false ∧ nearV x.toNat y.toNat = true := by
  rcases h with h | ⟨i, hi, h⟩
  · rw [h]; exact ⟨235, 144, rfl, by decide +kernel, by decide +kernel⟩
  · have hs := starts ⟨i, hi⟩
    dsimp only at hs
    rw [← h] at hs
    have e : ∀ j, (UInt8.ofNat (byteAt C j)).toNat = byteAt C j := fun j => by rw [UInt8.toNat_ofNat']; exact Nat.mod_eq_of_lt (byteAt_lt _ _)
    refine ⟨_, _, hs.1, ?_, ?_⟩
    · rw [e]; exact hs.2.1
    · rw [e, e]; exact hs.2.2
/-- A parser that waits for a unit. -/
structure Quiet (p : PS) : Prop where
  begun : p.begun = false
  data : p.data = ⟨#[]⟩
  block : p.block = ⟨#[]⟩
  found : p.found = []
  last : p.known = false ∨ p.last = 248
theorem quiet0 : Quiet ps0 := ⟨rfl, rfl, rfl, rfl, Or.inl rfl⟩
theorem feed_start {p : PS} (hp : Quiet p) {C : ByteArray} (h : Near C startB) : ∃ la, feedP p C.data.toList = ⟨true, true, la, ⟨#[]⟩, ⟨#[]⟩, []⟩ := by
  obtain ⟨x, y, hC, h1, h2⟩ := start_two h
  obtain ⟨bg, kn, la, d, bl, fs⟩ := p
  obtain ⟨q1, q2, q3, q4, q5⟩ := hp
  dsimp only at q1 q2 q3 q4 q5
  subst q1 q2 q3 q4
  refine ⟨x, ?_⟩
  rw [hC]
  unfold feedP
  simp only [List.foldl_cons, List.foldl_nil]
  have e1 : stepP ⟨false, kn, la, ⟨#[]⟩, ⟨#[]⟩, []⟩ x = ⟨false, true, x, ⟨#[]⟩, ⟨#[]⟩, []⟩ := by
    unfold stepP
    rw [if_neg (by simp), if_neg]
    dsimp only
    rcases q5 with e | e
    · rw [e]; simp
    · rw [e]
      have : nearV (248 : UInt8).toNat x.toNat = false := h1
      rw [this]; simp
  rw [e1]
  unfold stepP
  rw [if_neg (by simp), if_pos (by dsimp only; rw [h2]; rfl)]
/-- Behind j blocks of P. -/
def MidSt (P : ByteArray) (j : Nat) (p : PS) : Prop := ∃ la, if 7 * j < 350 then p = ⟨true, true, la, P.extract 0 (7 * j), ⟨#[]⟩, []⟩ else p = ⟨false, false, la, ⟨#[]⟩, ⟨#[]⟩, [P.extract 0 (7 * j)]⟩
theorem mid_0 {P : ByteArray} {p : PS} (h : ∃ la, p = ⟨true, true, la, ⟨#[]⟩, ⟨#[]⟩, []⟩) : MidSt P 0 p := by
  obtain ⟨la, rfl⟩ := h
  refine ⟨la, ?_⟩
  rw [if_pos (by omega)]
  have e : P.extract 0 (7 * 0) = ⟨#[]⟩ := by
    apply bytes_ext
    rw [ByteArray.data_extract, Array.toList_extract, List.extract_eq_take_drop]; rfl
  rw [e]
theorem ext_app (P : ByteArray) {a b c : Nat} (h1 : a ≤ b) (h2 : b ≤ c) (h3 : c ≤ P.size) : P.extract a b ++ P.extract b c = P.extract a c := by
  apply bytes_eq
  · rw [ByteArray.size_append, ByteArray.size_extract, ByteArray.size_extract, ByteArray.size_extract]; omega
  · intro j hj
    rw [ByteArray.size_append, ByteArray.size_extract, ByteArray.size_extract] at hj
    rw [byteAt_append, ByteArray.size_extract, byteAt_cut, byteAt_cut, byteAt_cut]
    by_cases h : j < min b P.size - a
    · rw [if_pos h, if_pos (by omega), if_pos (by omega)]
    · rw [if_neg h, if_pos (by omega), if_pos (by omega)]
      congr 1; omega
theorem mid_next {P C : ByteArray} {j : Nat} {p : PS} (h : MidSt P j p) (hj : 7 * j + 7 ≤ P.size) (hP : P.size ≤ 350) (hC : Near C (blkS (P.extract (7 * j) (7 * j + 7)))) : MidSt P (j + 1) (feedP p C.data.toList) := by
  have hqs : (P.extract (7 * j) (7 * j + 7)).size = 7 := by rw [ByteArray.size_extract]; omega
  obtain ⟨k1, k2⟩ := near_chk hqs hC
  have hC8 : C.size = 8 := by rw [hC.size, blkS_size hqs]
  obtain ⟨la, h⟩ := h
  rw [if_pos (by omega)] at h
  subst h
  refine ⟨la, ?_⟩
  rw [feed8 _ _ _ _ hC8, k1, k2, ext_app P (Nat.zero_le _) (by omega) hj, show 7 * (j + 1) = 7 * j + 7 by omega]
  have hs : (P.extract 0 (7 * j + 7)).size = 7 * j + 7 := by rw [ByteArray.size_extract]; omega
  by_cases h3 : 7 * j + 7 < 350
  · rw [if_pos h3, if_pos ⟨rfl, by rw [hs]; exact h3⟩]
  · rw [if_neg h3, if_neg (by rw [hs]; omega), if_neg (by rw [hs]; omega)]
    rfl
theorem tail_bad : chkE tailB = 6 ∧ chkS tailB = ⟨#[]⟩ := by decide +kernel
theorem near_00 : nearV 0 0 = false ∧ nearV 0 248 = false := by decide +kernel
theorem feed_tail {P : ByteArray} {m : Nat} {p : PS} (h : MidSt P m p) (hm : 0 < m) (hP : P.size = 7 * m) : (feedP p tailB.data.toList).found = [P] ∧ (feedP p tailB.data.toList).begun = false ∧ Quiet (clr (feedP p tailB.data.toList)) := by
  obtain ⟨la, h⟩ := h
  have he : P.extract 0 (7 * m) = P := by rw [← hP]; exact ext_all P
  rw [he] at h
  by_cases h3 : 7 * m < 350
  · rw [if_pos h3] at h
    subst h
    have ha : P ++ (⟨#[]⟩ : ByteArray) = P := by
      apply bytes_ext; rw [ByteArray.data_append, Array.toList_append]; simp
    rw [feed8 _ _ _ _ (C := tailB) rfl, tail_bad.1, tail_bad.2, ha, if_neg (by intro h; exact absurd h.1 (by decide)), if_neg (by omega)]
    exact ⟨rfl, rfl, rfl, rfl, rfl, rfl, Or.inl rfl⟩
  · rw [if_neg h3] at h
    subst h
    have hx : feedP ⟨false, false, la, ⟨#[]⟩, ⟨#[]⟩, [P]⟩ tailB.data.toList = ⟨false, true, 248, ⟨#[]⟩, ⟨#[]⟩, [P]⟩ := by
      have s1 : ∀ (l x : UInt8), nearV l.toNat x.toNat = false → stepP ⟨false, true, l, ⟨#[]⟩, ⟨#[]⟩, [P]⟩ x = ⟨false, true, x, ⟨#[]⟩, ⟨#[]⟩, [P]⟩ := by
        intro l x hn
        unfold stepP
        rw [if_neg (by simp), if_neg (by dsimp only; rw [hn]; simp)]
      have s0 : stepP ⟨false, false, la, ⟨#[]⟩, ⟨#[]⟩, [P]⟩ 0 = ⟨false, true, 0, ⟨#[]⟩, ⟨#[]⟩, [P]⟩ := by
        unfold stepP
        rw [if_neg (by simp), if_neg (by simp)]
      show feedP _ [0, 0, 0, 0, 0, 0, 0, 248] = _
      unfold feedP
      simp only [List.foldl_cons, List.foldl_nil]
      rw [s0, s1 0 0 near_00.1, s1 0 0 near_00.1, s1 0 0 near_00.1, s1 0 0 near_00.1, s1 0 0 near_00.1, s1 0 0 near_00.1, s1 0 248 near_00.2]
    rw [hx]
    exact ⟨rfl, rfl, rfl, rfl, rfl, rfl, Or.inr rfl⟩
end Go.Am.Clt
