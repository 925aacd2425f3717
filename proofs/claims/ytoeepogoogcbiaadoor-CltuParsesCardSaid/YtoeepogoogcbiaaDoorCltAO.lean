/-
  Cltu: inverted bits: plain mathematics. Own work.
-/
import Derived.Test.YtoeepogoogcbiaaDoorCltAN
namespace Go.Am.Clt
open Go Go.Am Go.Am.Lib Go.Proofs
set_option maxRecDepth 100000

/-- A bit that is inverted in 0 or 1. -/
theorem flip_bit : ∀ (a : Fin 256) (p q : Fin 8), (a.val ^^^ 2 ^ p.val) / 2 ^ q.val % 2 = if q.val = p.val then 1 - a.val / 2 ^ q.val % 2 else a.val / 2 ^ q.val % 2 := by decide +kernel
theorem bitN_flip {s : ByteArray} {i : Nat} (hi : i / 8 < s.size) {j : Nat} (hj : j / 8 < s.size) : bitN (flipS s i) j = if j = i then 1 - bitN s j else bitN s j := by
  unfold bitN
  rw [flip_at s hi hj]
  by_cases e : j / 8 = i / 8
  · rw [if_pos e]
    have h := flip_bit ⟨byteAt s (i / 8), byteAt_lt _ _⟩ ⟨7 - i % 8, by omega⟩ ⟨7 - j % 8, by omega⟩
    dsimp only at h
    rw [h, e]
    by_cases e2 : j = i
    · rw [if_pos e2, if_pos (by omega)]
    · rw [if_neg e2, if_neg (by omega)]
  · rw [if_neg e, if_neg (fun h => e (by rw [h]))]
theorem bitC_flip {s : ByteArray} (hs : s.size = 8) {i j : Nat} (hi : i < 64) (hj : j < 64) : bitC (flipS s i) j = if j = i then 1 - bitC s j else bitC s j := by
  have hb := bitN_lt s j
  unfold bitC
  rw [bitN_flip (by omega) (by omega)]
  by_cases e : j = i
  · subst e
    rw [if_pos rfl, if_pos rfl]
    split <;> omega
  · rw [if_neg e, if_neg e]
theorem xorL_len : ∀ (a b : List Nat), a.length = b.length → (xorL a b).length = a.length
  | [], _, _ => rfl
  | x :: a, [], h => by simp at h
  | x :: a, y :: b, h => by rw [xorL, List.length_cons, xorL_len a b (by simpa using h), List.length_cons]
theorem xorL_get : ∀ (a b : List Nat) (j : Nat), a.length = b.length → (xorL a b)[j]? = (a[j]?).bind fun x => (b[j]?).map fun y => x ^^^ y
  | [], _, j, _ => by simp [xorL]
  | x :: a, [], j, h => by simp at h
  | x :: a, y :: b, 0, h => by simp [xorL]
  | x :: a, y :: b, j + 1, h => by
    rw [xorL, List.getElem?_cons_succ, List.getElem?_cons_succ, List.getElem?_cons_succ]
    exact xorL_get a b j (by simpa using h)
theorem xor_one {b : Nat} (h : b < 2) : b ^^^ 1 = 1 - b := by
  rcases (by omega : b = 0 ∨ b = 1) with rfl | rfl <;> rfl
theorem bitsC_get (s : ByteArray) {n j : Nat} (hj : j < n) : (bitsC s n)[j]? = some (bitC s j) := by
  unfold bitsC
  rw [List.getElem?_map, List.getElem?_range hj]; rfl
theorem bitsC_flip {s : ByteArray} (hs : s.size = 8) {i : Nat} (hi : i < 63) : bitsC (flipS s i) 63 = xorL (bitsC s 63) ((List.replicate 63 0).set i 1) := by
  apply List.ext_getElem?
  intro j
  have hl : (bitsC s 63).length = ((List.replicate 63 0).set i 1).length := by rw [bitsC_len, List.length_set, List.length_replicate]
  rw [xorL_get _ _ _ hl]
  by_cases hj : j < 63
  · rw [bitsC_get _ hj, bitsC_get _ hj, bitC_flip hs (by omega) (by omega)]
    rw [List.getElem?_set, List.length_replicate]
    by_cases e : i = j
    · subst e
      rw [if_pos rfl, if_pos rfl, if_pos hj]
      simp only [Option.bind_some, Option.map_some]
      rw [xor_one (bitC_lt _ _)]
    · rw [if_neg (fun h => e h.symm), if_neg e, List.getElem?_replicate, if_pos hj]
      simp
  · rw [List.getElem?_eq_none (by rw [bitsC_len]; omega), List.getElem?_eq_none (by rw [bitsC_len]; omega)]; rfl
theorem bitsC_flip63 {s : ByteArray} (hs : s.size = 8) : bitsC (flipS s 63) 63 = bitsC s 63 := by
  unfold bitsC
  refine List.map_congr_left fun j hj => ?_
  have := List.mem_range.1 hj
  rw [bitC_flip hs (by omega) (by omega), if_neg (by omega)]
theorem syn_flip {s : ByteArray} (hs : s.size = 8) {i : Nat} (hi : i < 63) : syn (flipS s i) = syn s ^^^ powX (62 - i) := by
  rw [← syn_fold (show (flipS s i).size = 8 by rw [flip_size]; exact hs), bitsC_flip hs hi]
  have hx := fold_xor (bitsC s 63) ((List.replicate 63 0).set i 1) (r := 0) (q := 0) (by rw [bitsC_len, List.length_set, List.length_replicate]) (bitsC_ok s 63) (unit_bits i) (by omega) (by omega)
  rw [Nat.xor_self] at hx
  rw [hx, syn_fold hs, unit_at ⟨i, hi⟩]
theorem syn_flip63 {s : ByteArray} (hs : s.size = 8) : syn (flipS s 63) = syn s := by
  rw [← syn_fold (show (flipS s 63).size = 8 by rw [flip_size]; exact hs), bitsC_flip63 hs, syn_fold hs]

/-! ### a code block -/
theorem blkS_size {q : ByteArray} (h : q.size = 7) : (blkS q).size = 8 := by
  unfold blkS; rw [ByteArray.size_append, h, bytesOf_size]; rfl
theorem blkS_cut {q : ByteArray} (h : q.size = 7) : (blkS q).extract 0 7 = q := by
  have hs := blkS_size h
  apply bytes_eq
  · rw [ByteArray.size_extract, hs, h]; rfl
  · intro j hj
    rw [ByteArray.size_extract, hs] at hj
    rw [byteAt_cut, if_pos (by omega), Nat.zero_add]
    unfold blkS
    rw [byteAt_append, if_pos (by omega)]
theorem syn_blk {q : ByteArray} (h : q.size = 7) : syn (blkS q) = 0 := by
  have hr := remN_lt q
  have hb : byteAt (blkS q) 7 = lastB q := by
    unfold blkS
    rw [byteAt_append, if_neg (by omega), h]
    exact bytesOf_at rfl (by unfold lastB; omega) (by show 0 < 1; omega)
  unfold syn
  rw [blkS_cut h, hb]
  have e : (255 - lastB q) / 2 = remN q := by unfold lastB; omega
  rw [e, Nat.xor_self]
theorem flip_flip (s : ByteArray) {i : Nat} (hi : i / 8 < s.size) : flipS (flipS s i) i = s := by
  apply bytes_eq
  · rw [flip_size, flip_size]
  · intro j hj
    rw [flip_size, flip_size] at hj
    rw [flip_at _ (by rw [flip_size]; exact hi) (by rw [flip_size]; exact hj)]
    by_cases e : j = i / 8
    · rw [if_pos e, flip_at s hi hi, if_pos rfl, Nat.xor_assoc, Nat.xor_self, Nat.xor_zero, e]
    · rw [if_neg e, flip_at s hi hj, if_neg e]
theorem fix_fix {q : ByteArray} (h : q.size = 7) (i : Nat) : fixS (fixS q i) i = q := by
  unfold fixS
  by_cases h5 : i < 56
  · rw [if_pos h5, if_pos h5]; exact flip_flip q (by omega)
  · rw [if_neg h5, if_neg h5]
theorem powX_pos {k : Nat} (h : k < 63) : powX k ≠ 0 := powX_ne0 ⟨k, h⟩
section
variable {q : ByteArray} (h : q.size = 7)
include h
theorem chk_blk : chkS (blkS q) = q ∧ chkW (blkS q) = 0 ∧ chkE (blkS q) = 0 := by
  have hs := blkS_size h
  have h0 := syn_blk h
  unfold chkS chkW chkE
  rw [if_pos hs, if_pos h0, blkS_cut h, if_neg (by intro hh; exact hh.2.1 h0), if_pos hs, if_pos (Or.inl h0)]
  exact ⟨rfl, rfl, rfl⟩
theorem chk_one {i : Nat} (hi : i < 63) : chkS (flipS (blkS q) i) = q ∧ chkW (flipS (blkS q) i) = 1 ∧ chkE (flipS (blkS q) i) = 0 := by
  have hs := blkS_size h
  have hf : (flipS (blkS q) i).size = 8 := by rw [flip_size]; exact hs
  have hy : syn (flipS (blkS q) i) = powX (62 - i) := by rw [syn_flip hs hi, syn_blk h, Nat.zero_xor]
  have h0 : ¬ syn (flipS (blkS q) i) = 0 := by rw [hy]; exact powX_pos (by omega)
  have hl : lg (syn (flipS (blkS q) i)) = 62 - i := lg_of (by omega) hy.symm
  have hl3 : lg (syn (flipS (blkS q) i)) < 63 := by rw [hl]; omega
  unfold chkS chkW chkE
  rw [if_pos hf, if_neg h0, if_pos hl3, if_pos ⟨hf, h0, hl3⟩, if_pos hf, if_pos (Or.inr hl3), hl, flip_cut hs hi, blkS_cut h, show 62 - (62 - i) = i by omega, fix_fix h]
  exact ⟨rfl, rfl, rfl⟩
theorem chk_last : chkS (flipS (blkS q) 63) = q ∧ chkW (flipS (blkS q) 63) = 0 ∧ chkE (flipS (blkS q) 63) = 0 := by
  have hs := blkS_size h
  have hf : (flipS (blkS q) 63).size = 8 := by rw [flip_size]; exact hs
  have h0 : syn (flipS (blkS q) 63) = 0 := by rw [syn_flip63 hs, syn_blk h]
  have hc : (flipS (blkS q) 63).extract 0 7 = q := by
    apply bytes_eq
    · rw [ByteArray.size_extract, hf, h]; rfl
    · intro j hj
      rw [ByteArray.size_extract, hf] at hj
      rw [byteAt_cut, if_pos (by omega), Nat.zero_add, flip_at _ (by omega) (by omega), if_neg (by omega)]
      conv => rhs; rw [← blkS_cut h]
      rw [byteAt_cut, if_pos (by omega), Nat.zero_add]
  unfold chkS chkW chkE
  rw [if_pos hf, if_pos h0, hc, if_neg (by intro hh; exact hh.2.1 h0), if_pos hf, if_pos (Or.inl h0)]
  exact ⟨rfl, rfl, rfl⟩
theorem chk_two {i j : Nat} (hi : i < 63) (hj : j < 63) (hij : i ≠ j) : chkE (flipS (flipS (blkS q) i) j) = 6 := by
  have hs := blkS_size h
  have hf : (flipS (blkS q) i).size = 8 := by rw [flip_size]; exact hs
  have hf2 : (flipS (flipS (blkS q) i) j).size = 8 := by rw [flip_size]; exact hf
  have hy : syn (flipS (flipS (blkS q) i) j) = powX (62 - i) ^^^ powX (62 - j) := by rw [syn_flip hf hj, syn_flip hs hi, syn_blk h, Nat.zero_xor]
  have hne : ¬ powX (62 - i) ^^^ powX (62 - j) = 0 := by
    intro e
    have e2 : powX (62 - i) = powX (62 - j) := by
      have := congrArg (· ^^^ powX (62 - j)) e
      simpa [Nat.xor_assoc] using this
    have := powX_inj ⟨62 - i, by omega⟩ ⟨62 - j, by omega⟩ e2
    dsimp only at this
    omega
  have hl : lg (powX (62 - i) ^^^ powX (62 - j)) = 63 := by
    apply lg_none
    intro k hk e
    have p1 := par7_xor ⟨powX (62 - i), powX_lt ⟨62 - i, by omega⟩⟩ ⟨powX (62 - j), powX_lt ⟨62 - j, by omega⟩⟩
    dsimp only at p1
    have p2 := powX_par ⟨k, hk⟩
    have p3 := powX_par ⟨62 - i, by omega⟩
    have p4 := powX_par ⟨62 - j, by omega⟩
    dsimp only at p2 p3 p4
    rw [← e, p2, p3, p4] at p1
    omega
  unfold chkE
  rw [hy, if_pos hf2, hl, if_neg (by rintro (hh | hh); exact hne hh; omega)]
end
end Go.Am.Clt
