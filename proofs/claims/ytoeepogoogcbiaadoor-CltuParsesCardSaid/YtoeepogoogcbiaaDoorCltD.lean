/-
  Cltu: Block and Check: plain mathematics. Own work.
-/
import Derived.Test.YtoeepogoogcbiaaDoorCltC
namespace Go.Am.Clt
open Go Go.Am Go.Am.Lib Go.Proofs
set_option maxRecDepth 100000

/-! ### seven bits -/
theorem rest_same {a b : Nat} (ha : a < 128) (hb : b < 128) : a / 64 % 2 = b / 64 % 2 → a / 32 % 2 = b / 32 % 2 → a / 16 % 2 = b / 16 % 2 → a / 8 % 2 = b / 8 % 2 → a / 4 % 2 = b / 4 % 2 → a / 2 % 2 = b / 2 % 2 → a % 2 = b % 2 → a = b := by omega
theorem restEq {a b : Nat} (ha : a < 128) (hb : b < 128) {P Q : Prop} :
    cond ((decide (((a / 64 % 2 : Nat) : Int) = ((b / 64 % 2 : Nat) : Int))) && ((decide (((a / 32 % 2 : Nat) : Int) = ((b / 32 % 2 : Nat) : Int))) && ((decide (((a / 16 % 2 : Nat) : Int) = ((b / 16 % 2 : Nat) : Int))) && ((decide (((a / 8 % 2 : Nat) : Int) = ((b / 8 % 2 : Nat) : Int))) &&
      ((decide (((a / 4 % 2 : Nat) : Int) = ((b / 4 % 2 : Nat) : Int))) && ((decide (((a / 2 % 2 : Nat) : Int) = ((b / 2 % 2 : Nat) : Int))) && ((decide (((a % 2 : Nat) : Int) = ((b % 2 : Nat) : Int))) && Bool.true))))))) P Q = cond (decide (a = b)) P Q := by
  congr 1
  by_cases e : a = b
  · subst e; simp
  · rw [decide_eq_false e]
    apply Bool.eq_false_iff.2
    intro h
    simp only [Bool.and_eq_true, decide_eq_true_eq] at h
    obtain ⟨h1, h2, h3, h4, h5, h6, h7, _⟩ := h
    exact e (rest_same ha hb (by omega) (by omega) (by omega) (by omega) (by omega) (by omega) (by omega))
theorem rest0 {a : Nat} (ha : a < 128) {P Q : Prop} :
    cond ((decide (((a / 64 % 2 : Nat) : Int) = (0 : Int))) && ((decide (((a / 32 % 2 : Nat) : Int) = (0 : Int))) && ((decide (((a / 16 % 2 : Nat) : Int) = (0 : Int))) && ((decide (((a / 8 % 2 : Nat) : Int) = (0 : Int))) &&
      ((decide (((a / 4 % 2 : Nat) : Int) = (0 : Int))) && ((decide (((a / 2 % 2 : Nat) : Int) = (0 : Int))) && ((decide (((a % 2 : Nat) : Int) = (0 : Int))) && Bool.true))))))) P Q = cond (decide (a = 0)) P Q :=
  restEq (a := a) (b := 0) ha (by omega)
theorem val_rest : ∀ r : Fin 128, valR (restV r.val) = r.val := by decide +kernel
theorem fold_bits7 : ∀ q : Fin 128, fold (bits7 q.val) 0 = q.val := by decide +kernel

/-! ### which power -/
theorem lgF_none (r : Nat) : ∀ n k, (∀ j, k ≤ j → j < k + n → powX j ≠ r) → lgF n k r = 63
  | 0, _, _ => rfl
  | n + 1, k, h => by rw [lgF, if_neg (h k (Nat.le_refl _) (by omega))]; exact lgF_none r n (k + 1) fun j h1 h2 => h j (by omega) (by omega)
theorem lgF_some (r : Nat) : ∀ n k, n + k = 63 → lgF n k r < 63 → powX (lgF n k r) = r
  | 0, _, _, h => by rw [lgF] at h; omega
  | n + 1, k, e, h => by
    rw [lgF] at h ⊢
    by_cases hp : powX k = r
    · rw [if_pos hp]; exact hp
    · rw [if_neg hp] at h ⊢; exact lgF_some r n (k + 1) (by omega) h
theorem lgF_le (r : Nat) : ∀ n k, n + k = 63 → lgF n k r ≤ 63
  | 0, _, _ => by rw [lgF]; omega
  | n + 1, k, e => by
    rw [lgF]
    by_cases hp : powX k = r
    · rw [if_pos hp]; omega
    · rw [if_neg hp]; exact lgF_le r n (k + 1) (by omega)
theorem lg_le (r : Nat) : lg r ≤ 63 := lgF_le r 63 0 (by omega)
theorem lg_lt {r : Nat} (h : lg r < 63) : powX (lg r) = r := lgF_some r 63 0 (by omega) h
theorem lg_none {r : Nat} (h : ∀ k, k < 63 → powX k ≠ r) : lg r = 63 := lgF_none r 63 0 fun j _ hj => h j (by omega)
theorem lg_of {r k : Nat} (hk : k < 63) (h : powX k = r) : lg r = k := by
  rcases Nat.lt_or_ge (lg r) 63 with hl | hl
  · have := lg_lt hl
    exact powX_inj ⟨lg r, hl⟩ ⟨k, hk⟩ (by show powX (lg r) = powX k; rw [this, h])
  · exfalso
    have h63 : lg r = 63 := by have := lg_le r; omega
    -- the search passes every power
    have key : ∀ n j, n + j = 63 → j ≤ k → lgF n j r < 63 := by
      intro n
      induction n with
      | zero => intro j hj hjk; omega
      | succ n ih =>
        intro j hj hjk
        rw [lgF]
        by_cases e : powX j = r
        · rw [if_pos e]; omega
        · rw [if_neg e]
          refine ih (j + 1) (by omega) ?_
          rcases Nat.lt_or_ge j k with h1 | h1
          · exact h1
          · have : j = k := by omega
            rw [this] at e; exact absurd h e
    have := key 63 0 (by omega) (by omega)
    unfold lg at h63
    omega
theorem unit_at : ∀ i : Fin 63, fold ((List.replicate 63 0).set i.val 1) 0 = powX (62 - i.val) := by decide +kernel
theorem Z63_eq : Z63 = bitV (List.replicate 63 0) := rfl
theorem unit_bits (i : Nat) : Bits ((List.replicate 63 0).set i 1) := fun x hx => by
  rcases List.mem_or_eq_of_mem_set hx with h | h
  · rw [List.eq_of_mem_replicate h]; omega
  · omega

/-! ### the bits of a string -/
theorem bits8_pow (b : Nat) : bits8 b = [b / 2 ^ 7 % 2, b / 2 ^ 6 % 2, b / 2 ^ 5 % 2, b / 2 ^ 4 % 2, b / 2 ^ 3 % 2, b / 2 ^ 2 % 2, b / 2 ^ 1 % 2, b / 2 ^ 0 % 2] := by
  unfold bits8; simp
theorem bits56 (s : ByteArray) : bitsG s 7 0 = bitsL s 56 := by
  unfold bitsG bitsG bitsG bitsG bitsG bitsG bitsG bitsG bitsL
  rw [bits8_pow, bits8_pow, bits8_pow, bits8_pow, bits8_pow, bits8_pow, bits8_pow]
  rfl
theorem bitN_lt (s : ByteArray) (i : Nat) : bitN s i < 2 := Nat.mod_lt _ (by omega)
theorem bitsL_ok (s : ByteArray) (n : Nat) : Bits (bitsL s n) := fun x hx => by
  unfold bitsL at hx
  obtain ⟨i, _, rfl⟩ := List.mem_map.1 hx
  exact bitN_lt s i
theorem bitsL_len (s : ByteArray) (n : Nat) : (bitsL s n).length = n := by unfold bitsL; rw [List.length_map, List.length_range]
theorem bitsL_succ (s : ByteArray) (n : Nat) : bitsL s (n + 1) = bitsL s n ++ [bitN s n] := by
  unfold bitsL; rw [List.range_succ, List.map_append]; rfl
theorem bitC_lt (s : ByteArray) (i : Nat) : bitC s i < 2 := by
  have := bitN_lt s i
  unfold bitC; split <;> omega
theorem bitsC_ok (s : ByteArray) (n : Nat) : Bits (bitsC s n) := fun x hx => by
  unfold bitsC at hx
  obtain ⟨i, _, rfl⟩ := List.mem_map.1 hx
  exact bitC_lt s i
theorem bitsC_len (s : ByteArray) (n : Nat) : (bitsC s n).length = n := by unfold bitsC; rw [List.length_map, List.length_range]
theorem bitsC_succ (s : ByteArray) (n : Nat) : bitsC s (n + 1) = bitsC s n ++ [bitC s n] := by
  unfold bitsC; rw [List.range_succ, List.map_append]; rfl
theorem rem_bits {s : ByteArray} (h : s.size = 7) : fold (bitsL s 56 ++ [0, 0, 0, 0, 0, 0, 0]) 0 = remN s := by
  rw [remN_fold, h, bits56]
theorem bitsL_cut (s : ByteArray) : bitsL (s.extract 0 7) 56 = bitsL s 56 := by
  unfold bitsL
  refine List.map_congr_left fun i hi => ?_
  have := List.mem_range.1 hi
  unfold bitN
  rw [byteAt_cut, if_pos (by omega), Nat.zero_add]
theorem inv7 : ∀ b : Fin 256, [1 - b.val / 2 ^ 7 % 2, 1 - b.val / 2 ^ 6 % 2, 1 - b.val / 2 ^ 5 % 2, 1 - b.val / 2 ^ 4 % 2, 1 - b.val / 2 ^ 3 % 2, 1 - b.val / 2 ^ 2 % 2, 1 - b.val / 2 ^ 1 % 2] = bits7 ((255 - b.val) / 2) := by decide +kernel
theorem bitsC_split (s : ByteArray) : bitsC s 63 = bitsL s 56 ++ bits7 ((255 - byteAt s 7) / 2) := by
  have h := inv7 ⟨byteAt s 7, byteAt_lt s 7⟩
  dsimp only at h
  rw [← h]
  have e : bitsC s 56 = bitsL s 56 := by
    unfold bitsC bitsL
    refine List.map_congr_left fun i hi => ?_
    have := List.mem_range.1 hi
    unfold bitC; rw [if_pos (by omega)]
  have tl : ∀ i, 56 ≤ i → bitC s i = 1 - bitN s i := fun i hi => by unfold bitC; rw [if_neg (by omega)]
  rw [bitsC_succ, bitsC_succ, bitsC_succ, bitsC_succ, bitsC_succ, bitsC_succ, bitsC_succ, e, tl _ (by omega), tl _ (by omega), tl _ (by omega), tl _ (by omega), tl _ (by omega), tl _ (by omega), tl _ (by omega)]
  simp only [List.append_assoc]
  rfl
theorem xorL_zero : ∀ l : List Nat, xorL l (List.replicate l.length 0) = l
  | [] => rfl
  | a :: l => by rw [List.length_cons, List.replicate_succ, xorL, xorL_zero l, Nat.xor_zero]
theorem zero_xorL : ∀ l : List Nat, xorL (List.replicate l.length 0) l = l
  | [] => rfl
  | a :: l => by rw [List.length_cons, List.replicate_succ, xorL, zero_xorL l, Nat.zero_xor]
theorem xorL_app : ∀ (a b c d : List Nat), a.length = b.length → xorL (a ++ c) (b ++ d) = xorL a b ++ xorL c d
  | [], [], _, _, _ => rfl
  | x :: a, y :: b, c, d, h => by
    rw [List.cons_append, List.cons_append, xorL, xorL_app a b c d (by simpa using h), xorL, List.cons_append]
theorem zeros_bits (n : Nat) : Bits (List.replicate n 0) := fun x hx => by rw [List.eq_of_mem_replicate hx]; omega
theorem syn_fold {s : ByteArray} (h : s.size = 8) : fold (bitsC s 63) 0 = syn s := by
  have hb := byteAt_lt s 7
  have hq : (255 - byteAt s 7) / 2 < 128 := by omega
  have h1 : bitsC s 63 = xorL (bitsL s 56 ++ [0, 0, 0, 0, 0, 0, 0]) (List.replicate 56 0 ++ bits7 ((255 - byteAt s 7) / 2)) := by
    rw [bitsC_split, xorL_app _ _ _ _ (by rw [bitsL_len, List.length_replicate])]
    have a1 := xorL_zero (bitsL s 56)
    rw [bitsL_len] at a1
    have a2 := zero_xorL (bits7 ((255 - byteAt s 7) / 2))
    rw [a1]
    congr 1
    exact a2.symm
  rw [h1]
  have hx := fold_xor (bitsL s 56 ++ [0, 0, 0, 0, 0, 0, 0]) (List.replicate 56 0 ++ bits7 ((255 - byteAt s 7) / 2)) (r := 0) (q := 0) (by rw [List.length_append, bitsL_len, List.length_append, List.length_replicate]; rfl)
    (bits_app (bitsL_ok s 56) (zeros_bits 7)) (bits_app (zeros_bits 56) (bits7_ok _)) (by omega) (by omega)
  rw [Nat.xor_self] at hx
  rw [hx, fold_app (List.replicate 56 0), zeros_fold, fold_bits7 ⟨_, hq⟩]
  unfold syn
  rw [← rem_bits (show (s.extract 0 7).size = 7 from by rw [ByteArray.size_extract]; omega), bitsL_cut]
theorem syn_lt (s : ByteArray) : syn s < 128 := by
  have := byteAt_lt s 7
  exact xor128 (remN_lt _) (by omega)

/-! ### an inverted bit -/
theorem flip_size (s : ByteArray) (i : Nat) : (flipS s i).size = s.size := by unfold flipS flipV; rw [bytesOf_size, List.length_set, bytesV_length]
theorem pow7_lt (i : Nat) : 2 ^ (7 - i % 8) < 256 := by
  have : 2 ^ (7 - i % 8) ≤ 2 ^ 7 := Nat.pow_le_pow_right (by omega) (by omega)
  omega
theorem flip_at (s : ByteArray) {i : Nat} (_hi : i / 8 < s.size) {j : Nat} (hj : j < s.size) : byteAt (flipS s i) j = if j = i / 8 then byteAt s (i / 8) ^^^ 2 ^ (7 - i % 8) else byteAt s j := by
  unfold flipS flipV
  rw [bytesOf_V]
  have hx : byteAt s (i / 8) ^^^ 2 ^ (7 - i % 8) < 256 := @Nat.xor_lt_two_pow _ _ 8 (byteAt_lt _ _) (pow7_lt i)
  by_cases e : j = i / 8
  · rw [if_pos e]
    refine bytesOf_at ?_ hx (by rw [List.length_set, bytesV_length]; exact hj)
    rw [getD_set _ _ _ _ (by rw [bytesV_length]; exact hj), if_pos e.symm]
  · rw [if_neg e]
    refine bytesOf_at ?_ (byteAt_lt _ _) (by rw [List.length_set, bytesV_length]; exact hj)
    rw [getD_set _ _ _ _ (by rw [bytesV_length]; exact hj), if_neg (fun h => e h.symm), List.getD_eq_getElem?_getD, bytesV_get s hj]
    rfl
theorem flip_cut {s : ByteArray} (h : s.size = 8) {i : Nat} (hi : i < 63) : (flipS s i).extract 0 7 = fixS (s.extract 0 7) i := by
  have hc : (s.extract 0 7).size = 7 := by rw [ByteArray.size_extract]; omega
  have hs : ((flipS s i).extract 0 7).size = 7 := by rw [ByteArray.size_extract, flip_size]; omega
  have hf : (fixS (s.extract 0 7) i).size = 7 := by unfold fixS; split; rw [flip_size]; exact hc; exact hc
  apply bytes_eq (by omega)
  intro j hj
  rw [byteAt_cut, if_pos (by omega), Nat.zero_add, flip_at s (by omega) (by omega)]
  unfold fixS
  by_cases h5 : i < 56
  · rw [if_pos h5, flip_at _ (by omega) (by omega), byteAt_cut, byteAt_cut, Nat.zero_add, Nat.zero_add, if_pos (show i / 8 < 7 by omega), if_pos (show j < 7 by omega)]
  · rw [if_neg h5, if_neg (by omega), byteAt_cut, if_pos (by omega), Nat.zero_add]
end Go.Am.Clt
