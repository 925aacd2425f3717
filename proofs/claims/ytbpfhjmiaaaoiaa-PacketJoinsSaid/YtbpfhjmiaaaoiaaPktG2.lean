/-
  Packet: the encoding and its reading, in plain terms. Own work; no program in sight.
-/
import Derived.Test.YtbpfhjmiaaaoiaaPktX
namespace Go.Am.Pkt
open Go Go.Am

theorem ba_ext {a b : ByteArray} (h : a.data.toList = b.data.toList) : a = b := ByteArray.ext (Array.toList_inj.1 h)
theorem ba_size (a : ByteArray) : a.size = a.data.toList.length := rfl
theorem ext_list (s : ByteArray) (i j : Nat) : (s.extract i j).data.toList = (s.data.toList.drop i).take (j - i) := by
  rw [ByteArray.data_extract, Array.toList_extract, List.extract_eq_take_drop]
theorem app_list (a b : ByteArray) : (a.append b).data.toList = a.data.toList ++ b.data.toList := by
  show (a ++ b).data.toList = _
  rw [ByteArray.data_append, Array.toList_append]
theorem byt_list {s : ByteArray} {l : List UInt8} (h : s.data.toList = l) (i : Nat) : byt s i = (l.getD i 0).toNat := by unfold byt; rw [h]
theorem enc_list (c : Bool) (a f n : Nat) (d : ByteArray) : (encS c a f n d).data.toList = by2 (a + if c then 4096 else 0) ++ (by2 (f * 16384 + n) ++ (by2 (d.size - 1) ++ d.data.toList)) := by
  unfold encS
  rw [ByteArray.data_append, Array.toList_append]
  simp
theorem enc_size (c : Bool) (a f n : Nat) (d : ByteArray) : (encS c a f n d).size = 6 + d.size := by
  rw [ba_size, enc_list, ba_size]
  simp [by2]; omega
theorem u8_nat {x : Nat} (h : x < 256) : (UInt8.ofNat x).toNat = x := by
  rw [UInt8.toNat_ofNat']; omega
/-- The first six bytes of an encoding. -/
theorem head6 {c : Bool} {a f n : Nat} {d s : ByteArray} {r : List UInt8} (ha : a ≤ 2047) (hf : f ≤ 3) (hn : n ≤ 16383) (d1 : d.size ≤ 1024)
    (hs : s.data.toList = by2 (a + if c then 4096 else 0) ++ (by2 (f * 16384 + n) ++ (by2 (d.size - 1) ++ r))) :
    byt s 0 = (a + if c then 4096 else 0) / 256 ∧ byt s 1 = (a + if c then 4096 else 0) % 256 ∧ byt s 2 = (f * 16384 + n) / 256 ∧ byt s 3 = (f * 16384 + n) % 256 ∧ byt s 4 = (d.size - 1) / 256 ∧ byt s 5 = (d.size - 1) % 256 := by
  have hA : (a + if c then 4096 else 0) < 65536 := by split <;> omega
  refine ⟨?_, ?_, ?_, ?_, ?_, ?_⟩ <;> rw [byt_list hs]
  · exact u8_nat (by omega)
  · exact u8_nat (by omega)
  · exact u8_nat (by omega)
  · exact u8_nat (by omega)
  · exact u8_nat (by omega)
  · exact u8_nat (by omega)
theorem good6 {c : Bool} {a f n : Nat} {d s : ByteArray} {r : List UInt8} (ha : a ≤ 2047) (hf : f ≤ 3) (hn : n ≤ 16383) (d0 : 1 ≤ d.size) (d1 : d.size ≤ 1024)
    (hs : s.data.toList = by2 (a + if c then 4096 else 0) ++ (by2 (f * 16384 + n) ++ (by2 (d.size - 1) ++ r))) : ¬ badP s ∧ lenT s = 6 + d.size := by
  obtain ⟨h0, h1, h2, h3, h4, h5⟩ := head6 ha hf hn d1 hs
  have hA : (a + if c then 4096 else 0) / 256 < 32 ∧ (a + if c then 4096 else 0) / 256 / 8 % 2 = 0 := by split <;> omega
  constructor
  · rintro (⟨_, h | h⟩ | ⟨_, h⟩)
    · rw [h0] at h; omega
    · rw [h0] at h; omega
    · rw [h4] at h; omega
  · unfold lenT; rw [h4, h5]; omega
theorem take_enc {c : Bool} {a f n : Nat} {d s : ByteArray} {r : List UInt8} (ha : a ≤ 2047) (hf : f ≤ 3) (hn : n ≤ 16383) (d0 : 1 ≤ d.size) (d1 : d.size ≤ 1024)
    (hs : s.data.toList = (encS c a f n d).data.toList ++ r) : takeE s = 0 ∧ pL s = 6 + d.size ∧ pC s = c ∧ pA s = a ∧ pF s = f ∧ pN s = n ∧ pD s = d := by
  rw [enc_list] at hs
  simp only [List.append_assoc] at hs
  obtain ⟨h0, h1, h2, h3, h4, h5⟩ := head6 ha hf hn d1 hs
  obtain ⟨nb, hl⟩ := good6 ha hf hn d0 d1 hs
  have hsz : s.size = 6 + d.size + r.length := by
    rw [ba_size, hs, ba_size d]; simp [by2]; omega
  have e0 : takeE s = 0 := takeE_ok nb (by omega)
  have ht : third s = f * 16384 + n := by unfold third; rw [h2, h3]; omega
  refine ⟨e0, ?_, ?_, ?_, ?_, ?_, ?_⟩
  · unfold pL; rw [if_pos e0, hl]
  · unfold pC
    rw [h0]
    cases c
    · simp; omega
    · simp [e0]; omega
  · unfold pA
    rw [if_pos e0, h0, h1]
    split <;> omega
  · unfold pF; rw [if_pos e0, ht]; omega
  · unfold pN; rw [if_pos e0, ht]; omega
  · unfold pD
    rw [if_pos e0, hl]
    apply ba_ext
    rw [ext_list, hs]
    have : (by2 (a + if c = true then 4096 else 0) ++ (by2 (f * 16384 + n) ++ (by2 (d.size - 1) ++ (d.data.toList ++ r)))).drop 6 = d.data.toList ++ r := rfl
    rw [this, List.take_append_of_le_length (by rw [← ba_size]; omega), List.take_of_length_le (by rw [← ba_size]; omega)]
theorem take_pre {c : Bool} {a f n k : Nat} {d : ByteArray} (ha : a ≤ 2047) (hf : f ≤ 3) (hn : n ≤ 16383) (d0 : 1 ≤ d.size) (d1 : d.size ≤ 1024) (hk : k < 6 + d.size) :
    takeE ((encS c a f n d).extract 0 k) = 4 ∧ pL ((encS c a f n d).extract 0 k) = 0 := by
  obtain ⟨E, hE⟩ : ∃ E, E = encS c a f n d := ⟨_, rfl⟩
  have hes : E.size = 6 + d.size := by rw [hE, enc_size]
  have hEl := enc_list c a f n d
  rw [← hE] at hEl
  obtain ⟨h0, h1, h2, h3, h4, h5⟩ := head6 ha hf hn d1 hEl
  obtain ⟨nb, hl⟩ := good6 ha hf hn d0 d1 hEl
  rw [← hE]
  obtain ⟨s, hs⟩ : ∃ s, s = E.extract 0 k := ⟨_, rfl⟩
  rw [← hs]
  have hsl : s.data.toList = E.data.toList.take k := by rw [hs, ext_list, List.drop_zero, Nat.sub_zero]
  have hsz : s.size = k := by rw [ba_size, hsl, List.length_take, ← ba_size, hes]; omega
  have hb : ∀ i, i < k → byt s i = byt E i := fun i hi => by
    unfold byt
    rw [hsl, List.getD_eq_getElem?_getD, List.getElem?_take_of_lt hi, ← List.getD_eq_getElem?_getD]
  have nb' : ¬ badP s := by
    rintro (⟨z, h⟩ | ⟨z, h⟩)
    · rw [hb 0 (by omega)] at h; exact nb (.inl ⟨by omega, h⟩)
    · rw [hb 4 (by omega)] at h; exact nb (.inr ⟨by omega, h⟩)
  have e4 : takeE s = 4 := takeE_short nb' (by
    by_cases z : s.size < 6
    · exact .inl z
    · right
      have : lenT s = lenT E := by unfold lenT; rw [hb 4 (by omega), hb 5 (by omega)]
      omega)
  exact ⟨e4, by unfold pL; rw [if_neg (by rw [e4]; decide)]⟩
theorem u8_byt {s : ByteArray} {i : Nat} (h : i < s.size) : s.data.toList[i]? = some (UInt8.ofNat (byt s i)) := by
  unfold byt
  rw [ba_size] at h
  rw [List.getD_eq_getElem?_getD, List.getElem?_eq_getElem h]
  simp
theorem split6 {s : ByteArray} (h : 6 ≤ s.size) : s.data.toList = [UInt8.ofNat (byt s 0), UInt8.ofNat (byt s 1), UInt8.ofNat (byt s 2), UInt8.ofNat (byt s 3), UInt8.ofNat (byt s 4), UInt8.ofNat (byt s 5)] ++ s.data.toList.drop 6 := by
  have e0 := u8_byt (s := s) (i := 0) (by omega)
  have e1 := u8_byt (s := s) (i := 1) (by omega)
  have e2 := u8_byt (s := s) (i := 2) (by omega)
  have e3 := u8_byt (s := s) (i := 3) (by omega)
  have e4 := u8_byt (s := s) (i := 4) (by omega)
  have e5 := u8_byt (s := s) (i := 5) (by omega)
  match hl : s.data.toList, h with
  | x0 :: x1 :: x2 :: x3 :: x4 :: x5 :: r, _ =>
    rw [hl] at e0 e1 e2 e3 e4 e5
    simp only [List.getElem?_cons_zero, List.getElem?_cons_succ, Option.some.injEq] at e0 e1 e2 e3 e4 e5
    rw [← e0, ← e1, ← e2, ← e3, ← e4, ← e5]
    rfl
  | [], h => rw [ba_size, hl] at h; simp at h
  | [_], h => rw [ba_size, hl] at h; simp at h
  | [_, _], h => rw [ba_size, hl] at h; simp at h
  | [_, _, _], h => rw [ba_size, hl] at h; simp at h
  | [_, _, _, _], h => rw [ba_size, hl] at h; simp at h
  | [_, _, _, _, _], h => rw [ba_size, hl] at h; simp at h
theorem take_back {t : ByteArray} (h : takeE t = 0) : validB ((pA t : Nat) : Int) ((pF t : Nat) : Int) ((pN t : Nat) : Int) (pD t) = true ∧ encS (pC t) (pA t) (pF t) (pN t) (pD t) = t.extract 0 (pL t) ∧ pL t ≤ t.size := by
  have nb : ¬ badP t := fun b => by rw [takeE_bad b] at h; exact absurd h (by decide)
  have ns : ¬ (t.size < 6 ∨ t.size < lenT t) := fun b => by rw [takeE_short nb b] at h; exact absurd h (by decide)
  have l0 := byt_lt t 0
  have l1 := byt_lt t 1
  have l2 := byt_lt t 2
  have l3 := byt_lt t 3
  have l4 := byt_lt t 4
  have l5 := byt_lt t 5
  have b0 : byt t 0 < 32 ∧ byt t 0 / 8 % 2 = 0 := by
    have h1 : ¬ 32 ≤ byt t 0 := fun z => nb (.inl ⟨by omega, .inl z⟩)
    have h2 : ¬ byt t 0 / 8 % 2 = 1 := fun z => nb (.inl ⟨by omega, .inr z⟩)
    omega
  have b4 : byt t 4 < 4 := by
    have : ¬ 4 ≤ byt t 4 := fun z => nb (.inr ⟨by omega, z⟩)
    omega
  have hl : lenT t = 7 + byt t 4 * 256 + byt t 5 := by unfold lenT; omega
  have hth : third t < 65536 := by unfold third; omega
  unfold pA pF pN pD pL
  rw [if_pos h, if_pos h, if_pos h, if_pos h, if_pos h]
  have hds : (t.extract 6 (lenT t)).size = lenT t - 6 := by rw [ByteArray.size_extract]; omega
  refine ⟨?_, ?_, by omega⟩
  · rw [validB_iff, hds]; omega
  · apply ba_ext
    rw [enc_list, hds, ext_list, ext_list, List.drop_zero, Nat.sub_zero]
    have eA : (byt t 0 % 8 * 256 + byt t 1 + if pC t = true then 4096 else 0) = byt t 0 * 256 + byt t 1 := by
      unfold pC
      by_cases z : 16 ≤ byt t 0
      · rw [decide_eq_true ⟨h, z⟩, if_pos rfl]; omega
      · rw [decide_eq_false (fun y => z y.2), if_neg (by decide)]; omega
    have eM : third t / 16384 * 16384 + third t % 16384 = third t := by rw [Nat.mul_comm]; exact Nat.div_add_mod (third t) 16384
    rw [eA, eM]
    obtain ⟨R, hR⟩ : ∃ R, R = t.data.toList.drop 6 := ⟨_, rfl⟩
    have h6 := split6 (s := t) (by omega)
    rw [← hR] at h6 ⊢
    rw [h6]
    have hby : ∀ x y : Nat, x < 256 → y < 256 → by2 (x * 256 + y) = [UInt8.ofNat x, UInt8.ofNat y] := fun x y hx hy => by
      unfold by2
      rw [show (x * 256 + y) / 256 = x by omega, show (x * 256 + y) % 256 = y by omega]
    rw [hby _ _ (by omega) (by omega)]
    unfold third
    rw [hby _ _ (by omega) (by omega), show lenT t - 6 - 1 = byt t 4 * 256 + byt t 5 by omega, hby _ _ (by omega) (by omega)]
    have e6 : ∀ (a b c d e f : UInt8) (R : List UInt8), ([a, b, c, d, e, f] ++ R).take (lenT t) = [a, b] ++ ([c, d] ++ ([e, f] ++ R.take (lenT t - 6))) := fun a b c d e f R => by
      obtain ⟨k, hk⟩ : ∃ k, lenT t = k + 6 := ⟨lenT t - 6, by omega⟩
      rw [hk, Nat.add_sub_cancel]
      rfl
    rw [e6]
end Go.Am.Pkt
