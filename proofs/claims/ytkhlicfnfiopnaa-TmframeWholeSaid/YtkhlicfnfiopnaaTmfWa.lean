/-
  Tmframe: TmframeWhole: the stream that a filler returns is packets, one after the other. Own work; plain mathematics.
-/
import Derived.Test.YtkhlicfnfiopnaaTmfAD
import Derived.Test.YtkhlicfnfiopnaaTmfQ
import Derived.Test.YtkhlicfnfiopnaaPktG2
namespace Go.Am.Tmf
open Go Go.Am Go.Am.Lib Go.Proofs
set_option maxRecDepth 100000

def madeL (n : Nat) : L8 := (madeS n).data.toList
/-- What stands in a queue: packets that were made, and idle ones. -/
def Itm (p : L8) : Prop := (∃ k, 7 ≤ k ∧ k ≤ 306 ∧ p = madeL k) ∨ (∃ k, 7 ≤ k ∧ k ≤ 200 ∧ p = idleL k)
def real (p : L8) : Bool := decide (Pkt.pA (strB p) ≠ 2047)
theorem itm_enc {p : L8} (h : Itm p) : ∃ (a : Nat) (d : ByteArray), a ≤ 2047 ∧ 1 ≤ d.size ∧ d.size ≤ 300 ∧ p = (Pkt.encS false a 3 0 d).data.toList := by
  rcases h with ⟨k, k0, k1, rfl⟩ | ⟨k, k0, k1, rfl⟩
  · refine ⟨3, zerosB (k - 6), by decide, ?_, ?_, rfl⟩
    · rw [zerosB_size]; omega
    · rw [zerosB_size]; omega
  · have e : idleL k = (Pkt.encS false 2047 3 0 ⟨⟨List.replicate (k - 6) 0⟩⟩).data.toList := by
      unfold idleL idleS
      rw [if_neg (by omega), Int.toNat_natCast]
    have hs : (⟨⟨List.replicate (k - 6) 0⟩⟩ : ByteArray).size = k - 6 := by
      show (List.replicate (k - 6) (0 : UInt8)).length = _
      rw [List.length_replicate]
    exact ⟨2047, _, Nat.le_refl _, by rw [hs]; omega, by rw [hs]; omega, e⟩
theorem itm_take {p : L8} (h : Itm p) {s : ByteArray} {r : L8} (hs : s.data.toList = p ++ r) : Pkt.takeE s = 0 ∧ Pkt.pL s = p.length ∧ (real p = decide (Pkt.pA s ≠ 2047)) := by
  obtain ⟨a, d, a1, d0, d1, rfl⟩ := itm_enc h
  obtain ⟨h1, h2, _, h4, _⟩ := Pkt.take_enc a1 (by decide) (by decide) d0 (by omega) hs
  obtain ⟨_, _, _, g4, _⟩ := Pkt.take_enc (c := false) (a := a) (f := 3) (n := 0) (d := d) (s := strB (Pkt.encS false a 3 0 d).data.toList) (r := []) a1 (by decide) (by decide) d0 (by omega) (by rw [List.append_nil]; rfl)
  refine ⟨h1, ?_, ?_⟩
  · rw [h2, ← Pkt.ba_size, Pkt.enc_size]
  · unfold real; rw [h4, g4]
theorem itm_pre {p : L8} (h : Itm p) {s : ByteArray} {k : Nat} (hk : k < p.length) (hs : s.data.toList = p.take k) : Pkt.takeE s = 4 := by
  obtain ⟨a, d, a1, d0, d1, rfl⟩ := itm_enc h
  rw [← Pkt.ba_size, Pkt.enc_size] at hk
  have e : s = (Pkt.encS false a 3 0 d).extract 0 k := Pkt.ba_ext (by rw [hs, Pkt.ext_list, List.drop_zero, Nat.sub_zero])
  rw [e]
  exact (Pkt.take_pre a1 (by decide) (by decide) d0 (by omega) hk).1
theorem itm_len {p : L8} (h : Itm p) : 7 ≤ p.length ∧ p.length ≤ 306 := by
  obtain ⟨a, d, a1, d0, d1, rfl⟩ := itm_enc h
  rw [← Pkt.ba_size, Pkt.enc_size]; omega
theorem real_made {k : Nat} (h0 : 7 ≤ k) (h1 : k ≤ 306) : real (madeL k) = true := by
  have hd : (zerosB (k - 6)).size = k - 6 := zerosB_size _
  obtain ⟨_, _, _, g4, _⟩ := Pkt.take_enc (c := false) (a := 3) (f := 3) (n := 0) (d := zerosB (k - 6)) (s := strB (madeL k)) (r := []) (by decide) (by decide) (by decide) (by omega) (by omega) (by rw [List.append_nil]; rfl)
  unfold real; rw [g4]; rfl
theorem real_idle {k : Nat} (h0 : 7 ≤ k) (h1 : k ≤ 200) : real (idleL k) = false := by
  have hs : (⟨⟨List.replicate (k - 6) 0⟩⟩ : ByteArray).size = k - 6 := by
    show (List.replicate (k - 6) (0 : UInt8)).length = _
    rw [List.length_replicate]
  have e : idleL k = (Pkt.encS false 2047 3 0 ⟨⟨List.replicate (k - 6) 0⟩⟩).data.toList := by
    unfold idleL idleS
    rw [if_neg (by omega), Int.toNat_natCast]
  obtain ⟨_, _, _, g4, _⟩ := Pkt.take_enc (c := false) (a := 2047) (f := 3) (n := 0) (d := ⟨⟨List.replicate (k - 6) 0⟩⟩) (s := strB (idleL k)) (r := []) (by decide) (by decide) (by decide) (by omega) (by omega) (by rw [List.append_nil, e]; rfl)
  unfold real; rw [g4]; rfl

/-! ### the stream -/
theorem cutS_cutS (a b : Nat) : ∀ l : List Nat, cutS a (cutS b l) = cutS (b + a) l
  | [] => rfl
  | x :: l => by
    have ih := cutS_cutS a b l
    by_cases h1 : b ≤ x
    · have e1 : cutS b (x :: l) = (x - b) :: cutS b l := by unfold cutS; rw [List.filter_cons, decide_eq_true h1, if_pos rfl, List.map_cons]
      rw [e1]
      by_cases h2 : b + a ≤ x
      · have e2 : cutS (b + a) (x :: l) = (x - (b + a)) :: cutS (b + a) l := by unfold cutS; rw [List.filter_cons, decide_eq_true h2, if_pos rfl, List.map_cons]
        have e3 : cutS a ((x - b) :: cutS b l) = (x - b - a) :: cutS a (cutS b l) := by
          conv => lhs; unfold cutS
          rw [List.filter_cons, decide_eq_true (show a ≤ x - b by omega), if_pos rfl, List.map_cons]; rfl
        rw [e2, e3, ih, Nat.sub_sub]
      · rw [cutS_drop (show x < b + a by omega), cutS_drop (show x - b < a by omega), ih]
    · rw [cutS_drop (show x < b by omega), cutS_drop (show x < b + a by omega), ih]
theorem firstOf_far {n a : Nat} (l : List Nat) (h : n ≤ a) : firstOf n (l ++ [a]) = firstOf n l := by
  cases l with
  | nil => rw [List.nil_append, firstOf_cons, if_neg (by omega)]; rfl
  | cons b l => rfl
structure Str0 (n : Nat) (x : FS) (A : L8) (T : List L8) (fs : List Nat) : Prop where
  size : x.size = n
  lo : 32 ≤ n
  hi : n ≤ 200
  flat : A ++ x.q = cat T
  st : x.st = cutS A.length (stOf 0 false T)
  fl : fs.length * n = A.length
  fk : ∀ k, k < fs.length → fs[k]? = some (firstOf n (cutS (k * n) (stOf 0 false T)))
  itm : ∀ p ∈ T, Itm p
structure Str (n : Nat) (x : FS) (A : L8) (T want : List L8) (fs : List Nat) : Prop extends Str0 n x A T fs where
  idle : x.idle ≤ 6
  qi : x.idle ≤ x.q.length
  last : x.idle = 0 ∨ ∃ T0 m T2, T = T0 ++ idleL m :: T2 ∧ A ++ x.q.take x.idle = cat (T0 ++ [idleL m]) ∧ 7 ≤ m ∧ m ≤ 200
  want : want = T.filter real
theorem lenS_eq {n : Nat} {x : FS} {A : L8} {T : List L8} {fs : List Nat} (h : Str0 n x A T fs) : lenS T = A.length + x.q.length := by
  unfold lenS; rw [← h.flat, List.length_append]
theorem cat_snoc (T : List L8) (p : L8) : cat (T ++ [p]) = cat T ++ p := by unfold cat; rw [List.flatten_append]; simp
theorem Str0.add {n : Nat} {x : FS} {A : L8} {T : List L8} {fs : List Nat} (h : Str0 n x A T fs) {p : L8} (hp : Itm p) : Str0 n (x.add p) A (T ++ [p]) fs := by
  have hl := lenS_eq h
  have hs := stOf_snoc T 0 false p (fun _ => rfl)
  rw [Nat.zero_add] at hs
  refine ⟨h.size, h.lo, h.hi, ?_, ?_, h.fl, ?_, ?_⟩
  · show A ++ (x.q ++ p) = _
    rw [cat_snoc, ← h.flat, List.append_assoc]
  · show x.st ++ [x.q.length] = _
    rw [hs, cutS_snoc, if_pos (by omega), h.st, hl, Nat.add_sub_cancel_left]
  · intro k hk
    have h1 : (k + 1) * n ≤ fs.length * n := Nat.mul_le_mul_right n hk
    rw [Nat.succ_mul, h.fl] at h1
    rw [h.fk k hk, hs, cutS_snoc, if_pos (by omega), firstOf_far _ (by omega)]
  · intro q hq
    rcases List.mem_append.1 hq with hq | hq
    · exact h.itm q hq
    · rw [List.mem_singleton.1 hq]; exact hp
/-- A field is taken. -/
theorem Str0.cut {n : Nat} {x : FS} {A : L8} {T : List L8} {fs : List Nat} (h : Str0 n x A T fs) (hq : n ≤ x.q.length) : Str0 n x.cut (A ++ x.q.take n) T (fs ++ [firstOf n x.st]) := by
  have ht : (x.q.take n).length = n := by rw [List.length_take]; omega
  refine ⟨h.size, h.lo, h.hi, ?_, ?_, ?_, ?_, h.itm⟩
  · show A ++ x.q.take n ++ x.q.drop x.size = _
    rw [h.size, List.append_assoc, List.take_append_drop, h.flat]
  · show cutS x.size x.st = _
    rw [h.size, h.st, cutS_cutS, List.length_append, ht]
  · rw [List.length_append, List.length_append, ht, List.length_singleton, Nat.succ_mul, h.fl]
  · intro k hk
    rw [List.length_append, List.length_singleton] at hk
    rcases Nat.lt_or_ge k fs.length with hk1 | hk1
    · rw [List.getElem?_append_left hk1, h.fk k hk1]
    · have e : k = fs.length := by omega
      rw [e, List.getElem?_append_right (Nat.le_refl _), Nat.sub_self, h.fl, h.st]; rfl
theorem Str.add {n : Nat} {x : FS} {A : L8} {T want : List L8} {fs : List Nat} (h : Str n x A T want fs) {k : Nat} (k0 : 7 ≤ k) (k1 : k ≤ 306) : Str n (x.add (madeL k)) A (T ++ [madeL k]) (want ++ [madeL k]) fs :=
  { toStr0 := h.toStr0.add (.inl ⟨k, k0, k1, rfl⟩)
    idle := h.idle
    qi := Nat.le_trans h.qi (by show _ ≤ (x.q ++ madeL k).length; rw [List.length_append]; exact Nat.le_add_right _ _)
    last := by
      rcases h.last with h0 | ⟨T0, m, T2, e1, e2, m0, m1⟩
      · exact .inl h0
      · refine .inr ⟨T0, m, T2 ++ [madeL k], by rw [e1, List.append_assoc]; rfl, ?_, m0, m1⟩
        show A ++ (x.q ++ madeL k).take x.idle = _
        rw [List.take_append_of_le_length h.qi, e2]
    want := by rw [List.filter_append, h.want]; simp [real_made k0 k1] }
theorem Str.next_full {n : Nat} {x : FS} {A : L8} {T want : List L8} {fs : List Nat} (h : Str n x A T want fs) (hq : n ≤ x.q.length) :
    Str n (x.next idleL) (A ++ x.data idleL) T want (fs ++ [x.first idleL]) ∧ (x.data idleL).length = n ∧ (x.next idleL).q.length + n = x.q.length := by
  have hsz := h.size
  have hpad : x.pad idleL = { x with idle := 0 } := by unfold FS.pad; rw [if_neg (by omega)]
  have h2 := h.toStr0.cut hq
  have ed : x.data idleL = x.q.take n := by unfold FS.data; rw [hpad, hsz]
  have ef : x.first idleL = firstOf n x.st := by unfold FS.first; rw [hpad, hsz]
  have en : x.next idleL = { x.cut with idle := 0 } := by unfold FS.next; rw [hpad]; rfl
  refine ⟨?_, ?_, ?_⟩
  · rw [ed, ef, en]
    exact { size := h2.size, lo := h2.lo, hi := h2.hi, flat := h2.flat, st := h2.st, fl := h2.fl, fk := h2.fk, itm := h2.itm, idle := Nat.zero_le _, qi := Nat.zero_le _, last := .inl rfl, want := h.want }
  · rw [ed, List.length_take]; omega
  · rw [en]
    show (x.q.drop x.size).length + n = _
    rw [List.length_drop]; omega
theorem Str.next {n : Nat} {x : FS} {A : L8} {T want : List L8} {fs : List Nat} (h : Str n x A T want fs) :
    ∃ T', Str n (x.next idleL) (A ++ x.data idleL) T' want (fs ++ [x.first idleL]) ∧ T'.length ≤ T.length + 1 ∧ (x.data idleL).length = n ∧
      ((x.next idleL).wait = 0 ∨ ((x.next idleL).q.length + n = x.q.length ∧ T' = T)) := by
  have hsz := h.size
  have hlo := h.lo
  have hhi := h.hi
  by_cases hq : x.q.length < x.size
  · obtain ⟨m, hm⟩ : ∃ m, max (x.size - x.q.length) 7 = m := ⟨_, rfl⟩
    have hm7 : 7 ≤ m := by rw [← hm]; exact Nat.le_max_right _ _
    have hm2 : x.size - x.q.length ≤ m := by rw [← hm]; exact Nat.le_max_left _ _
    have hm3 : m ≤ 200 := by rw [← hm]; exact Nat.max_le.2 ⟨by omega, by omega⟩
    have hm4 : m ≤ x.size - x.q.length + 6 := by rw [← hm]; exact Nat.max_le.2 ⟨by omega, by omega⟩
    have hpad : x.pad idleL = { x.add (idleL m) with idle := m - (x.size - x.q.length) } := by
      unfold FS.pad; rw [if_pos hq, hm]
    have hil : (idleL m).length = m := idleL_len hm7 (by omega)
    have h1 := h.toStr0.add (p := idleL m) (.inr ⟨m, hm7, hm3, rfl⟩)
    have hql : (x.q ++ idleL m).length = x.q.length + m := by rw [List.length_append, hil]
    have h2 := h1.cut (by show n ≤ (x.q ++ idleL m).length; omega)
    have hw : ((x.q ++ idleL m).drop x.size).length = m - (x.size - x.q.length) := by rw [List.length_drop, hql]; omega
    have ed : x.data idleL = (x.q ++ idleL m).take n := by unfold FS.data; rw [hpad, hsz]; rfl
    have ef : x.first idleL = firstOf n (x.add (idleL m)).st := by unfold FS.first; rw [hpad, hsz]
    have en : x.next idleL = { (x.add (idleL m)).cut with idle := m - (x.size - x.q.length) } := by unfold FS.next; rw [hpad]; rfl
    refine ⟨T ++ [idleL m], ?_, ?_, ?_, ?_⟩
    · rw [ed, ef, en]
      refine { size := h2.size, lo := h2.lo, hi := h2.hi, flat := h2.flat, st := h2.st, fl := h2.fl, fk := h2.fk, itm := h2.itm, idle := ?_, qi := ?_, last := ?_, want := ?_ }
      · show m - (x.size - x.q.length) ≤ 6; omega
      · show m - (x.size - x.q.length) ≤ ((x.q ++ idleL m).drop x.size).length
        rw [hw]; exact Nat.le_refl _
      · refine .inr ⟨T, m, [], rfl, ?_, hm7, hm3⟩
        show A ++ (x.q ++ idleL m).take n ++ ((x.q ++ idleL m).drop x.size).take (m - (x.size - x.q.length)) = _
        have e9 : ((x.q ++ idleL m).drop x.size).take (m - (x.size - x.q.length)) = (x.q ++ idleL m).drop x.size := List.take_of_length_le (by rw [hw]; exact Nat.le_refl _)
        rw [e9, hsz, List.append_assoc, List.take_append_drop, cat_snoc, ← h.flat, List.append_assoc]
      · rw [List.filter_append, ← h.want]; simp [real_idle hm7 hm3]
    · rw [List.length_append]; exact Nat.le_refl _
    · rw [ed, List.length_take]; omega
    · left
      rw [en]
      show ((x.q ++ idleL m).drop x.size).length - (m - (x.size - x.q.length)) = 0
      rw [hw]; omega
  · obtain ⟨g1, g2, g3⟩ := h.next_full (by omega)
    exact ⟨T, g1, by omega, g2, .inr ⟨g3, rfl⟩⟩
theorem Str.zero {n : Nat} (lo : 32 ≤ n) (hi : n ≤ 200) : Str n (fs0 n) [] [] [] [] :=
  { size := rfl, lo := lo, hi := hi, flat := rfl, st := rfl, fl := Nat.zero_mul _, fk := fun k hk => absurd hk (Nat.not_lt_zero k), itm := fun p hp => (by cases hp), idle := Nat.zero_le _, qi := Nat.zero_le _, last := .inl rfl, want := rfl }
theorem lenS_le : ∀ {T : List L8}, (∀ p ∈ T, Itm p) → lenS T ≤ 306 * T.length
  | [], _ => Nat.zero_le _
  | p :: T, h => by
    have h1 := (itm_len (h p List.mem_cons_self)).2
    have h2 := lenS_le (T := T) fun q hq => h q (List.mem_cons_of_mem _ hq)
    unfold lenS cat at h2 ⊢
    rw [List.flatten_cons, List.length_append, List.length_cons]; omega
theorem Str0.len {n : Nat} {x : FS} {A : L8} {T : List L8} {fs : List Nat} (h : Str0 n x A T fs) : A.length + x.q.length ≤ 306 * T.length := by
  rw [← lenS_eq h]; exact lenS_le h.itm
theorem itm_ne {p : L8} (h : Itm p) : p ≠ [] := fun e => by have := (itm_len h).1; rw [e] at this; simp at this
theorem stOf_length : ∀ (L : List L8) (b : Nat), (stOf b false L).length = L.length
  | [], _ => rfl
  | p :: r, b => by rw [stOf, List.length_cons, List.length_cons, stOf_length r]
theorem Str.okq {n : Nat} {x : FS} {A : L8} {T want : List L8} {fs : List Nat} (h : Str n x A T want fs) {N : Nat} (hT : T.length ≤ N) (hN : N ≤ 2 ^ 20) (hq : x.q.length ≤ 66000) : OkF x N := by
  refine { lo := by rw [h.size]; exact h.lo, hi := by rw [h.size]; exact h.hi, idle := h.qi, q := hq, st := ?_, sv := ?_, n := hN }
  · rw [h.st]
    exact Nat.le_trans (cutS_len _ _) (by rw [stOf_length]; exact hT)
  · intro a ha
    rw [h.st] at ha
    unfold cutS at ha
    obtain ⟨b, hb, rfl⟩ := List.mem_map.1 ha
    have hb := (List.mem_filter.1 hb).1
    have := stOf_lt T 0 false (fun p hp => itm_ne (h.itm p hp)) b hb
    rw [lenS_eq h.toStr0] at this
    omega
theorem Str.ok {n : Nat} {x : FS} {A : L8} {T want : List L8} {fs : List Nat} (h : Str n x A T want fs) {N : Nat} (hT : T.length ≤ N) (hN : N ≤ 200) : OkF x N := h.okq hT (by omega) (by have := h.toStr0.len; omega)
end Go.Am.Tmf
