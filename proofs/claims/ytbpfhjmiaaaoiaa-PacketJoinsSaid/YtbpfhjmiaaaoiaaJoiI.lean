/-
  Joiner: New, Feed of whatever is given, Split, shown. Own work.
-/
import Derived.Test.YtbpfhjmiaaaoiaaJoiG
import Derived.Test.YtbpfhjmiaaaoiaaJoiH
import Derived.Test.YtbpfhjmiaaaoiaaOwnF
import Derived.Test.YtbpfhjmiaaaoiaaPktK
namespace Go.Am.Joi
open Go Go.Am Go.Am.Lib Go.Lib Go.Proofs Go.RowKit
open Go.Am.Own
open Go.Am.Pkt (G0 none_ok badS sSplit okSplit manyP flP rowsP rowP part okShown)
set_option maxRecDepth 100000

def js0 : Js := fun _ => none
theorem new_at (w : World) : Calls Try.prog 15 #[] w fun e w' => ∃ g, e = .returned (.pointer (some ⟨g, 0, none⟩)) ∧ JAt (fun k => w.heap.size ≤ k) g 0 js0 w' ∧ Below w.heap.size w w' ∧ w.heap.size ≤ g := by
  have hm := World.ownsMap_made (H := Value) w Try.prog 3 RK
  obtain ⟨W1, hW1⟩ : ∃ W, w.alloc (.map #[] 0) = W := ⟨_, rfl⟩
  have b1 := (Below.refl w.heap.size w).alloc (Nat.le_refl _) (.map #[] 0)
  have sz1 : W1.heap.size = w.heap.size + 1 := by rw [← hW1, alloc_size]
  rw [hW1] at hm b1
  obtain ⟨mb, hmb⟩ : ∃ k, w.heap.size = k := ⟨_, rfl⟩
  have b2 := b1.alloc b1.size (.cells #[.map (some mb)] 38)
  have hJ : JAt (fun k => w.heap.size ≤ k) W1.heap.size 0 js0 (W1.alloc (.cells #[.map (some mb)] 38)) := by
    refine ⟨mb, fun _ => .slice none 0 0, .map [], ?_⟩
    refine { hS := fun k hk => Nat.le_trans b2.size hk, cell := heap_alloc_new W1 _, hb := b1.size, hm := Nat.le_of_eq hmb, map := by rw [hmb] at hm; exact hm.alloc _, no := fun _ _ => rfl, yes := fun a k hk => (by cases hk), keys := fun l hl => (by cases hl), ap := fun a k hk => (by cases hk), row := fun a k hk => (by cases hk), rs := fun a k hk => (by cases hk), dis := fun a a' k k' hk => (by cases hk) }
  rw [hmb] at hm
  have hg : w.heap.size ≤ W1.heap.size := b1.size
  have e1 : W1.heap.size = mb + 1 := by omega
  rw [e1] at hJ hg
  have hmk : (Instr.makeMap 36 none).run Try.prog w = .ok (.map (some mb)) W1 := by rw [← hmb, ← hW1]; rfl
  go_enter Try.func15, Try.ntmps15
  go_wp2
  go_ret
  exact ⟨_, rfl, hJ, b2, hg⟩
/-- What a packet, whatever it is, makes of the joiner. -/
def feedJ (J : Js) (a f n : Int) (d : ByteArray) : Js := if Pkt.validB a f n d = true ∧ a ≠ 2047 then J.set a.toNat (newK (J a.toNat) f.toNat n.toNat d) else J
def feedA (J : Js) (a f n : Int) (d : ByteArray) : An := if Pkt.validB a f n d = true ∧ a ≠ 2047 then ansK (J a.toNat) f.toNat n.toNat d else ⟨false, ⟨#[]⟩, 0, false⟩
def feedE (a f n : Int) (d : ByteArray) : Int := if Pkt.validB a f n d = true then 0 else 2
variable {S : Nat → Prop} {b N : Nat} {J : Js} {w : World}
theorem JAt.up {N' : Nat} (h : JAt S b N J w) (hN : N ≤ N') : JAt S b N' J w := by
  obtain ⟨mb, tvs, D, h⟩ := h
  exact ⟨mb, tvs, D, ⟨h.hS, h.cell, h.hb, h.hm, h.map.mono hN, h.no, h.yes, h.keys, h.ap, h.row, h.rs, h.dis⟩⟩
theorem feed_any (h : JAt S b N J w) (hN : N < maxLen) (c : Bool) (a f n : Int) (d : ByteArray) :
    Calls Try.prog 16 #[.pointer (some ⟨b, 0, none⟩), .agg #[.bool c, .int .i64 a, .int .i64 f, .int .i64 n, .string d]] w fun e w' => e = .returned (.tuple #[ansV (feedA J a f n d), .int .i64 (feedE a f n d)]) ∧ JAt S b (N + 1) (feedJ J a f n d) w' ∧ FrS S w w' := by
  have early : ∀ er : Int, ((Pkt.validB a f n d = false ∧ er = 2) ∨ (Pkt.validB a f n d = true ∧ a = 2047 ∧ er = 0)) → Calls Try.prog 16 #[.pointer (some ⟨b, 0, none⟩), .agg #[.bool c, .int .i64 a, .int .i64 f, .int .i64 n, .string d]] w fun e w' => e = .returned (.tuple #[zAn, .int .i64 er]) ∧ JAt S b (N + 1) J w' ∧ FrS S w w' := fun er he => by
    obtain ⟨mb, tvs, D, hj⟩ := h
    refine (feed_early (.pointer (some ⟨b, 0, none⟩)) c a f n d w false false er (fun w' hb => none_calls b mb w' (cell_of (hj.below hb).cell)) (by
      rcases he with ⟨h1, h2⟩ | ⟨h1, h2, h3⟩
      · exact .inr (.inl ⟨rfl, h1, h2⟩)
      · exact .inr (.inr ⟨rfl, h1, h2, h3⟩))).mono fun e w' ⟨e1, e2⟩ => ⟨e1, (JAt.below ⟨mb, tvs, D, hj⟩ e2).up (Nat.le_succ N), fr_of e2 hj.hS⟩
  cases hv : Pkt.validB a f n d with
  | false =>
    have eA : feedA J a f n d = ⟨false, ⟨#[]⟩, 0, false⟩ := if_neg fun hh => by rw [hv] at hh; cases hh.1
    have eJ : feedJ J a f n d = J := if_neg fun hh => by rw [hv] at hh; cases hh.1
    have eE : feedE a f n d = 2 := if_neg fun hh => by rw [hv] at hh; cases hh
    rw [eA, eJ, eE]
    exact early 2 (.inl ⟨hv, rfl⟩)
  | true =>
    have eE : feedE a f n d = 0 := if_pos hv
    by_cases ha : a = 2047
    · have eA : feedA J a f n d = ⟨false, ⟨#[]⟩, 0, false⟩ := if_neg fun hh => hh.2 ha
      have eJ : feedJ J a f n d = J := if_neg fun hh => hh.2 ha
      rw [eA, eJ, eE]
      exact early 0 (.inr ⟨hv, ha, rfl⟩)
    · have eA : feedA J a f n d = ansK (J a.toNat) f.toNat n.toNat d := if_pos ⟨hv, ha⟩
      have eJ : feedJ J a f n d = J.set a.toNat (newK (J a.toNat) f.toNat n.toNat d) := if_pos ⟨hv, ha⟩
      rw [eA, eJ, eE]
      have hvb := Pkt.validB_iff.1 hv
      obtain ⟨a', rfl⟩ := nat_of (n := a) (by omega)
      obtain ⟨f', rfl⟩ := nat_of (n := f) (by omega)
      obtain ⟨n', rfl⟩ := nat_of (n := n) (by omega)
      exact feed_at h hN c hv (by omega)
theorem shown_calls (w : World) : Calls Try.prog 10 #[] w fun e w' => e = .returned (.bool true) ∧ Below w.heap.size w w' :=
  flat_calls okShown w (args := []) rfl (v := .bool true) rfl ⟨rfl, rfl⟩
theorem rows_flat (c : Bool) (a n : Nat) (s : ByteArray) (m : Nat) (fl : Nat → Nat) : ∀ k, flatL (rowsP c a n s m fl k) = true
  | 0 => rfl
  | k + 1 => flatL_append (rows_flat c a n s m fl k) rfl
/-- Split of a message that can be split. -/
theorem split_calls (c : Bool) {a n m : Nat} {s : ByteArray} (ha : a < 2047) (hn : n ≤ 16383) (m0 : 1 ≤ m) (m1 : m ≤ 1024) (s0 : 1 ≤ s.size) (s1 : s.size ≤ 16384) (w : World) :
    Calls Try.prog 20 #[.bool c, .int .i64 ((a : Nat) : Int), .int .i64 ((n : Nat) : Int), .string s, .int .i64 ((m : Nat) : Int)] w fun e w' => ∃ g o c', e = .returned (.tuple #[.slice (some ⟨g, o, none⟩) (manyP s m) c', .int .i64 0]) ∧ w.heap.size ≤ g ∧ g < w'.heap.size ∧ manyP s m ≤ c' ∧
      (∀ i q v, i < manyP s m → q < 5 → (rowP c a n s m (flP (manyP s m)) i)[q]? = some v → w'.cell? ⟨g, o + (5 * i + q), none⟩ = some v) ∧ Below w.heap.size w w' := by
  have hL : 0 < manyP s m := by unfold manyP; exact Nat.div_pos (by omega) (by omega)
  refine (calls_block okSplit w (gok0 w) (args := [.bool c, .int .i64 ((a : Nat) : Int), .int .i64 ((n : Nat) : Int), .string s, .int .i64 ((m : Nat) : Int)]) rfl (tl := [.int .i64 0]) rfl (n := manyP s m) (c := 10) hL (R := rowsP c a n s m (flP (manyP s m)) (manyP s m)) (rows_flat c a n s m _ _) (T := 23) ?_).mono ?_
  · unfold sSplit
    have hb : badS ((a : Nat) : Int) ((n : Nat) : Int) ((m : Nat) : Int) s = false := decide_eq_false (by omega)
    show cond (badS _ _ _ s) _ _
    rw [hb, cond_false, decide_eq_false (by omega), cond_false]
    exact fun mv => ⟨mv, rfl, rfl⟩
  · rintro e w' ⟨g, o, c', h1, h2, h3, h4, h5, h6⟩
    refine ⟨g, o, c', h1, h2, h3, h4, fun i q v hi hq hv => h5 (5 * i + q) v ?_, h6⟩
    have h7 := Pkt.rows_getD c a n s m (flP (manyP s m)) (k := manyP s m) hi hq
    have h8 : 5 * i + q < (rowsP c a n s m (flP (manyP s m)) (manyP s m)).length := by rw [Pkt.rows_len]; omega
    rw [List.getElem?_eq_getElem h8]
    rw [List.getD_eq_getElem?_getD, List.getD_eq_getElem?_getD, List.getElem?_eq_getElem h8, hv] at h7
    exact congrArg some h7
end Go.Am.Joi
