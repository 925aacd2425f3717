/-
  Joiner: PacketLosses: what it calls. Own work.
-/
import Derived.Test.YtbpfhjmiaaaoiaaJoiW
namespace Go.Am.Joi
open Go Go.Am Go.Am.Lib Go.Lib Go.Proofs Go.RowKit
open Go.Am.Own
open Go.Am.Pkt (G0 manyP flP rowP badS sSplit okSplit)
set_option maxRecDepth 100000
variable {W0 V : World} {G : Option Nat} {b N : Nat} {J : Js} {R : Nat → RowM} {w : World} {n m k u : Nat} {s : ByteArray} {bg wh : Bool}
theorem wj_feed (h : Wj W0 V G b (N, J) R w) (hN : N < maxLen) (hl : Ls n m s k (J 9) bg wh u) (hu : u < 16384) (m0 : 1 ≤ m) (m1 : m ≤ 1024) (s1 : s.size ≤ 16384) (hk : k < manyP s m) (c : Bool) :
    Calls Try.prog 16 #[.pointer (some ⟨b, 0, none⟩), .agg #[.bool c, .int .i64 9, .int .i64 ((flP (manyP s m) k : Nat) : Int), .int .i64 (((n + k) % 16384 : Nat) : Int), .string (Pkt.part s m k)]] w
      fun e w' => ∃ (J' : Js) (t : ByteArray) (br : Bool), e = .returned (.tuple #[.agg #[.bool (wh && decide (k + 1 = manyP s m)), .string t, .int .i64 (((if bg = true then u else 0) : Nat) : Int), .bool br], .int .i64 0]) ∧ Hid (wh = true → k + 1 = manyP s m → t = s) ∧ Ls n m s (k + 1) (J' 9) true wh 0 ∧ Wj W0 V G b (N + 1, J') R w' := by
  obtain ⟨f1, f2, f3, f4⟩ := hl.fed hu m0 s1 hk
  have hv := pk_valid (n := n) m0 m1 hk (a := 9) (by decide)
  have c0 := h.call (x' := (N + 1, J.set 9 (newK (J 9) (flP (manyP s m) k) ((n + k) % 16384) (Pkt.part s m k)))) (E := fun e => e = .returned (.tuple #[ansV (ansK (J 9) (flP (manyP s m) k) ((n + k) % 16384) (Pkt.part s m k)), .int .i64 0]))
    fun S hS => feed_at hS hN c hv (by decide)
  refine Calls.mono c0 ?_
  rintro e w' ⟨rfl, hw⟩
  refine ⟨_, _, (ansK (J 9) (flP (manyP s m) k) ((n + k) % 16384) (Pkt.part s m k)).broken, ?_, f3, ?_, hw⟩
  · unfold ansV
    rw [f1, f2]
  · rw [Js.set_same]; exact f4
theorem many_le (m0 : 1 ≤ m) (s0 : 1 ≤ s.size) : manyP s m ≤ s.size := by
  rcases Nat.eq_zero_or_pos (manyP s m) with h | h
  · omega
  · have h1 := many_lo (s := s) m0 (i := manyP s m - 1) (by omega)
    have h2 : manyP s m - 1 ≤ (manyP s m - 1) * m := Nat.le_mul_of_pos_right _ m0
    omega
/-- Split of a message that is empty. -/
theorem split_empty (c : Bool) (a n m : Int) (w : World) : Calls Try.prog 20 #[.bool c, .int .i64 a, .int .i64 n, .string ⟨#[]⟩, .int .i64 m] w fun e w' => e = .returned (.tuple #[.slice none 0 0, .int .i64 2]) ∧ Below w.heap.size w w' :=
  split_bad c a n m ⟨#[]⟩ (by unfold badS; exact decide_eq_true (.inr (.inr (.inr (.inr (.inr (.inr rfl))))))) w
end Go.Am.Joi
