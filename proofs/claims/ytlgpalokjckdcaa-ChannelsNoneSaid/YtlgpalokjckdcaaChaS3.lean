/-
  Channels: the law of a mux or demux that is none. Own work.
-/
import Derived.Test.YtlgpalokjckdcaaChaGL
namespace Go.Am.Cha
open Go Go.Am Go.Am.Lib Go.Lib Go.Proofs Go.RowKit
open Go.Am.Own
set_option maxRecDepth 100000
attribute [local go_sem] Oper.semAt_some

theorem zcells {W : World} {b : Nat} (h : W.heap[b]? = some (.cells #[.int .i64 0, .bool false, .int .i64 0, .int .i64 0, .slice none 0 0, .int .i64 0, .int .u32 0] 33 (0, 0))) : W.cell? ⟨b, 0, none⟩ = some (.int .i64 0) ∧ W.cell? ⟨b, 1, none⟩ = some (.bool false) ∧ W.cell? ⟨b, 2, none⟩ = some (.int .i64 0) ∧ W.cell? ⟨b, 3, none⟩ = some (.int .i64 0) ∧ W.cell? ⟨b, 4, none⟩ = some (.slice none 0 0) ∧ W.cell? ⟨b, 5, none⟩ = some (.int .i64 0) ∧ W.cell? ⟨b, 6, none⟩ = some (.int .u32 0) :=
  ⟨cell_of h, cell_of h, cell_of h, cell_of h, cell_of h, cell_of h, cell_of h⟩
set_option maxHeartbeats 6400000 in
theorem none_walk (z : Int) (p : ByteArray) (wd : Int) (w : World) : Calls Try.prog 7 #[.int .i64 z, .string p, .int .u32 wd] w fun e w' => e = .returned (.bool true) ∧ Below w.heap.size w w' := by
  have hs := shown_calls w
  go_enter Try.func7, Try.ntmps7
  go_wp2_with (go_at_call 8; refine hs.mono ?_; clear hs; rintro e W1 ⟨rfl, b1⟩)
  have kn : ((W1.alloc (.cells #[.int .i64 0, .int .i64 0, .int .i64 0, .slice none 0 0] 69)).alloc (.cells #[.int .i64 0, .int .i64 0, .bool false, .int .i64 0, .bool false, .string ⟨#[]⟩, .int .i64 0, .bool false, .string ⟨#[]⟩, .bool false, .string ⟨#[]⟩, .int .i64 0, .bool false, .string ⟨#[]⟩, .bool false, .string ⟨#[]⟩, .int .i64 0, .bool false, .string ⟨#[]⟩, .bool false, .string ⟨#[]⟩, .int .i64 0, .bool false, .string ⟨#[]⟩, .bool false, .string ⟨#[]⟩, .int .i64 0, .bool false, .string ⟨#[]⟩, .bool false, .string ⟨#[]⟩, .int .i64 0, .bool false, .string ⟨#[]⟩, .bool false, .string ⟨#[]⟩, .int .i64 0, .bool false, .string ⟨#[]⟩, .bool false, .string ⟨#[]⟩, .int .i64 0, .bool false, .string ⟨#[]⟩] 74)).heap[W1.heap.size]? = some (.cells #[.int .i64 0, .int .i64 0, .int .i64 0, .slice none 0 0] 69 (0, 0)) :=
    ((Below.refl _ (W1.alloc (.cells #[.int .i64 0, .int .i64 0, .int .i64 0, .slice none 0 0] 69))).alloc (Nat.le_refl _) (.cells #[.int .i64 0, .int .i64 0, .bool false, .int .i64 0, .bool false, .string ⟨#[]⟩, .int .i64 0, .bool false, .string ⟨#[]⟩, .bool false, .string ⟨#[]⟩, .int .i64 0, .bool false, .string ⟨#[]⟩, .bool false, .string ⟨#[]⟩, .int .i64 0, .bool false, .string ⟨#[]⟩, .bool false, .string ⟨#[]⟩, .int .i64 0, .bool false, .string ⟨#[]⟩, .bool false, .string ⟨#[]⟩, .int .i64 0, .bool false, .string ⟨#[]⟩, .bool false, .string ⟨#[]⟩, .int .i64 0, .bool false, .string ⟨#[]⟩, .bool false, .string ⟨#[]⟩, .int .i64 0, .bool false, .string ⟨#[]⟩, .bool false, .string ⟨#[]⟩, .int .i64 0, .bool false, .string ⟨#[]⟩] 74) |>.block W1.heap.size (by rw [alloc_size]; omega)).trans (heap_alloc_new W1 _)
  have kg : ((W1.alloc (.cells #[.int .i64 0, .int .i64 0, .int .i64 0, .slice none 0 0] 69)).alloc (.cells #[.int .i64 0, .int .i64 0, .bool false, .int .i64 0, .bool false, .string ⟨#[]⟩, .int .i64 0, .bool false, .string ⟨#[]⟩, .bool false, .string ⟨#[]⟩, .int .i64 0, .bool false, .string ⟨#[]⟩, .bool false, .string ⟨#[]⟩, .int .i64 0, .bool false, .string ⟨#[]⟩, .bool false, .string ⟨#[]⟩, .int .i64 0, .bool false, .string ⟨#[]⟩, .bool false, .string ⟨#[]⟩, .int .i64 0, .bool false, .string ⟨#[]⟩, .bool false, .string ⟨#[]⟩, .int .i64 0, .bool false, .string ⟨#[]⟩, .bool false, .string ⟨#[]⟩, .int .i64 0, .bool false, .string ⟨#[]⟩, .bool false, .string ⟨#[]⟩, .int .i64 0, .bool false, .string ⟨#[]⟩] 74)).heap[W1.heap.size + 1]? = some (.cells #[.int .i64 0, .int .i64 0, .bool false, .int .i64 0, .bool false, .string ⟨#[]⟩, .int .i64 0, .bool false, .string ⟨#[]⟩, .bool false, .string ⟨#[]⟩, .int .i64 0, .bool false, .string ⟨#[]⟩, .bool false, .string ⟨#[]⟩, .int .i64 0, .bool false, .string ⟨#[]⟩, .bool false, .string ⟨#[]⟩, .int .i64 0, .bool false, .string ⟨#[]⟩, .bool false, .string ⟨#[]⟩, .int .i64 0, .bool false, .string ⟨#[]⟩, .bool false, .string ⟨#[]⟩, .int .i64 0, .bool false, .string ⟨#[]⟩, .bool false, .string ⟨#[]⟩, .int .i64 0, .bool false, .string ⟨#[]⟩, .bool false, .string ⟨#[]⟩, .int .i64 0, .bool false, .string ⟨#[]⟩] 74 (0, 0)) := by
    have := heap_alloc_new (W1.alloc (.cells #[.int .i64 0, .int .i64 0, .int .i64 0, .slice none 0 0] 69)) (.cells #[.int .i64 0, .int .i64 0, .bool false, .int .i64 0, .bool false, .string ⟨#[]⟩, .int .i64 0, .bool false, .string ⟨#[]⟩, .bool false, .string ⟨#[]⟩, .int .i64 0, .bool false, .string ⟨#[]⟩, .bool false, .string ⟨#[]⟩, .int .i64 0, .bool false, .string ⟨#[]⟩, .bool false, .string ⟨#[]⟩, .int .i64 0, .bool false, .string ⟨#[]⟩, .bool false, .string ⟨#[]⟩, .int .i64 0, .bool false, .string ⟨#[]⟩, .bool false, .string ⟨#[]⟩, .int .i64 0, .bool false, .string ⟨#[]⟩, .bool false, .string ⟨#[]⟩, .int .i64 0, .bool false, .string ⟨#[]⟩, .bool false, .string ⟨#[]⟩, .int .i64 0, .bool false, .string ⟨#[]⟩] 74)
    rw [alloc_size] at this
    exact this
  have b2 := (b1.alloc b1.size (.cells #[.int .i64 0, .int .i64 0, .int .i64 0, .slice none 0 0] 69)).alloc (Nat.le_trans b1.size (by rw [alloc_size]; omega)) (.cells #[.int .i64 0, .int .i64 0, .bool false, .int .i64 0, .bool false, .string ⟨#[]⟩, .int .i64 0, .bool false, .string ⟨#[]⟩, .bool false, .string ⟨#[]⟩, .int .i64 0, .bool false, .string ⟨#[]⟩, .bool false, .string ⟨#[]⟩, .int .i64 0, .bool false, .string ⟨#[]⟩, .bool false, .string ⟨#[]⟩, .int .i64 0, .bool false, .string ⟨#[]⟩, .bool false, .string ⟨#[]⟩, .int .i64 0, .bool false, .string ⟨#[]⟩, .bool false, .string ⟨#[]⟩, .int .i64 0, .bool false, .string ⟨#[]⟩, .bool false, .string ⟨#[]⟩, .int .i64 0, .bool false, .string ⟨#[]⟩, .bool false, .string ⟨#[]⟩, .int .i64 0, .bool false, .string ⟨#[]⟩] 74)
  obtain ⟨W2, hW2⟩ : ∃ W2, (W1.alloc (.cells #[.int .i64 0, .int .i64 0, .int .i64 0, .slice none 0 0] 69)).alloc (.cells #[.int .i64 0, .int .i64 0, .bool false, .int .i64 0, .bool false, .string ⟨#[]⟩, .int .i64 0, .bool false, .string ⟨#[]⟩, .bool false, .string ⟨#[]⟩, .int .i64 0, .bool false, .string ⟨#[]⟩, .bool false, .string ⟨#[]⟩, .int .i64 0, .bool false, .string ⟨#[]⟩, .bool false, .string ⟨#[]⟩, .int .i64 0, .bool false, .string ⟨#[]⟩, .bool false, .string ⟨#[]⟩, .int .i64 0, .bool false, .string ⟨#[]⟩, .bool false, .string ⟨#[]⟩, .int .i64 0, .bool false, .string ⟨#[]⟩, .bool false, .string ⟨#[]⟩, .int .i64 0, .bool false, .string ⟨#[]⟩, .bool false, .string ⟨#[]⟩, .int .i64 0, .bool false, .string ⟨#[]⟩] 74) = W2 := ⟨_, rfl⟩
  rw [hW2] at kn kg b2 ⊢
  clear hW2 b1
  have hn : ∀ W, Below W2.heap.size W2 W → IsNone (.pointer (some ⟨W1.heap.size, 0, none⟩)) W := fun W hb => mnone_zero _ W (cell_of ((hb.block _ (Array.getElem?_eq_some_iff.1 kn).1).trans kn))
  have hg : ∀ W, Below W2.heap.size W2 W → W.cell? ⟨W1.heap.size + 1, 1, none⟩ = some (.int .i64 0) := fun W hb => cell_of ((hb.block _ (Array.getElem?_eq_some_iff.1 kg).1).trans kg)
  have hz : ∀ W, IsNone (.pointer none) W := fun W => mnone_nil W
  refine (none_next (hz W2) wd).mono ?_
  rintro e W3 ⟨rfl, rfl⟩
  have b3 := Below.refl W2.heap.size W2
  go_wp2_with (go_at_call 21; refine (none_next (hn W2 b3) wd).mono ?_; rintro e W3 ⟨rfl, rfl⟩)
  refine (dfeed_nil p W2).mono ?_
  rintro e W4 ⟨rfl, b4⟩
  have b5 := b4.alloc b4.size (.cells #[.int .i64 0, .bool false, .int .i64 0, .int .i64 0, .slice none 0 0, .int .i64 0, .int .u32 0] 33)
  have k5 := heap_alloc_new W4 (.cells #[.int .i64 0, .bool false, .int .i64 0, .int .i64 0, .slice none 0 0, .int .i64 0, .int .u32 0] 33)
  unfold zAr
  go_wp2_with (go_at_call 11; refine (dfeed_zero _ p _ (hg _ b5)).mono ?_; rintro e W6 ⟨rfl, b6⟩)
  have b7 := (b5.trans (b6.mono b5.size)).alloc (Nat.le_trans b5.size b6.size) (.cells #[.int .i64 0, .bool false, .int .i64 0, .int .i64 0, .slice none 0 0, .int .i64 0, .int .u32 0] 33)
  have l5 := (Array.getElem?_eq_some_iff.1 k5).1
  have k6 := (b6.block _ l5).trans k5
  have k7 := ((Below.refl _ W6).alloc (Nat.le_refl _) (.cells #[.int .i64 0, .bool false, .int .i64 0, .int .i64 0, .slice none 0 0, .int .i64 0, .int .u32 0] 33) |>.block _ (Array.getElem?_eq_some_iff.1 k6).1).trans k6
  have m7 := heap_alloc_new W6 (.cells #[.int .i64 0, .bool false, .int .i64 0, .int .i64 0, .slice none 0 0, .int .i64 0, .int .u32 0] 33)
  unfold zAr
  have hz1 := hz
  go_wp2_with (go_at_call 24; refine (none_clear (hz1 _)).mono ?_; clear hz1; rintro e W8 ⟨rfl, rfl⟩)
  refine (none_clear (hn _ b7)).mono ?_
  rintro e W8 ⟨rfl, rfl⟩
  obtain ⟨V7, hV7⟩ : ∃ V7, W6.alloc (.cells #[.int .i64 0, .bool false, .int .i64 0, .int .i64 0, .slice none 0 0, .int .i64 0, .int .u32 0] 33) = V7 := ⟨_, rfl⟩
  rw [hV7] at b7 k7 m7 ⊢
  clear hV7
  have p0 : V7.cell? ⟨W4.heap.size, 0, none⟩ = some (.int .i64 0) := cell_of k7
  have p1 : V7.cell? ⟨W4.heap.size, 1, none⟩ = some (.bool false) := cell_of k7
  have p2 : V7.cell? ⟨W4.heap.size, 2, none⟩ = some (.int .i64 0) := cell_of k7
  have p3 : V7.cell? ⟨W4.heap.size, 3, none⟩ = some (.int .i64 0) := cell_of k7
  have p4 : V7.cell? ⟨W4.heap.size, 4, none⟩ = some (.slice none 0 0) := cell_of k7
  have p5 : V7.cell? ⟨W4.heap.size, 5, none⟩ = some (.int .i64 0) := cell_of k7
  have p6 : V7.cell? ⟨W4.heap.size, 6, none⟩ = some (.int .u32 0) := cell_of k7
  have hS := sameZ_calls V7
  go_wp2_with (go_at_call 13; refine hS.mono ?_; clear hS p0 p1 p2 p3 p4 p5 p6; rintro e V8 ⟨rfl, b8⟩; have m8 := (b8.block _ (Array.getElem?_eq_some_iff.1 m7).1).trans m7; obtain ⟨q0, q1, q2, q3, q4, q5, q6⟩ := zcells m8)
  refine (sameZ_calls V8).mono ?_
  rintro e V9 ⟨rfl, b9⟩
  have b29 := b7.trans ((b8.trans (b9.mono b8.size)).mono b7.size)
  have hz1 := hz
  go_wp2_with (go_at_call 19; refine (none_add (hz1 _) z p).mono ?_; clear hz1; rintro e W8 ⟨rfl, rfl⟩)
  have hz1 := hz
  refine (none_add (hn V9 b29) z p).mono ?_
  rintro e W8 ⟨rfl, rfl⟩
  go_wp2_with (go_at_call 18; refine (none_wait (hz1 _) z).mono ?_; clear hz1; rintro e W8 ⟨rfl, rfl⟩)
  refine (none_wait (hn V9 b29) z).mono ?_
  rintro e W8 ⟨rfl, rfl⟩
  go_wp2
  go_ret
  exact ⟨rfl, b2.trans (b29.mono b2.size)⟩
end Go.Am.Cha
