/-
  Tmframe: shown, walked. Own work.
-/
import Derived.Test.YtkhlicfnfiopnaaTmfAD
import Derived.BigQuiet
namespace Go.Am.Tmf
open Go Go.Am Go.Am.Lib Go.Lib Go.Proofs Go.RowKit
open Go.Am.Own
set_option maxRecDepth 100000

theorem wp_region_class {P : Program} {C : World → Prop} {id : Nat} {Q : Exit → Act → World → Prop} {a : Act} {w : World} {l : List Oper} (hm : P.follows .mixedOrders = true) (hB : Region.lexB .any l.toArray = true) (hC : C w.drew)
    (h : wpQuiet P l.toArray C (fun a' => ∀ w', C w' → Q .normal a' w') l a) : (Code.region id l.toArray true).wp P Q a w :=
  wp_region_quiet hm hB hC (by simpa using h)
set_option maxHeartbeats 3200000 in
theorem shown_walk (w : World) : Calls Try.prog 9 #[] w fun e w' => e = .returned (.bool true) ∧ Below w.heap.size w w' := by
  have sl1 : ∀ wx : World, (Instr.slice 9 (.string zP) none (some (.int .i64 6)) none).run Try.prog wx = .ok (.string ⟨#[0, 80, 3, 4, 0, 5]⟩) wx := by intro wx; rfl
  have sl2 : ∀ wx : World, (Instr.slice 9 (.string zD1) none (some (.int .i64 30)) none).run Try.prog wx = .ok (.string z30) wx := by intro wx; rfl
  have sl3 : ∀ wx : World, (Instr.slice 9 (.string zD2) none (some (.int .i64 7)) none).run Try.prog wx = .ok (.string ⟨#[192, 0, 0, 2, 0, 0, 0]⟩) wx := by intro wx; rfl
  have sl4 : ∀ wx : World, (Instr.slice 9 (.string z9) (some (.int .i64 2)) none none).run Try.prog wx = .ok (.string ⟨#[192, 0, 0, 2, 0, 0, 0]⟩) wx := by intro wx; rfl
  have s1 : zP.size = 44 := rfl
  have s2 : zD1.size = 32 := rfl
  have s3 : zD2.size = 32 := rfl
  go_enter Try.func9, Try.ntmps9
  go_wp2_with (go_at_call 29; refine (zc_fill32 _).mono ?_; rintro e W1 ⟨rfl, b1⟩)
  go_wp2_with (go_at_call 10; refine (zc_put _).mono ?_; rintro e W2 ⟨rfl, b2⟩)
  go_wp2_with (go_at_call 29; refine (zc_fill44 _).mono ?_; rintro e W3 ⟨rfl, b3⟩)
  go_wp2_with (go_at_call 12; refine (zc_get _).mono ?_; rintro e W4 ⟨rfl, b4⟩; unfold zFr)
  have b5 := ((b1.trans (b2.mono b1.size)).trans (b3.mono (b1.trans (b2.mono b1.size)).size))
  have b6 := b5.trans (b4.mono b5.size)
  clear b1 b2 b3 b4 b5
  have b7 := b6.alloc b6.size (.cells #[.int .i64 0, .int .i64 0, .int .i64 0, .int .i64 0, .int .i64 0, .string ⟨⟨[]⟩⟩, .int .u32 0] 24)
  go_wp2_with (go_at_call 16; refine (new_at 32 (by decide) (by decide) _).mono ?_; rintro e W5 ⟨rfl, h5, b8⟩)
  obtain ⟨B, hB⟩ : ∃ B, (W4.alloc (.cells #[.int .i64 0, .int .i64 0, .int .i64 0, .int .i64 0, .int .i64 0, .string ⟨⟨[]⟩⟩, .int .u32 0] 24)).heap.size = B := ⟨_, rfl⟩
  have b9 := b7.trans (b8.mono b7.size)
  have hwB : w.heap.size ≤ B := by rw [← hB]; exact b7.size
  rw [hB] at h5; rw [alloc_size] at hB; rw [hB]
  clear b6 b7 b8 hB
  go_wp2_with (go_at_call 17; refine (zc_made30 _).mono ?_; rintro e W6 ⟨rfl, c6⟩; have h6 := h5.below c6)
  go_wp2_with (go_at_call 18; refine (zc_add1 h6).mono ?_; rintro e W7 ⟨rfl, h7, c7⟩)
  go_wp2_with (go_at_call 17; refine (zc_made9 _).mono ?_; rintro e W8 ⟨rfl, c8⟩; have h8 := h7.below c8)
  go_wp2_with (go_at_call 18; refine (zc_add2 h8).mono ?_; rintro e W9 ⟨rfl, h9, c9⟩)
  go_wp2_with (go_at_call 19; refine (zc_wait2 h9).mono ?_; rintro e W10 ⟨rfl, c10⟩; have h10 := h9.below c10)
  have d10 := (((fr_below h5 c6).trans c7).trans (fr_below h7 c8)).trans (c9.trans (fr_below h9 c10))
  clear c6 c7 c8 c9 c10 h6 h7 h8 h9 h5
  go_wp2_with (go_at_call 20; refine (zc_next2 h10).mono ?_; rintro e W11 ⟨rfl, h11, d11⟩)
  go_wp2_with (go_at_call 20; refine (zc_next3 h11).mono ?_; rintro e W12 ⟨rfl, h12, d12⟩)
  go_wp2_with (go_at_call 20; refine (zc_next4 h12).mono ?_; rintro e W13 ⟨rfl, h13, d13⟩)
  have d14 := (d10.trans d11).trans (d12.trans d13)
  clear d10 d11 d12 d13 h10 h11 h12
  obtain ⟨C, hCd⟩ : ∃ C : World → Prop, C = fun w' => FAt (fun k => B ≤ k) B fx4 w' ∧ FrS (fun k => B ≤ k) W5 w' := ⟨_, rfl⟩
  have hC0 : C W13.drew := by rw [hCd]; exact ⟨h13.drew, d14.drew⟩
  have cc1 : ∀ w', C w' → Calls Try.prog 17 #[.int .i64 30] w' fun e w'' => e = .returned (.string z30) ∧ C w'' := by
    intro w' h; rw [hCd] at h ⊢; exact (zc_made30 w').mono fun e w'' hh => ⟨hh.1, h.1.below hh.2, h.2.trans (fr_below h.1 hh.2)⟩
  have cc2 : ∀ w', C w' → Calls Try.prog 17 #[.int .i64 9] w' fun e w'' => e = .returned (.string z9) ∧ C w'' := by
    intro w' h; rw [hCd] at h ⊢; exact (zc_made9 w').mono fun e w'' hh => ⟨hh.1, h.1.below hh.2, h.2.trans (fr_below h.1 hh.2)⟩
  have cc3 : ∀ w', C w' → Calls Try.prog 19 #[.pointer (some ⟨B, 0, none⟩)] w' fun e w'' => e = .returned (.int .i64 0) ∧ C w'' := by
    intro w' h; rw [hCd] at h ⊢; exact (zc_wait4 h.1).mono fun e w'' hh => ⟨hh.1, h.1.below hh.2, h.2.trans (fr_below h.1 hh.2)⟩
  have hC9 : ∀ w', C w' → Below w.heap.size w w' := by
    intro w' h; rw [hCd] at h; exact b9.trans (h.2.below fun k hk e => by omega)
  clear hCd h13 d14 b9
  refine wp_region_class (C := C) (by kernel_rfl) (by kernel_rfl) hC0 ?_
  repeat (first
    | go_big_quiet_skip
    | (go_big_quiet_want; go_big_quiet_op; first
        | go_big_quiet_on
        | (with_reducible refine ⟨_, cc1, ?_⟩; go_big_quiet_on) | (with_reducible refine ⟨_, cc2, ?_⟩; go_big_quiet_on) | (with_reducible refine ⟨_, cc3, ?_⟩; go_big_quiet_on)
        | (with_reducible refine ⟨_, fun _ _ => rfl, ?_⟩; go_big_quiet_on)))
  refine wpQuiet_nil ?_
  intro w14 h14
  go_wp2
  go_ret
  exact ⟨rfl, hC9 _ h14⟩
end Go.Am.Tmf
