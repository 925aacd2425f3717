/-
  Cltu: shown: closed values. Own work.
-/
import Derived.Test.YtoeepogoogcbiaaDoorCltAJ
namespace Go.Am.Clt
open Go Go.Am Go.Am.Lib Go.Lib Go.Proofs Go.RowKit
set_option maxRecDepth 100000

instance : DecidableEq ByteArray := fun a b => decidable_of_iff (a.data = b.data) ⟨fun h => ByteArray.ext h, fun h => by rw [h]⟩
theorem blk_a : blkR ⟨#[0, 0, 0, 0, 0, 0, 0]⟩ = ⟨#[0, 0, 0, 0, 0, 0, 0, 254]⟩ ∧ blkE ⟨#[0, 0, 0, 0, 0, 0, 0]⟩ = 0 := by decide +kernel
theorem blk_b : blkR ⟨#[0, 0, 0, 0, 0, 0, 1]⟩ = ⟨#[0, 0, 0, 0, 0, 0, 1, 116]⟩ ∧ blkE ⟨#[0, 0, 0, 0, 0, 0, 1]⟩ = 0 := by decide +kernel
theorem chk_a : chkS ⟨#[128, 0, 0, 0, 0, 0, 0, 254]⟩ = ⟨#[0, 0, 0, 0, 0, 0, 0]⟩ ∧ chkW ⟨#[128, 0, 0, 0, 0, 0, 0, 254]⟩ = 1 ∧ chkE ⟨#[128, 0, 0, 0, 0, 0, 0, 254]⟩ = 0 := by decide +kernel
theorem chk_b : chkE ⟨#[0, 0, 0, 0, 0, 0, 0, 248]⟩ = 6 := by decide +kernel
theorem put_a : putL ⟨#[65]⟩ = [235, 144, 65, 85, 85, 85, 85, 85, 85, 208, 0, 0, 0, 0, 0, 0, 0, 248] := by decide +kernel
theorem feed_a : (feedP ps0 [235, 144, 65, 85, 85]).found = [] := by decide +kernel
theorem feed_b : (feedP { feedP ps0 [235, 144, 65, 85, 85] with found := [] } [85, 85, 85, 85, 208, 0, 0, 0, 0, 0, 0, 0, 248]).found = [⟨#[65, 85, 85, 85, 85, 85, 85]⟩] := by decide +kernel

set_option maxHeartbeats 1600000 in
theorem shown_walk {W0 : World} (hG : GOk G0 W0) (w : World) (hold : ∀ n, n < W0.heap.size → w.heap[n]? = W0.heap[n]?) (hsz : W0.heap.size ≤ w.heap.size) :
    Calls Tryd.prog 9 #[] w fun e w' => e = .returned (.bool true) ∧ Below w.heap.size w w' := by
  have cA : ∀ wx : World, Below w.heap.size w wx → Calls Tryd.prog 10 #[.string ⟨#[0, 0, 0, 0, 0, 0, 0]⟩] wx fun e w' => e = .returned (.tuple #[.string ⟨#[0, 0, 0, 0, 0, 0, 0, 254]⟩, .int .i64 0]) ∧ Below w.heap.size w w' := by
    intro wx hb
    have h := blk_calls hG (old_below hsz hold hb) (Nat.le_trans hsz hb.size) ⟨#[0, 0, 0, 0, 0, 0, 0]⟩ (by decide)
    rw [blk_a.1, blk_a.2] at h
    exact h.mono fun e w' ⟨h1, h2⟩ => ⟨h1, hb.trans (h2.mono hb.size)⟩
  have cB : ∀ wx : World, Below w.heap.size w wx → Calls Tryd.prog 10 #[.string ⟨#[0, 0, 0, 0, 0, 0, 1]⟩] wx fun e w' => e = .returned (.tuple #[.string ⟨#[0, 0, 0, 0, 0, 0, 1, 116]⟩, .int .i64 0]) ∧ Below w.heap.size w w' := by
    intro wx hb
    have h := blk_calls hG (old_below hsz hold hb) (Nat.le_trans hsz hb.size) ⟨#[0, 0, 0, 0, 0, 0, 1]⟩ (by decide)
    rw [blk_b.1, blk_b.2] at h
    exact h.mono fun e w' ⟨h1, h2⟩ => ⟨h1, hb.trans (h2.mono hb.size)⟩
  have cC : ∀ wx : World, Below w.heap.size w wx → Calls Tryd.prog 12 #[.string ⟨#[128, 0, 0, 0, 0, 0, 0, 254]⟩] wx fun e w' => e = .returned (.tuple #[.string ⟨#[0, 0, 0, 0, 0, 0, 0]⟩, .int .i64 1, .int .i64 0]) ∧ Below w.heap.size w w' := by
    intro wx hb
    have h := chk_calls hG (old_below hsz hold hb) (Nat.le_trans hsz hb.size) ⟨#[128, 0, 0, 0, 0, 0, 0, 254]⟩ (by decide)
    rw [chk_a.1, chk_a.2.1, chk_a.2.2] at h
    exact h.mono fun e w' ⟨h1, h2⟩ => ⟨h1, hb.trans (h2.mono hb.size)⟩
  have cD : ∀ wx : World, Below w.heap.size w wx → Calls Tryd.prog 12 #[.string ⟨#[0, 0, 0, 0, 0, 0, 0, 248]⟩] wx fun e w' => (∃ s n, e = .returned (.tuple #[.string s, .int .i64 n, .int .i64 6])) ∧ Below w.heap.size w w' := by
    intro wx hb
    have h := chk_calls hG (old_below hsz hold hb) (Nat.le_trans hsz hb.size) ⟨#[0, 0, 0, 0, 0, 0, 0, 248]⟩ (by decide)
    rw [chk_b] at h
    exact h.mono fun e w' ⟨h1, h2⟩ => ⟨⟨_, _, h1⟩, hb.trans (h2.mono hb.size)⟩
  have cE : ∀ wx : World, Below w.heap.size w wx → Calls Tryd.prog 14 #[.string ⟨#[65]⟩] wx fun e w' => e = .returned (.tuple #[.string ⟨#[235, 144, 65, 85, 85, 85, 85, 85, 85, 208, 0, 0, 0, 0, 0, 0, 0, 248]⟩, .int .i64 0]) ∧ Below w.heap.size w w' := by
    intro wx hb
    have h := put_walk hG ⟨#[65]⟩ wx (old_below hsz hold hb) (Nat.le_trans hsz hb.size) (by decide) (by decide)
    rw [put_a] at h
    exact h.mono fun e w' ⟨h1, h2⟩ => ⟨h1, hb.trans (h2.mono hb.size)⟩
  have sl6 : ∀ wx : World, (Instr.slice 9 (.string ⟨#[0, 0, 0, 0, 0, 0, 0]⟩) none (some (.int .i64 6)) none).run Tryd.prog wx = .ok (.string ⟨#[0, 0, 0, 0, 0, 0]⟩) wx := by intro wx; rfl
  go_enter Tryd.func9, Tryd.ntmps9
  go_wp2_with (go_at_call 10; refine (cA _ (Below.refl _ _)).mono ?_)
  rintro e W1 ⟨rfl, b1⟩
  go_wp2_with (go_at_call 10; refine (cB _ b1).mono ?_)
  rintro e W2 ⟨rfl, b2⟩
  go_wp2_with (go_at_call 12; refine (cC _ b2).mono ?_)
  rintro e W3 ⟨rfl, b3⟩
  go_wp2_with (go_at_call 12; refine (cD _ b3).mono ?_)
  rintro e W4 ⟨⟨s4, n4, rfl⟩, b4⟩
  go_wp2_with (go_at_call 14; refine (cE _ b4).mono ?_)
  rintro e W5 ⟨rfl, b5⟩
  go_wp2_with (go_at_call 18; refine (new_walk _).mono ?_)
  rintro e W6 ⟨rfl, b6, s6, h6⟩
  have hP : PAt (fun k => W5.heap.size ≤ k) W5.heap.size ps0 W6 := ⟨_, _, _, { hS := fun k hk => (by rw [s6] at hk; show W5.heap.size ≤ k; omega), hb := Nat.le_refl W5.heap.size, s1 := fun k hk => (by cases hk), s2 := fun k hk => (by cases hk), s3 := fun k hk => (by cases hk), cell := h6, r1 := World.ownsRow_nil _ _ _ _, r2 := World.ownsRow_nil _ _ _ _, r3 := World.ownsRow_nil _ _ _ _, dis := fun k hk => by cases hk }⟩
  have hO : OkP ps0 0 := ⟨by decide, by decide, by decide⟩
  have b6' : Below w.heap.size w W6 := b5.trans (b6.mono b5.size)
  have hF1 := feed_walk hG ⟨#[235, 144, 65, 85, 85]⟩ hP hO (by decide) (fun k hk hq => by have := b5.size; omega) (old_below hsz hold b6')
  have e1 : (⟨#[0, 0, 0, 0, 0, 0, 0]⟩ : ByteArray) ++ ⟨#[254]⟩ = ⟨#[0, 0, 0, 0, 0, 0, 0, 254]⟩ := rfl
  have e2 : (⟨#[0, 0, 0, 0, 0, 0]⟩ : ByteArray) ++ ⟨#[1, 116]⟩ = ⟨#[0, 0, 0, 0, 0, 0, 1, 116]⟩ := rfl
  have sl7 : ∀ wx : World, (Instr.slice 9 (.string ⟨#[235, 144, 65, 85, 85, 85, 85, 85, 85, 208, 0, 0, 0, 0, 0, 0, 0, 248]⟩) none (some (.int .i64 5)) none).run Tryd.prog wx = .ok (.string ⟨#[235, 144, 65, 85, 85]⟩) wx := by intro wx; rfl
  have sl8 : ∀ wx : World, (Instr.slice 9 (.string ⟨#[235, 144, 65, 85, 85, 85, 85, 85, 85, 208, 0, 0, 0, 0, 0, 0, 0, 248]⟩) (some (.int .i64 5)) none none).run Tryd.prog wx = .ok (.string ⟨#[85, 85, 85, 85, 208, 0, 0, 0, 0, 0, 0, 0, 248]⟩) wx := by intro wx; rfl
  go_wp2_with (go_at_call 19; refine hF1.mono ?_)
  rintro e W7 ⟨r1, rfl, hr1, b7', S1, hP1, hS1, _⟩
  have b7 : Below W5.heap.size W6 W7 := b7'.below fun k hk hq => by omega
  have hO1 : OkP ({ feedP ps0 [235, 144, 65, 85, 85] with found := [] } : PS) 0 := ⟨by decide +kernel, by decide +kernel, by decide⟩
  have hF2 := feed_walk hG ⟨#[85, 85, 85, 85, 208, 0, 0, 0, 0, 0, 0, 0, 248]⟩ hP1 hO1 (by decide) (fun k hk hq => by have h1 := b5.size; have h2 := b6.size; have h3 := b7.size; have := hS1 k (by omega) hq; omega) (old_below hsz hold (b6'.trans (b7.mono b5.size)))
  have hr1' : W7.ownsRow 0 9 1 r1 0 [] := by
    have h := hr1
    rw [feed_a] at h
    exact h
  obtain ⟨ao1, cap1, rfl⟩ := ownsRow_slice hr1'
  clear hr1 hP hF1 hO
  go_wp2_with (go_at_call 19; refine hF2.mono ?_)
  rintro e W8 ⟨r2, rfl, hr2, b8', S2, hP2, _, _⟩
  have b8 : Below W5.heap.size W7 W8 := b8'.below fun k hk hq => by have h2 := b6.size; have h3 := b7.size; have := hS1 k (by omega) hq; omega
  have hr2' : W8.ownsRow 0 9 1 r2 1 [.string ⟨#[65, 85, 85, 85, 85, 85, 85]⟩] := by
    have h := hr2
    rw [feed_b] at h
    exact h
  obtain ⟨ao2, cap2, hv2⟩ := ownsRow_slice hr2'
  subst hv2
  obtain ⟨hcap, g2, rfl⟩ := ownsRow_base hr2' (by omega)
  have hc2 : W8.cell? ⟨g2, 0, none⟩ = some (.string ⟨#[65, 85, 85, 85, 85, 85, 85]⟩) := hr2'.cells (g := g2) rfl 0 _ rfl
  clear hr2 hP1 hF2 hO1 hP2 hr2' hr1'
  go_wp2
  go_ret
  exact ⟨rfl, (b6'.trans (b7.mono b5.size)).trans (b8.mono b5.size)⟩
end Go.Am.Clt
