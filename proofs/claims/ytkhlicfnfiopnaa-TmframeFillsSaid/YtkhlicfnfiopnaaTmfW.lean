/-
  Tmframe: TmframeFills, walked. Own work.
-/
import Derived.Test.YtkhlicfnfiopnaaTmfW1
import Derived.Test.YtkhlicfnfiopnaaTmfAE
import Derived.Deep.RegionHeld3
namespace Go.Am.Tmf
open Go Go.Am Go.Am.Lib Go.Lib Go.Proofs Go.RowKit
open Go.Am.Own
open Go.Am.Pkt (G0 none_ok)
set_option maxRecDepth 100000

theorem pick_calls (n m : Int) (h0 : 0 < m) (h1 : m < 2 ^ 62) (w : World) : Calls Try.prog 14 #[.int .i64 n, .int .i64 m] w fun e w' => e = .returned (.int .i64 (n % m)) ∧ Below w.heap.size w w' :=
  flat_calls okPck w (args := [.int .i64 n, .int .i64 m]) rfl (v := .int .i64 (n % m)) rfl ⟨h0, h1, fun x hx => by rw [hx]; exact ⟨rfl, rfl⟩⟩
def NoneB (b : Nat) (w : World) : Prop := w.cell? ⟨b, 2, none⟩ = some (.int .i64 0)
theorem none_next0 (w : World) : Calls Try.prog 20 #[.pointer none] w fun e w' => e = .returned (.tuple #[.string ⟨#[]⟩, .int .i64 0, .bool false]) ∧ Below w.heap.size w w' := none_next fun _ _ => none_at_nil _
theorem zero_next0 {b : Nat} {w : World} (hb : b < w.heap.size) (hc : NoneB b w) : Calls Try.prog 20 #[.pointer (some ⟨b, 0, none⟩)] w fun e w' => e = .returned (.tuple #[.string ⟨#[]⟩, .int .i64 0, .bool false]) ∧ Below w.heap.size w w' :=
  none_next fun _ h => none_at_zero ((World.cell?_of_block (h.block b hb)).trans hc)
theorem NoneB.below {b : Nat} {w w' : World} (hc : NoneB b w) (hb : b < w.heap.size) (h : Below w.heap.size w w') : NoneB b w' := (World.cell?_of_block (h.block b hb)).trans hc
/-- The calls, as the law is handed them. -/
def OpsIn (w : World) (ao : Option Addr) (n : Nat) : Prop :=
  ∀ i, i < n → ∃ (a : Addr) (kd : Int) (f : ByteArray), ao = some a ∧ w.cell? (a.add (i * 2)) = some (.int .i64 kd) ∧ w.cell? ⟨(a.add (i * 2)).block, (a.add (i * 2)).off + 1, none⟩ = some (.string f) ∧ (a.add (i * 2)).block < w.heap.size ∧ f.size ≤ maxLen
set_option maxHeartbeats 3200000 in
theorem fills_long {W0 : World} (sz : Int) (ao : Option Addr) (n cap : Nat) (h150 : 150 < n) :
    Calls Try.prog 8 #[.int .i64 sz, .slice ao n cap] W0 fun e w' => e = .returned (.bool true) ∧ Below W0.heap.size W0 w' := by
  have h150' : (150 : Int) < ((n : Nat) : Int) := by omega
  go_enter Try.func8, Try.ntmps8
  go_wp2_with (go_at_call 9; refine (shown_walk _).mono ?_; rintro e W1 ⟨rfl, b1⟩)
  go_ret
  exact ⟨rfl, b1⟩
set_option maxHeartbeats 3200000 in
theorem fills_no {W0 : World} (sz : Int) (ao : Option Addr) (n cap : Nat) (hs : sz < 32 ∨ 200 < sz) (h150 : n ≤ 150) :
    Calls Try.prog 8 #[.int .i64 sz, .slice ao n cap] W0 fun e w' => e = .returned (.bool true) ∧ Below W0.heap.size W0 w' := by
  have h150' : ((n : Nat) : Int) ≤ 150 := by omega
  go_enter Try.func8, Try.ntmps8
  go_wp2_with (go_at_call 9; refine (shown_walk _).mono ?_; rintro e W1 ⟨rfl, b1⟩)
  go_wp2_with (go_at_call 16; refine (new_no sz hs _).mono ?_; rintro e W2 ⟨rfl, rfl⟩)
  go_wp2_with (go_at_call 23; refine (rnew_no sz hs _).mono ?_; rintro e W2 ⟨rfl, rfl⟩)
  obtain ⟨W2, hW2⟩ : ∃ W, W1.alloc (.cells #[.slice none 0 0, .slice none 0 0, .int .i64 0, .int .i64 0] 64) = W := ⟨_, rfl⟩
  have b2 := b1.alloc b1.size (.cells #[.slice none 0 0, .slice none 0 0, .int .i64 0, .int .i64 0] 64)
  have z2 : NoneB W1.heap.size W2 := by rw [← hW2]; exact cell_of (heap_alloc_new W1 _)
  have l2 : W1.heap.size < W2.heap.size := by rw [← hW2, alloc_size]; omega
  rw [hW2] at b2
  rw [hW2]
  obtain ⟨z, hz⟩ : ∃ z, W1.heap.size = z := ⟨_, rfl⟩
  rw [hz] at z2 l2
  rw [hz]
  clear hW2 hz b1 hs
  go_wp2_with (go_at_call_of 20 (Value.pointer none); refine (none_next0 _).mono ?_; rintro e W3 ⟨rfl, b3⟩)
  have z3 := z2.below l2 b3
  have l3 := Nat.lt_of_lt_of_le l2 b3.size
  have c3 := b2.trans (b3.mono b2.size)
  clear b2 b3 z2 l2
  go_wp2_with (go_at_call 20; refine (zero_next0 l3 z3).mono ?_; rintro e W4 ⟨rfl, b4⟩)
  have z4 := z3.below l3 b4
  have l4 := Nat.lt_of_lt_of_le l3 b4.size
  have c4 := c3.trans (b4.mono c3.size)
  clear b4 z3 l3 c3
  go_wp2_with (go_at_call 17; refine (made_calls (n := 7) (by decide) (by decide) _).mono ?_; rintro e W5 ⟨rfl, b5⟩)
  have z5 := z4.below l4 b5
  have c5 := c4.trans (b5.mono c4.size)
  have l5 := Nat.lt_of_lt_of_le l4 b5.size
  clear b5 z4 l4 c4
  obtain ⟨mp, hmp⟩ : ∃ p, madeS 7 = p := ⟨_, rfl⟩
  rw [hmp]
  go_wp2_with (go_at_call 18; refine (none_add mp (none_at_nil W5)).mono ?_; rintro e W6 ⟨rfl, rfl⟩)
  go_wp2_with (go_at_call 17; refine (made_calls (n := 7) (by decide) (by decide) _).mono ?_; rintro e W6 ⟨rfl, b6⟩)
  have z6 := z5.below l5 b6
  have c6 := c5.trans (b6.mono c5.size)
  clear b6 z5 c5
  go_wp2_with (go_at_call 18; refine (none_add mp (none_at_zero z6)).mono ?_; rintro e W7 ⟨rfl, rfl⟩)
  go_wp2_with (go_at_call 19; refine (none_wait (none_at_nil W6)).mono ?_; rintro e W7 ⟨rfl, rfl⟩)
  go_ret
  exact ⟨rfl, c6⟩
set_option maxHeartbeats 6400000 in
theorem fills_yes {W0 : World} (m : Nat) (n : Nat) (ao : Option Addr) (cap : Nat) (lo : 32 ≤ m) (hi : m ≤ 200)
    (hcs : OpsIn W0 ao n) (h150 : n ≤ 150) :
    Calls Try.prog 8 #[.int .i64 ((m : Nat) : Int), .slice ao n cap] W0 fun e w' => e = .returned (.bool true) ∧ Below W0.heap.size W0 w' := by
  have h150' : ((n : Nat) : Int) ≤ 150 := by omega
  go_enter Try.func8, Try.ntmps8
  go_wp2_with (go_at_call 9; refine (shown_walk _).mono ?_; rintro e W1 ⟨rfl, b1⟩)
  go_wp2_with (go_at_call 16; refine (new_at _ (by omega) (by omega) _).mono ?_; rintro e V1 ⟨rfl, f1, e1⟩)
  go_wp2_with (go_at_call 23; refine (rnew_at _ (by omega) (by omega) _).mono ?_; rintro e V2 ⟨rfl, f2, e2⟩)
  rw [Int.toNat_natCast] at f1 f2
  have hF0 := Fl.first b1 rfl f1 e1 f2 e2
  obtain ⟨p1, hp1⟩ : ∃ p, W1.heap.size = p := ⟨_, rfl⟩
  obtain ⟨p2, hp2⟩ : ∃ p, V1.heap.size = p := ⟨_, rfl⟩
  rw [hp1, hp2] at hF0
  rw [hp1, hp2]
  clear hp1 hp2 f1 f2 e1 e2 b1
  have b2 := (Below.refl V2.heap.size V2).alloc (Nat.le_refl _) (.cells #[.slice none 0 0, .slice none 0 0, .int .i64 0, .int .i64 0] 64)
  obtain ⟨W2, hW2⟩ : ∃ W, V2.alloc (.cells #[.slice none 0 0, .slice none 0 0, .int .i64 0, .int .i64 0] 64) = W := ⟨_, rfl⟩
  have z2 : NoneB V2.heap.size W2 := by rw [← hW2]; exact cell_of (heap_alloc_new V2 _)
  have l2 : V2.heap.size < W2.heap.size := by rw [← hW2, alloc_size]; omega
  rw [hW2] at b2
  rw [hW2]
  obtain ⟨z, hz⟩ : ∃ z, V2.heap.size = z := ⟨_, rfl⟩
  rw [hz] at z2 l2
  rw [hz]
  have hF2 := hF0.below b2
  rw [hz] at b2
  clear hW2 hz hF0 b2
  go_wp2_with (go_at_call_of 20 (Value.pointer none); refine (none_next0 _).mono ?_; rintro e W3 ⟨rfl, b3⟩)
  have z3 := z2.below l2 b3
  have l3 := Nat.lt_of_lt_of_le l2 b3.size
  have hF3 := hF2.below b3
  clear b3 z2 l2 hF2
  go_wp2_with (go_at_call 20; refine (zero_next0 l3 z3).mono ?_; rintro e W4 ⟨rfl, b4⟩)
  have z4 := z3.below l3 b4
  have l4 := Nat.lt_of_lt_of_le l3 b4.size
  have hF4 := hF3.below b4
  clear b4 z3 l3 hF3
  go_wp2_with (go_at_call 17; refine (made_calls (n := 7) (by decide) (by decide) _).mono ?_; rintro e W5 ⟨rfl, b5⟩)
  have z5 := z4.below l4 b5
  have hF5 := hF4.below b5
  have l5 := Nat.lt_of_lt_of_le l4 b5.size
  clear b5 z4 l4 hF4
  obtain ⟨mp, hmp⟩ : ∃ p, madeS 7 = p := ⟨_, rfl⟩
  rw [hmp]
  go_wp2_with (go_at_call 18; refine (none_add mp (none_at_nil W5)).mono ?_; rintro e W6 ⟨rfl, rfl⟩)
  go_wp2_with (go_at_call 17; refine (made_calls (n := 7) (by decide) (by decide) _).mono ?_; rintro e W6 ⟨rfl, b6⟩)
  have z6 := z5.below l5 b6
  have hF6 := hF5.below b6
  clear b6 z5 hF5
  go_wp2_with (go_at_call 18; refine (none_add mp (none_at_zero z6)).mono ?_; rintro e W7 ⟨rfl, rfl⟩)
  go_wp2_with (go_at_call 19; refine (none_wait (none_at_nil W6)).mono ?_; rintro e W7 ⟨rfl, rfl⟩)
  clear z6 hmp l5
  go_loopw [17] (fun iv wr => ∃ (i : Nat) (x : FS) (y : RS), iv = .int .i64 (i : Nat) ∧ i ≤ n ∧ Rel x y ∧ OkF x i ∧ Fl (fun k => k < W0.heap.size) W0 p1 p2 x y wr)
    (fun iv _ => n - iOf iv)
  case atStart => exact ⟨0, fs0 m, rs0 m, rfl, Nat.zero_le _, Rel.zero lo hi, OkF.zero lo hi, hF6⟩
  case round =>
    obtain ⟨i, x, y, rfl, hi, hr, ho, hF⟩ := hrel
    rcases Nat.lt_or_ge i n with hlt | hge
    · have hlt' : ((i : Nat) : Int) < ((n : Nat) : Int) := by omega
      obtain ⟨a, kd, f, rfl, k1, k2, k3, k4⟩ := hcs i hlt
      obtain ⟨ai, hai⟩ : ∃ ai, a.add (i * 2) = ai := ⟨_, rfl⟩
      rw [hai] at k1 k2 k3
      replace k1 : wr.cell? ai = some (.int .i64 kd) := (World.cell?_of_block (hF.block ai.block k3)).trans k1
      have hbk : wr.heap[ai.block]? = W0.heap[ai.block]? := hF.block ai.block k3
      replace k2 : wr.cell? ⟨ai.block, ai.off + 1, none⟩ = some (.string f) := (World.cell?_of_block (a := ⟨ai.block, ai.off + 1, none⟩) hbk).trans k2
      clear hcs k3 hbk
      have hmeas : n - (i + 1) < n - i := by omega
      have hN : i + 1 ≤ 2 ^ 20 := by omega
      have hF3 := hF.hold (.cells #[.int .i64 kd, .string f] 66)
      have hback := fun x' y' w => hF.back (o := .cells #[.int .i64 kd, .string f] 66) (x' := x') (y' := y') (w := w)
      obtain ⟨W3, hW3⟩ : ∃ W, wr.alloc (.cells #[.int .i64 kd, .string f] 66) = W := ⟨_, rfl⟩
      have hcb : W3.heap[wr.heap.size]? = some (.cells #[.int .i64 kd, .string f] 66 (0, 0)) := by rw [← hW3]; exact heap_alloc_new wr _
      obtain ⟨mb, hmb⟩ : ∃ z, wr.heap.size = z := ⟨_, rfl⟩
      rw [hW3, hmb] at hF3
      rw [hmb] at hcb
      obtain ⟨H, hH⟩ : ∃ H : Nat → Prop, H = fun k => k < W0.heap.size ∨ k = mb := ⟨_, rfl⟩
      have hHm : H mb := by rw [hH]; exact .inr rfl
      rw [hW3, hmb, ← hH] at hback
      rw [← hH] at hF3
      clear hH
      have HC : RowKit.Hid (∀ x' y' w', Fl H W3 p1 p2 x' y' w' → w'.cell? ⟨mb, 0, none⟩ = some (.int .i64 kd) ∧ w'.cell? ⟨mb, 1, none⟩ = some (.string f)) := fun x' y' w' h' => ⟨cell_of ((h'.block mb hHm).trans hcb), cell_of ((h'.block mb hHm).trans hcb)⟩
      have HB := Lib.hid hback
      clear hback hcb hF hHm
      obtain ⟨q1, q2⟩ := HC.out _ _ _ hF3
      rcases Nat.lt_or_ge 2000 f.size with hs | hs
      · have hs' : (2000 : Int) < ((f.size : Nat) : Int) := by omega
        have hret := (HB.out _ _ _ hF3).toBelow
        go_wp2
        go_ret
        exact ⟨rfl, hret⟩
      have hs' : ((f.size : Nat) : Int) ≤ 2000 := by omega
      have cP := pick_calls kd 6 (by omega) (by omega) W3
      have h6 : ((kd % 6 = 3 ∨ kd % 6 = 4) ∨ kd % 6 = 5 ∨ (0 ≤ kd % 6 ∧ kd % 6 < 3)) := by omega
      obtain ⟨kr, hkr⟩ : ∃ r, kd % 6 = r := ⟨_, rfl⟩
      rw [hkr] at cP h6
      clear hkr
      rcases h6 with h6 | rfl | h6
      · have hk : (kr == 3) = true ∨ ((kr == 3) = false ∧ (kr == 4) = true) := by simp; omega
        clear h6
        rcases hk with hk | ⟨hk, hk'⟩ <;> (
        go_wp2_with (go_at_call 14; refine cP.mono ?_; rintro e W4 ⟨rfl, b4⟩; have hF4 := hF3.below b4)
        obtain ⟨q3, q4⟩ := HC.out _ _ _ hF4
        have cN1 := fl_next hF4 ho
        have cN2 := fun w (h : Fl H W3 p1 p2 x.nx y w) => fl_rnext h hr ho hN
        have cV1 := fun w (h : Fl H W3 p1 p2 x.nx y.nx w) => fl_wait h (ho.nx hN)
        have cV2 := fun w (h : Fl H W3 p1 p2 x.nx y.nx w) => fl_rwait h hr.nx (ho.nx hN) (by omega)
        have hr' := hr.nx
        have ho' := ho.nx hN
        obtain ⟨x', hx'⟩ : ∃ x', x.nx = x' := ⟨_, rfl⟩
        obtain ⟨y', hy'⟩ : ∃ y', y.nx = y' := ⟨_, rfl⟩
        obtain ⟨ns, hns⟩ : ∃ s, nxS x = s := ⟨_, rfl⟩
        obtain ⟨nf, hnf⟩ : ∃ s, nxF x = s := ⟨_, rfl⟩
        obtain ⟨nt, hnt⟩ : ∃ s, nxT x = s := ⟨_, rfl⟩
        obtain ⟨wt, hwt⟩ : ∃ s, x'.wait = s := ⟨_, rfl⟩
        rw [hx'] at ho'
        rw [hx', hy'] at hr'
        simp only [hx', hy', hns, hnf, hnt, hwt] at cN1 cN2 cV1 cV2
        have CN2 := Lib.hid cN2
        have CV1 := Lib.hid cV1
        have CV2 := Lib.hid cV2
        clear cN2 cV1 cV2 hx' hy' hns hnf hnt hwt q1 q2 hF3 b4
        go_wp2_with (go_at_call 20; refine cN1.mono ?_; rintro e W5 ⟨rfl, h5⟩)
        go_wp2_with (go_at_call 24; refine (CN2.out _ h5).mono ?_; rintro e W6 ⟨rfl, h6⟩)
        go_wp2_with (go_at_call 19; refine (CV1.out _ h6).mono ?_; rintro e W7 ⟨rfl, h7⟩)
        go_wp2_with (go_at_call 28; refine (CV2.out _ h7).mono ?_; rintro e W8 ⟨rfl, h8⟩)
        exact ⟨⟨i + 1, x', y', by push_cast; rfl, hlt, hr', ho', HB.out _ _ _ h8⟩, hmeas⟩)
      · rcases Classical.em (f.size = 0) with hz | hz
        · have hfz : f.toList.isEmpty = true := by
            rw [ByteArray.toList_eq]
            obtain ⟨fd⟩ := f
            have : fd = #[] := Array.size_eq_zero_iff.1 hz
            rw [this]; rfl
          have cN1 := fun w (h : Fl H W3 p1 p2 x y w) => fl_clear h ho
          have cN2 := fun w (h : Fl H W3 p1 p2 (fs0 x.size) y w) => fl_rclear h
          have hr' := hr.clr
          have ho' := ho.clr hN
          obtain ⟨x', hx'⟩ : ∃ x', fs0 x.size = x' := ⟨_, rfl⟩
          obtain ⟨y', hy'⟩ : ∃ y', rs0 y.size = y' := ⟨_, rfl⟩
          rw [hx'] at ho'
          rw [hx', hy'] at hr'
          simp only [hx', hy'] at cN1 cN2
          have cV1 := fun w (h : Fl H W3 p1 p2 x' y' w) => fl_wait h ho'
          have cV2 := fun w (h : Fl H W3 p1 p2 x' y' w) => fl_rwait h hr' ho' (by omega)
          obtain ⟨wt, hwt⟩ : ∃ s, x'.wait = s := ⟨_, rfl⟩
          simp only [hwt] at cV1 cV2
          have CN1 := Lib.hid cN1
          have CN2 := Lib.hid cN2
          have CV1 := Lib.hid cV1
          have CV2 := Lib.hid cV2
          clear cN1 cN2 cV1 cV2 hx' hy' hwt k4 hz
          go_wp2_with (go_at_call 14; refine cP.mono ?_; rintro e W4 ⟨rfl, b4⟩; have hF4 := hF3.below b4; obtain ⟨_, q4⟩ := HC.out _ _ _ hF4)
          go_wp2_with (go_at_call 25; refine (CN1.out _ hF4).mono ?_; rintro e W5 ⟨rfl, h5⟩)
          go_wp2_with (go_at_call 26; refine (CN2.out _ h5).mono ?_; rintro e W6 ⟨rfl, h6⟩)
          go_wp2_with (go_at_call 19; refine (CV1.out _ h6).mono ?_; rintro e W7 ⟨rfl, h7⟩)
          go_wp2_with (go_at_call 28; refine (CV2.out _ h7).mono ?_; rintro e W8 ⟨rfl, h8⟩)
          exact ⟨⟨i + 1, x', y', by push_cast; rfl, hlt, hr', ho', HB.out _ _ _ h8⟩, hmeas⟩
        · have cV1 := fun w (h : Fl H W3 p1 p2 x y w) => fl_wait h ho
          have cV2 := fun w (h : Fl H W3 p1 p2 x y w) => fl_rwait h hr ho (by omega)
          have hfz : f.toList.isEmpty = false := by
            rw [ByteArray.toList_eq]
            obtain ⟨⟨fl⟩⟩ := f
            have h1 : fl ≠ [] := fun e => hz (by rw [e]; rfl)
            simpa using h1
          have ho' := ho.up (Nat.le_succ i) hN
          obtain ⟨wt, hwt⟩ : ∃ s, x.wait = s := ⟨_, rfl⟩
          simp only [hwt] at cV1 cV2
          have CV1 := Lib.hid cV1
          have CV2 := Lib.hid cV2
          clear cV1 cV2 hwt k4 hz
          go_wp2_with (go_at_call 14; refine cP.mono ?_; rintro e W4 ⟨rfl, b4⟩; have hF4 := hF3.below b4; obtain ⟨_, q4⟩ := HC.out _ _ _ hF4)
          go_wp2_with (go_at_call 19; refine (CV1.out _ hF4).mono ?_; rintro e W7 ⟨rfl, h7⟩)
          go_wp2_with (go_at_call 28; refine (CV2.out _ h7).mono ?_; rintro e W8 ⟨rfl, h8⟩)
          exact ⟨⟨i + 1, x, y, by push_cast; rfl, hlt, hr, ho', HB.out _ _ _ h8⟩, hmeas⟩
      · have e3 : (kr == 3) = false := by simp; omega
        have e4 : (kr == 4) = false := by simp; omega
        have e5 : (kr == 5) = false := by simp; omega
        clear h6
        have cN1 := fun w (h : Fl H W3 p1 p2 x y w) => fl_add h ho f (by omega)
        have cN2 := fun w (h : Fl H W3 p1 p2 (x.ad f) y w) => fl_radd h hr ho hN f (by omega)
        have hr' := hr.ad f
        have ho' := ho.ad hr f hN
        obtain ⟨x', hx'⟩ : ∃ x', x.ad f = x' := ⟨_, rfl⟩
        obtain ⟨y', hy'⟩ : ∃ y', y.ad f = y' := ⟨_, rfl⟩
        obtain ⟨ae, hae⟩ : ∃ s, addE x f = s := ⟨_, rfl⟩
        rw [hx'] at ho'
        rw [hx', hy'] at hr'
        simp only [hx', hy', hae] at cN1 cN2
        have cV1 := fun w (h : Fl H W3 p1 p2 x' y' w) => fl_wait h ho'
        have cV2 := fun w (h : Fl H W3 p1 p2 x' y' w) => fl_rwait h hr' ho' (by omega)
        obtain ⟨wt, hwt⟩ : ∃ s, x'.wait = s := ⟨_, rfl⟩
        simp only [hwt] at cV1 cV2
        have CN1 := Lib.hid cN1
        have CN2 := Lib.hid cN2
        have CV1 := Lib.hid cV1
        have CV2 := Lib.hid cV2
        clear cN1 cN2 cV1 cV2 hx' hy' hwt hae
        go_wp2_with (go_at_call 14; refine cP.mono ?_; rintro e W4 ⟨rfl, b4⟩; have hF4 := hF3.below b4; obtain ⟨_, q4⟩ := HC.out _ _ _ hF4)
        go_region_held3 (fun w' => w'.cell? ⟨mb, 1, none⟩ = some (.string f)) (first | go_keep | assumption)
          (first
            | (go_at_call 18; refine (CN1.out _ (hF4.same (by exact rfl) (by exact rfl) (by exact rfl) (by exact rfl))).mono ?_; rintro e W5 ⟨rfl, h5⟩; have k5 := (HC.out _ _ _ h5).2)
            | (go_at_call 27; refine (CN2.out _ (h5.same (by exact rfl) (by exact rfl) (by exact rfl) (by exact rfl))).mono ?_; rintro e W6 ⟨rfl, h6⟩; have k6 := (HC.out _ _ _ h6).2))
        all_goals (
          clear k5 k6
          go_wp2_with (go_at_call 19; refine (CV1.out _ h6).mono ?_; rintro e W7 ⟨rfl, h7⟩)
          go_wp2_with (go_at_call 28; refine (CV2.out _ h7).mono ?_; rintro e W8 ⟨rfl, h8⟩)
          exact ⟨⟨i + 1, x', y', by push_cast; rfl, hlt, hr', ho', HB.out _ _ _ h8⟩, hmeas⟩)
    · have hge' : ¬ ((i : Nat) : Int) < ((n : Nat) : Int) := by omega
      have hb := hF.toBelow
      go_wp2
      go_ret
      exact ⟨rfl, hb⟩
theorem fills_walk {W0 : World} (sz : Int) (ao : Option Addr) (n cap : Nat) (hcs : OpsIn W0 ao n) :
    Calls Try.prog 8 #[.int .i64 sz, .slice ao n cap] W0 fun e w' => e = .returned (.bool true) ∧ Below W0.heap.size W0 w' := by
  rcases Nat.lt_or_ge 150 n with h | h
  · exact fills_long sz ao n cap h
  · by_cases hs : sz < 32 ∨ 200 < sz
    · exact fills_no sz ao n cap hs h
    · obtain ⟨m, rfl⟩ := nat_of (n := sz) (by omega)
      exact fills_yes m n ao cap (by omega) (by omega) hcs h
end Go.Am.Tmf
