/-
 Channels: the law of muxes, walked: its beginning. Own work; printed by a program.
-/
import Derived.Test.YtlgpalokjckdcaaChaMV
import Derived.Test.YtlgpalokjckdcaaChaGL
import Derived.Deep.RegionHeld3
namespace Go.Am.Cha
open Go Go.Am Go.Am.Lib Go.Lib Go.Proofs Go.RowKit
open Go.Am.Own
open Go.Am.Tmf (FS FAt RS RAt RC OkF idleL Rel rs0 fs0)
set_option maxRecDepth 100000

theorem pickM_calls (n m : Int) (h0 : 0 < m) (h1 : m < 2 ^ 62) (w : World) : Calls Try.prog 17 #[.int .i64 n, .int .i64 m] w fun e w' => e = .returned (.int .i64 (n % m)) ∧ Below w.heap.size w w' :=
 Tmf.flat_calls Tmf.okPck w (args := [.int .i64 n, .int .i64 m]) rfl (v := .int .i64 (n % m)) rfl ⟨h0, h1, fun x hx => by rw [hx]; exact ⟨rfl, rfl⟩⟩
/-- What a mux is made with. -/
def setC (c z : Int) (P Q : Nat → Int) : Array Value := #[.int .i64 c, .int .i64 z, .int .i64 (P 0), .int .i64 (P 1), .int .i64 (P 2), .int .i64 (P 3), .int .i64 (P 4), .int .i64 (P 5), .int .i64 (P 6), .int .i64 (P 7), .int .i64 (Q 0), .int .i64 (Q 1), .int .i64 (Q 2), .int .i64 (Q 3), .int .i64 (Q 4), .int .i64 (Q 5), .int .i64 (Q 6), .int .i64 (Q 7)]
/-- The calls, as the law is handed them. -/
def OpsM (w : World) (ao : Option Addr) (n : Nat) : Prop :=
 ∀ i, i < n → ∃ (a : Addr) (kd ch : Int) (f : ByteArray) (wd : Nat), ao = some a ∧ w.cell? (a.add (i * 4)) = some (.int .i64 kd) ∧ w.cell? ⟨(a.add (i * 4)).block, (a.add (i * 4)).off + 1, none⟩ = some (.int .i64 ch) ∧ w.cell? ⟨(a.add (i * 4)).block, (a.add (i * 4)).off + 2, none⟩ = some (.string f) ∧ w.cell? ⟨(a.add (i * 4)).block, (a.add (i * 4)).off + 3, none⟩ = some (.int .u32 ((wd : Nat) : Int)) ∧ (a.add (i * 4)).block < w.heap.size ∧ f.size ≤ maxLen ∧ wd < 2 ^ 32
variable {w0 : World}
set_option maxHeartbeats 3200000 in
theorem mux_long (c z : Int) (P Q : Nat → Int) (ao : Option Addr) (n cap : Nat) (hn : 200 < n) :
 Calls Try.prog 6 #[.agg (setC c z P Q), .slice ao n cap] w0 fun e w' => e = .returned (.bool true) ∧ Below w0.heap.size w0 w' := by
 have hn' : (200 : Int) < ((n : Nat) : Int) := by omega
 have hb0 := (Below.refl _ w0).alloc (Nat.le_refl _) (.cells (setC c z P Q) 40)
 obtain ⟨W0, hW0⟩ : ∃ W, w0.alloc (.cells (setC c z P Q) 40) = W := ⟨_, rfl⟩
 rw [hW0] at hb0
 have hs := shown_calls W0
 go_enter Try.func6, Try.ntmps6
 go_wp2_with (go_at_call 8; refine hs.mono ?_; clear hs; rintro e W1 ⟨rfl, b1⟩)
 go_ret
 exact ⟨rfl, hb0.trans (b1.mono hb0.size)⟩
set_option maxHeartbeats 3200000 in
theorem mux_no (c z : Int) (P Q : Nat → Int) (ao : Option Addr) (n cap : Nat) (hn : n ≤ 200) (ho : ¬ okNew c z P Q) :
 Calls Try.prog 6 #[.agg (setC c z P Q), .slice ao n cap] w0 fun e w' => e = .returned (.bool true) ∧ Below w0.heap.size w0 w' := by
 have hn' : ¬ (200 : Int) < ((n : Nat) : Int) := by omega
 have hb0 := (Below.refl _ w0).alloc (Nat.le_refl _) (.cells (setC c z P Q) 40)
 have hx0 := heap_alloc_new w0 (.cells (setC c z P Q) 40)
 obtain ⟨W0, hW0⟩ : ∃ W, w0.alloc (.cells (setC c z P Q) 40) = W := ⟨_, rfl⟩
 rw [hW0] at hb0 hx0
 have hs := shown_calls W0
 have cM := fun w => (newmux_at c z P Q w).mono fun e w' hh => hh.2 ho
 have cR := fun w => (rnewmux_at c z P Q w).mono fun e w' hh => hh.2 ho
 have CM := Lib.hid cM
 have CR := Lib.hid cR
 clear cM cR ho
 go_enter Try.func6, Try.ntmps6
 go_wp2_with (go_at_call 8; refine hs.mono ?_; clear hs; rintro e W1 ⟨rfl, b1⟩; have hx1 := (b1.block _ (Array.getElem?_eq_some_iff.1 hx0).1).trans hx0; have x0 : W1.cell? ⟨w0.heap.size, 0, none⟩ = some (.int .i64 c) := cell_of hx1; have x1 : W1.cell? ⟨w0.heap.size, 1, none⟩ = some (.int .i64 z) := cell_of hx1; have x2 : W1.cell? ⟨w0.heap.size, 2, none⟩ = some (.int .i64 (P 0)) := cell_of hx1; have x3 : W1.cell? ⟨w0.heap.size, 3, none⟩ = some (.int .i64 (P 1)) := cell_of hx1; have x4 : W1.cell? ⟨w0.heap.size, 4, none⟩ = some (.int .i64 (P 2)) := cell_of hx1; have x5 : W1.cell? ⟨w0.heap.size, 5, none⟩ = some (.int .i64 (P 3)) := cell_of hx1; have x6 : W1.cell? ⟨w0.heap.size, 6, none⟩ = some (.int .i64 (P 4)) := cell_of hx1; have x7 : W1.cell? ⟨w0.heap.size, 7, none⟩ = some (.int .i64 (P 5)) := cell_of hx1; have x8 : W1.cell? ⟨w0.heap.size, 8, none⟩ = some (.int .i64 (P 6)) := cell_of hx1; have x9 : W1.cell? ⟨w0.heap.size, 9, none⟩ = some (.int .i64 (P 7)) := cell_of hx1; have x10 : W1.cell? ⟨w0.heap.size, 10, none⟩ = some (.int .i64 (Q 0)) := cell_of hx1; have x11 : W1.cell? ⟨w0.heap.size, 11, none⟩ = some (.int .i64 (Q 1)) := cell_of hx1; have x12 : W1.cell? ⟨w0.heap.size, 12, none⟩ = some (.int .i64 (Q 2)) := cell_of hx1; have x13 : W1.cell? ⟨w0.heap.size, 13, none⟩ = some (.int .i64 (Q 3)) := cell_of hx1; have x14 : W1.cell? ⟨w0.heap.size, 14, none⟩ = some (.int .i64 (Q 4)) := cell_of hx1; have x15 : W1.cell? ⟨w0.heap.size, 15, none⟩ = some (.int .i64 (Q 5)) := cell_of hx1; have x16 : W1.cell? ⟨w0.heap.size, 16, none⟩ = some (.int .i64 (Q 6)) := cell_of hx1; have x17 : W1.cell? ⟨w0.heap.size, 17, none⟩ = some (.int .i64 (Q 7)) := cell_of hx1)
 have cM := CM.out W1
 unfold arr8 at cM
 go_wp2_with (go_at_call 15; refine cM.mono ?_; clear cM; rintro e W2 ⟨rfl, b2⟩; have hx2 := (b2.block _ (Array.getElem?_eq_some_iff.1 hx1).1).trans hx1; have y0 : W2.cell? ⟨w0.heap.size, 0, none⟩ = some (.int .i64 c) := cell_of hx2; have y1 : W2.cell? ⟨w0.heap.size, 1, none⟩ = some (.int .i64 z) := cell_of hx2; have y2 : W2.cell? ⟨w0.heap.size, 2, none⟩ = some (.int .i64 (P 0)) := cell_of hx2; have y3 : W2.cell? ⟨w0.heap.size, 3, none⟩ = some (.int .i64 (P 1)) := cell_of hx2; have y4 : W2.cell? ⟨w0.heap.size, 4, none⟩ = some (.int .i64 (P 2)) := cell_of hx2; have y5 : W2.cell? ⟨w0.heap.size, 5, none⟩ = some (.int .i64 (P 3)) := cell_of hx2; have y6 : W2.cell? ⟨w0.heap.size, 6, none⟩ = some (.int .i64 (P 4)) := cell_of hx2; have y7 : W2.cell? ⟨w0.heap.size, 7, none⟩ = some (.int .i64 (P 5)) := cell_of hx2; have y8 : W2.cell? ⟨w0.heap.size, 8, none⟩ = some (.int .i64 (P 6)) := cell_of hx2; have y9 : W2.cell? ⟨w0.heap.size, 9, none⟩ = some (.int .i64 (P 7)) := cell_of hx2; have y10 : W2.cell? ⟨w0.heap.size, 10, none⟩ = some (.int .i64 (Q 0)) := cell_of hx2; have y11 : W2.cell? ⟨w0.heap.size, 11, none⟩ = some (.int .i64 (Q 1)) := cell_of hx2; have y12 : W2.cell? ⟨w0.heap.size, 12, none⟩ = some (.int .i64 (Q 2)) := cell_of hx2; have y13 : W2.cell? ⟨w0.heap.size, 13, none⟩ = some (.int .i64 (Q 3)) := cell_of hx2; have y14 : W2.cell? ⟨w0.heap.size, 14, none⟩ = some (.int .i64 (Q 4)) := cell_of hx2; have y15 : W2.cell? ⟨w0.heap.size, 15, none⟩ = some (.int .i64 (Q 5)) := cell_of hx2; have y16 : W2.cell? ⟨w0.heap.size, 16, none⟩ = some (.int .i64 (Q 6)) := cell_of hx2; have y17 : W2.cell? ⟨w0.heap.size, 17, none⟩ = some (.int .i64 (Q 7)) := cell_of hx2; clear x0 x1 x2 x3 x4 x5 x6 x7 x8 x9 x10 x11 x12 x13 x14 x15 x16 x17)
 have cR := CR.out W2
 unfold arr8 at cR
 go_wp2_with (go_at_call 22; refine cR.mono ?_; clear cR; rintro e W3 ⟨rfl, b3⟩; clear y0 y1 y2 y3 y4 y5 y6 y7 y8 y9 y10 y11 y12 y13 y14 y15 y16 y17)
 have hB : Below w0.heap.size w0 W3 := ((hb0.trans (b1.mono hb0.size)).trans (b2.mono (Nat.le_trans hb0.size b1.size))).trans (b3.mono (Nat.le_trans (Nat.le_trans hb0.size b1.size) b2.size))
 clear hb0 b1 b2 b3 hx0 hx1 hx2
 go_loopw [9] (fun iv wr => iv = .int .i64 0 ∧ wr = W3) (fun _ _ => 0)
 case atStart => exact ⟨rfl, rfl⟩
 case round =>
  obtain ⟨rfl, rfl⟩ := hrel
  rcases Nat.eq_zero_or_pos n with h0 | h0
  · have hb : ¬ (0 : Int) < ((n : Nat) : Int) := by omega
    go_wp2
    go_ret
    exact ⟨rfl, hB⟩
  · have hb : (0 : Int) < ((n : Nat) : Int) := by omega
    go_wp2
    go_ret
    exact ⟨rfl, hB⟩
end Go.Am.Cha
