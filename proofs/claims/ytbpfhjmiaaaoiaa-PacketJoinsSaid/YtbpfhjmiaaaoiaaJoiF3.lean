/-
  Joiner: Feed, walked (a message begins). Own work; printed by gen/mkfeed.py.
-/
import Derived.Test.YtbpfhjmiaaaoiaaJoiE2
namespace Go.Am.Joi
open Go Go.Am Go.Am.Lib Go.Lib Go.Proofs Go.RowKit
open Go.Am.Own
open Go.Am.Pkt (G0 none_ok)
set_option maxRecDepth 100000

variable {S : Nat → Prop} {b mb N : Nat} {J : Js} {tvs : Nat → Value} {D : DataW Value} {w : World}
set_option maxHeartbeats 6400000 in
theorem feed_1_1 (h : JC S b mb N 2047 J tvs D w) (hN : N < maxLen) (c : Bool) {a f n : Nat} {d : ByteArray} (hv : Pkt.validB a f n d = true) (ha : a < 2047) (hJ : J a = none) (hf : f = 1) :
    Calls Try.prog 16 #[.pointer (some ⟨b, 0, none⟩), .agg #[.bool c, .int .i64 ((a : Nat) : Int), .int .i64 ((f : Nat) : Int), .int .i64 ((n : Nat) : Int), .string d]] w fun e w' => e = .returned (.tuple #[.agg #[.bool false, .string ⟨#[]⟩, .int .i64 0, .bool false], .int .i64 0]) ∧ JAt S b (N + 1) (J.set a ⟨(n + 1) % 16384, true, d.data.toList⟩) w' ∧ FrS S w w' := by
  have hvb := Pkt.validB_iff.1 hv
  have hnb : n ≤ 16383 := by omega
  have hdb : d.size ≤ 1024 := by omega
  have hf3 : (((f : Nat) : Int) == 3) = false := by rw [hf]; rfl
  have hf1 : (((f : Nat) : Int) == 1) = true := by rw [hf]; rfl
  have hf2 : (((f : Nat) : Int) == 2) = false := by rw [hf]; rfl
  have hf0 : (((f : Nat) : Int) == 0) = false := by rw [hf]; rfl
  have hfb : bits .and .i64 ((f : Nat) : Int) 1 = 1 := by rw [and1, hf]; rfl
  obtain ⟨nx, hnx⟩ : ∃ k, (n + 1) % 16384 = k := ⟨_, rfl⟩
  have hnxl : nx < 16384 := by omega
  have hnb2 : bits .and .i64 (((n : Nat) : Int) + 1) 16383 = ((nx : Nat) : Int) := by rw [and14, ← hnx]; omega
  have hb0 := (Below.refl w.heap.size w).alloc (Nat.le_refl _) (pkO c a f n d)
  have hb1 := hb0.alloc (by rw [alloc_size]; omega) (pcO false ⟨#[]⟩ 0 false)
  obtain ⟨W1, hW1⟩ : ∃ W, (w.alloc (pkO c a f n d)).alloc (pcO false ⟨#[]⟩ 0 false) = W := ⟨_, rfl⟩
  have c3 : W1.heap[w.heap.size]? = some (pkO c a f n d) := by rw [← hW1]; exact ((World.grownBy_alloc _ _ none).block _ (by rw [alloc_size]; omega) (by simp)).trans (heap_alloc_new w _)
  have c4 : W1.heap[w.heap.size + 1]? = some (pcO false ⟨#[]⟩ 0 false) := by
    rw [← hW1, ← alloc_size w (pkO c a f n d)]; exact heap_alloc_new _ _
  have sz1 : W1.heap.size = w.heap.size + 2 := by rw [← hW1, alloc_size, alloc_size]
  rw [hW1] at hb1
  have h1 := h.below hb1
  have cN := none_calls b mb W1 (cell_of h1.cell)
  have cV := valid_calls c ((a : Nat) : Int) ((f : Nat) : Int) ((n : Nat) : Int) d W1
  rw [hv] at cV
  have hne : (((a : Nat) : Int) == 2047) = false := by simp; omega
  obtain ⟨F, hF⟩ : ∃ F, w.heap.size = F := ⟨_, rfl⟩
  have p0 : W1.cell? ⟨F, 0, none⟩ = some (.bool c) := by rw [← hF]; exact cell_of c3
  have p1 : W1.cell? ⟨F, 1, none⟩ = some (.int .i64 ((a : Nat) : Int)) := by rw [← hF]; exact cell_of c3
  have p2 : W1.cell? ⟨F, 2, none⟩ = some (.int .i64 ((f : Nat) : Int)) := by rw [← hF]; exact cell_of c3
  have p3 : W1.cell? ⟨F, 3, none⟩ = some (.int .i64 ((n : Nat) : Int)) := by rw [← hF]; exact cell_of c3
  have p4 : W1.cell? ⟨F, 4, none⟩ = some (.string d) := by rw [← hF]; exact cell_of c3
  have HX := Lib.hid (And.intro hnx (And.intro hf hv))
  clear hv hf hnx hb0 hvb
  go_enter Try.func16, Try.ntmps16
  go_wp2_with (go_at_call 34; refine cN.mono ?_; rintro e W2 ⟨rfl, rfl⟩)
  go_wp2_with (go_at_call 13; refine cV.mono ?_; rintro e W2 ⟨rfl, b2⟩; have h2 := h1.below b2; have d3 := (b2.block w.heap.size (by omega)).trans c3; have d4 := (b2.block (w.heap.size + 1) (by omega)).trans c4; have g2 := hb1.trans (b2.mono hb1.size); have z2 : W1.heap.size ≤ W2.heap.size := b2.size; have r1 : W2.cell? ⟨F, 1, none⟩ = some (.int .i64 ((a : Nat) : Int)) := (by rw [← hF]; exact cell_of d3))
  obtain ⟨q6, hq6⟩ : ∃ q, W2.heap.size = q := ⟨_, rfl⟩
  have b3 := (Below.refl W2.heap.size W2).alloc (Nat.le_refl _) (pcO false ⟨#[]⟩ 0 false)
  obtain ⟨W3, hW3⟩ : ∃ W, W2.alloc (pcO false ⟨#[]⟩ 0 false) = W := ⟨_, rfl⟩
  have c6 : W3.heap[q6]? = some (pcO false ⟨#[]⟩ 0 false) := by rw [← hW3, ← hq6]; exact heap_alloc_new _ _
  have sz3 : W3.heap.size = q6 + 1 := by rw [← hW3, alloc_size, hq6]
  rw [hW3] at b3 ⊢
  rw [hq6]
  have g3 := g2.trans (b3.mono (by omega))
  have h3 := h2.below b3
  have e3 := (b3.block w.heap.size (by omega)).trans d3
  have e4 := (b3.block (w.heap.size + 1) (by omega)).trans d4
  have b4 := (Below.refl W3.heap.size W3).alloc (Nat.le_refl _) (knO 0 false (.slice none 0 0))
  obtain ⟨W4, hW4⟩ : ∃ W, W3.alloc (knO 0 false (.slice none 0 0)) = W := ⟨_, rfl⟩
  have c7 : W4.heap[q6 + 1]? = some (knO 0 false (.slice none 0 0)) := by rw [← hW4, ← sz3]; exact heap_alloc_new _ _
  have hW4' : W3.drew.alloc (knO 0 false (.slice none 0 0)) = W4.drew := by rw [← hW4]; rfl
  rw [hW4] at b4
  have h4 := h3.below b4
  have g4 := g3.trans (b4.mono (by omega))
  have k3 := (b4.block w.heap.size (by omega)).trans e3
  have k4 := (b4.block (w.heap.size + 1) (by omega)).trans e4
  have k6 := (b4.block q6 (by omega)).trans c6
  have lk1 := (h4.below (Below.refl _ W4).drew).look_no ha hJ
  have lk2 := (h3.below (Below.refl _ W3).drew).look_no ha hJ
  unfold zK at lk1 lk2
  have s0 : W4.cell? ⟨b, 0, none⟩ = some (.map (some mb)) := cell_of h4.cell
  have s1 : W4.cell? ⟨F, 1, none⟩ = some (.int .i64 ((a : Nat) : Int)) := by rw [← hF]; exact cell_of k3
  have s2 : W4.cell? ⟨q6 + 1, 0, none⟩ = some (.int .i64 0) := cell_of c7
  have s3 : W4.cell? ⟨q6 + 1, 1, none⟩ = some (.bool false) := cell_of c7
  have s4 : W4.cell? ⟨q6 + 1, 2, none⟩ = some (.slice none 0 0) := cell_of c7
  have s5 := fz_of c7 0
  have s6 := fz_of c7 1
  have s7 := fz_of c7 2
  have t0 : W3.cell? ⟨b, 0, none⟩ = some (.map (some mb)) := cell_of h3.cell
  have t1 : W3.cell? ⟨F, 1, none⟩ = some (.int .i64 ((a : Nat) : Int)) := by rw [← hF]; exact cell_of e3
  have hL : Lo w q6 none c a f n d false ⟨#[]⟩ 0 false 0 false (.slice none 0 0) W4 := ⟨grown_none g4, by omega, k3, k4, k6, c7⟩
  have hq : F + 1 < q6 := by omega
  clear hW3 hq6 c6 e3 h2 d3 d4 r1 b2 p0 p1 p2 p3 p4 cV cN c3 c4 h1 hW1 b3 b4 g2 g3 g4 e4 k3 k4 k6 c7 h3 h4 hb1 sz1 z2
  go_region
  refine w_gen (Lo w q6 none c a f n d false ⟨#[]⟩ 0 false 0 false (.slice none 0 0)) ?_ ?_
  · have hlo := hL.lt
    refine ⟨?_, hL.lt, ?_, ?_, ?_, ?_⟩
    · repeat (first | with_reducible refine gr_drew ?_ | with_reducible refine gr_set (by omega) ?_)
      exact hL.g
    · refine At.out ?_
      repeat (first | with_reducible refine At.drew ?_ | with_reducible refine At.same ?_ | with_reducible refine At.ne (by omega) ?_)
      exact At.base hL.e3 rfl
    · refine At.out ?_
      repeat (first | with_reducible refine At.drew ?_ | with_reducible refine At.same ?_ | with_reducible refine At.ne (by omega) ?_)
      exact At.base hL.e4 rfl
    · refine At.out ?_
      repeat (first | with_reducible refine At.drew ?_ | with_reducible refine At.same ?_ | with_reducible refine At.ne (by omega) ?_)
      exact At.base hL.e6 rfl
    · refine At.out ?_
      repeat (first | with_reducible refine At.drew ?_ | with_reducible refine At.same ?_ | with_reducible refine At.ne (by omega) ?_)
      exact At.base hL.e7 rfl
  clear hL s0 s1 s2 s3 s4 s5 s6 s7 t0 t1 lk1 lk2 hW4 hW4' sz3
  intro W5 hL
  obtain ⟨u1, u2, u3, u4, v0, v1, v2, v3, x0, x1, x2, x3, y0, y1, y2⟩ := hL.cells
  obtain ⟨f4, f6, f7⟩ := hL.fz
  rw [hF] at u1 u2 u3 u4 v0 v1 v2 v3 f4
  go_wp2
  refine w_gen (Lo w q6 none c a f n d false ⟨#[]⟩ 0 false ((nx : Nat) : Int) false (.slice none 0 0)) ?_ ?_
  · have hlo := hL.lt
    refine ⟨?_, hL.lt, ?_, ?_, ?_, ?_⟩
    · repeat (first | with_reducible refine gr_drew ?_ | with_reducible refine gr_set (by omega) ?_)
      exact hL.g
    · refine At.out ?_
      repeat (first | with_reducible refine At.drew ?_ | with_reducible refine At.same ?_ | with_reducible refine At.ne (by omega) ?_)
      exact At.base hL.e3 rfl
    · refine At.out ?_
      repeat (first | with_reducible refine At.drew ?_ | with_reducible refine At.same ?_ | with_reducible refine At.ne (by omega) ?_)
      exact At.base hL.e4 rfl
    · refine At.out ?_
      repeat (first | with_reducible refine At.drew ?_ | with_reducible refine At.same ?_ | with_reducible refine At.ne (by omega) ?_)
      exact At.base hL.e6 rfl
    · refine At.out ?_
      repeat (first | with_reducible refine At.drew ?_ | with_reducible refine At.same ?_ | with_reducible refine At.ne (by omega) ?_)
      exact At.base hL.e7 rfl
  clear hL u1 u2 u3 u4 v0 v1 v2 v3 x0 x1 x2 x3 y0 y1 y2 f4 f6 f7
  intro W5 hL
  obtain ⟨g9, hg9⟩ : ∃ g, W5.heap.size = g := ⟨_, rfl⟩
  have hg9' : w.heap.size ≤ g9 := by rw [← hg9]; exact hL.g.size
  have hg9a : w.heap.size ≤ g9 := hg9'
  have hXs : (W5.setCell ⟨q6 + 1, 1, none⟩ (.bool true)).heap.size = g9 := by rw [← hg9]; exact ((OnlyB.refl (q6 + 1) W5).setCell 1 (.bool true)).size
  obtain ⟨cp1, Y1, hc1, hr1, bb1, _⟩ := brow_new W5.drew d (by omega)
  obtain ⟨cp2, Y2, hc2, hr2, bb2, _⟩ := brow_new (W5.setCell ⟨q6 + 1, 1, none⟩ (.bool true)).drew d (by omega)
  have hc1 : (convert 9 66 (.string d)).run Try.prog W5.drew = .ok (.slice (some ⟨g9, 0, none⟩) d.size cp1) Y1 := by rw [← hg9]; exact hc1
  have hr1 : BRow Y1 (.slice (some ⟨g9, 0, none⟩) d.size cp1) d.data.toList := by rw [← hg9]; exact hr1
  have hc2 : (convert 9 66 (.string d)).run Try.prog (W5.setCell ⟨q6 + 1, 1, none⟩ (.bool true)).drew = .ok (.slice (some ⟨g9, 0, none⟩) d.size cp2) Y2 := by rw [← hXs]; exact hc2
  have hr2 : BRow Y2 (.slice (some ⟨g9, 0, none⟩) d.size cp2) d.data.toList := by rw [← hXs]; exact hr2
  have hL1 := hL.drew.below bb1
  have hL2 : (Lo w q6 none c a f n d false ⟨#[]⟩ 0 false ((nx : Nat) : Int) true (.slice none 0 0)) (W5.setCell ⟨q6 + 1, 1, none⟩ (.bool true)).drew := by
    refine w_gen (Lo w q6 none c a f n d false ⟨#[]⟩ 0 false ((nx : Nat) : Int) true (.slice none 0 0)) ?_ fun _ h => h
    · have hlo := hL.lt
      refine ⟨?_, hL.lt, ?_, ?_, ?_, ?_⟩
      · repeat (first | with_reducible refine gr_drew ?_ | with_reducible refine gr_set (by omega) ?_)
        exact hL.g
      · refine At.out ?_
        repeat (first | with_reducible refine At.drew ?_ | with_reducible refine At.same ?_ | with_reducible refine At.ne (by omega) ?_)
        exact At.base hL.e3 rfl
      · refine At.out ?_
        repeat (first | with_reducible refine At.drew ?_ | with_reducible refine At.same ?_ | with_reducible refine At.ne (by omega) ?_)
        exact At.base hL.e4 rfl
      · refine At.out ?_
        repeat (first | with_reducible refine At.drew ?_ | with_reducible refine At.same ?_ | with_reducible refine At.ne (by omega) ?_)
        exact At.base hL.e6 rfl
      · refine At.out ?_
        repeat (first | with_reducible refine At.drew ?_ | with_reducible refine At.same ?_ | with_reducible refine At.ne (by omega) ?_)
        exact At.base hL.e7 rfl
  replace hL2 := hL2.below bb2
  obtain ⟨u1, u2, u3, u4, v0, v1, v2, v3, x0, x1, x2, x3, y0, y1, y2⟩ := hL.cells
  obtain ⟨f4, f6, f7⟩ := hL.fz
  rw [hF] at u1 u2 u3 u4 v0 v1 v2 v3 f4
  obtain ⟨a1, a2, a3, a4, b0, b1, b2, b3, d0, d1, d2, d3, e0, e1, e2⟩ := hL1.cells
  obtain ⟨g4, g6, g7⟩ := hL1.fz
  rw [hF] at a1 a2 a3 a4 b0 b1 b2 b3 g4
  obtain ⟨A1, A2, A3, A4, B0, B1, B2, B3, D0, D1, D2, D3, E0, E1, E2⟩ := hL2.cells
  obtain ⟨G4, G6, G7⟩ := hL2.fz
  rw [hF] at A1 A2 A3 A4 B0 B1 B2 B3 G4
  go_region
  · skip
    refine w_gen (fun w' => (Lo w q6 none c a f n d false ⟨#[]⟩ 0 false ((nx : Nat) : Int) true (.slice (some ⟨g9, 0, none⟩) d.size cp1)) w' ∧ BRow w' (.slice (some ⟨g9, 0, none⟩) d.size cp1) d.data.toList) ⟨?_, ?_⟩ ?_
    · have hlo := hL1.lt
      refine ⟨?_, hL1.lt, ?_, ?_, ?_, ?_⟩
      · repeat (first | with_reducible refine gr_drew ?_ | with_reducible refine gr_set (by omega) ?_)
        exact hL1.g
      · refine At.out ?_
        repeat (first | with_reducible refine At.drew ?_ | with_reducible refine At.same ?_ | with_reducible refine At.ne (by omega) ?_)
        exact At.base hL1.e3 rfl
      · refine At.out ?_
        repeat (first | with_reducible refine At.drew ?_ | with_reducible refine At.same ?_ | with_reducible refine At.ne (by omega) ?_)
        exact At.base hL1.e4 rfl
      · refine At.out ?_
        repeat (first | with_reducible refine At.drew ?_ | with_reducible refine At.same ?_ | with_reducible refine At.ne (by omega) ?_)
        exact At.base hL1.e6 rfl
      · refine At.out ?_
        repeat (first | with_reducible refine At.drew ?_ | with_reducible refine At.same ?_ | with_reducible refine At.ne (by omega) ?_)
        exact At.base hL1.e7 rfl
    · exact (hr1.aside (o := 1) hL1.e7 (by decide)).aside (o := 2) (set_at hL1.e7) (by decide)
    clear hL1 u1 u2 u3 u4 v0 v1 v2 v3 x0 x1 x2 x3 y0 y1 y2 f4 f6 f7 a1 a2 a3 a4 b0 b1 b2 b3 d0 d1 d2 d3 e0 e1 e2 g4 g6 g7 A1 A2 A3 A4 B0 B1 B2 B3 D0 D1 D2 D3 E0 E1 E2 G4 G6 G7 hc1 hc2 hL hL2 hr1 hr2
    rintro W6 ⟨hL, hrB⟩
    obtain ⟨u1, u2, u3, u4, v0, v1, v2, v3, x0, x1, x2, x3, y0, y1, y2⟩ := hL.cells
    obtain ⟨f4, f6, f7⟩ := hL.fz
    rw [hF] at u1 u2 u3 u4 v0 v1 v2 v3 f4
    go_wp2
    obtain ⟨W7, hrun, hq7, hF7, hJ7, hR7⟩ := feed_fin (k' := ⟨(n + 1) % 16384, true, d.data.toList⟩) h ha hN (fun g e => by cases e) hL (by show (((n + 1) % 16384 : Nat) : Int) = _; rw [HX.out.1]) rfl (Nat.mod_lt _ (by decide)) (by show d.data.toList.length ≤ _; rw [size_list]; omega) (fun e => by cases e) (hrB) (fun g hg => .inr (Nat.le_trans hg9a (Nat.le_of_eq (Option.some.inj hg))))
    unfold endW at hJ7 hR7
    rw [hF] at hJ7 hR7 hF7
    have i0 : W7.cell? ⟨q6, 0, none⟩ = some (.bool false) := cell_of hq7
    have i1 : W7.cell? ⟨q6, 1, none⟩ = some (.string ⟨#[]⟩) := cell_of hq7
    have i2 : W7.cell? ⟨q6, 2, none⟩ = some (.int .i64 0) := cell_of hq7
    have i3 : W7.cell? ⟨q6, 3, none⟩ = some (.bool false) := cell_of hq7
    have j0 : W7.cell? ⟨F + 1, 0, none⟩ = some (.bool false) := cell_of hF7
    have j1 : W7.cell? ⟨F + 1, 1, none⟩ = some (.string ⟨#[]⟩) := cell_of hF7
    have j2 : W7.cell? ⟨F + 1, 2, none⟩ = some (.int .i64 0) := cell_of hF7
    have j3 : W7.cell? ⟨F + 1, 3, none⟩ = some (.bool false) := cell_of hF7
    have jz := fz_of hF7
    have s0 : W6.cell? ⟨b, 0, none⟩ = some (.map (some mb)) := cell_of (h.later a (fun g e => by cases e) hL.g).cell
    have h8 := set_at (o := 3) (v := .bool false) (set_at (o := 2) (v := .int .i64 0) (set_at (o := 1) (v := .string ⟨#[]⟩) (set_at (o := 0) (v := .bool false) hF7)))
    obtain ⟨W8, hW8⟩ : ∃ W, (((W7.setCell ⟨F + 1, 0, none⟩ (.bool false)).setCell ⟨F + 1, 1, none⟩ (.string ⟨#[]⟩)).setCell ⟨F + 1, 2, none⟩ (.int .i64 0)).setCell ⟨F + 1, 3, none⟩ (.bool false) = W := ⟨_, rfl⟩
    rw [hW8] at hJ7 hR7 h8
    have m0 : W8.cell? ⟨F + 1, 0, none⟩ = some (.bool false) := cell_of h8
    have m1 : W8.cell? ⟨F + 1, 1, none⟩ = some (.string ⟨#[]⟩) := cell_of h8
    have m2 : W8.cell? ⟨F + 1, 2, none⟩ = some (.int .i64 0) := cell_of h8
    have m3 : W8.cell? ⟨F + 1, 3, none⟩ = some (.bool false) := cell_of h8
    clear hL h8 hq7 hF7
    go_region
    go_wp2
    refine bodyPost_ret (v := .tuple #[.agg #[.bool false, .string ⟨#[]⟩, .int .i64 0, .bool false], .int .i64 0]) ?_ rfl ⟨by first | rfl | rw [hM], hJ7, hR7⟩
    simp [results, Try.results16, go_sem, m0, m1, m2, m3]
  · skip
    refine w_gen (fun w' => (Lo w q6 none c a f n d false ⟨#[]⟩ 0 false ((nx : Nat) : Int) true (.slice (some ⟨g9, 0, none⟩) d.size cp2)) w' ∧ BRow w' (.slice (some ⟨g9, 0, none⟩) d.size cp2) d.data.toList) ⟨?_, ?_⟩ ?_
    · have hlo := hL2.lt
      refine ⟨?_, hL2.lt, ?_, ?_, ?_, ?_⟩
      · repeat (first | with_reducible refine gr_drew ?_ | with_reducible refine gr_set (by omega) ?_)
        exact hL2.g
      · refine At.out ?_
        repeat (first | with_reducible refine At.drew ?_ | with_reducible refine At.same ?_ | with_reducible refine At.ne (by omega) ?_)
        exact At.base hL2.e3 rfl
      · refine At.out ?_
        repeat (first | with_reducible refine At.drew ?_ | with_reducible refine At.same ?_ | with_reducible refine At.ne (by omega) ?_)
        exact At.base hL2.e4 rfl
      · refine At.out ?_
        repeat (first | with_reducible refine At.drew ?_ | with_reducible refine At.same ?_ | with_reducible refine At.ne (by omega) ?_)
        exact At.base hL2.e6 rfl
      · refine At.out ?_
        repeat (first | with_reducible refine At.drew ?_ | with_reducible refine At.same ?_ | with_reducible refine At.ne (by omega) ?_)
        exact At.base hL2.e7 rfl
    · exact hr2.aside (o := 2) hL2.e7 (by decide)
    clear hL2 u1 u2 u3 u4 v0 v1 v2 v3 x0 x1 x2 x3 y0 y1 y2 f4 f6 f7 a1 a2 a3 a4 b0 b1 b2 b3 d0 d1 d2 d3 e0 e1 e2 g4 g6 g7 A1 A2 A3 A4 B0 B1 B2 B3 D0 D1 D2 D3 E0 E1 E2 G4 G6 G7 hc1 hc2 hL hL1 hr1 hr2
    rintro W6 ⟨hL, hrB⟩
    obtain ⟨u1, u2, u3, u4, v0, v1, v2, v3, x0, x1, x2, x3, y0, y1, y2⟩ := hL.cells
    obtain ⟨f4, f6, f7⟩ := hL.fz
    rw [hF] at u1 u2 u3 u4 v0 v1 v2 v3 f4
    go_wp2
    obtain ⟨W7, hrun, hq7, hF7, hJ7, hR7⟩ := feed_fin (k' := ⟨(n + 1) % 16384, true, d.data.toList⟩) h ha hN (fun g e => by cases e) hL (by show (((n + 1) % 16384 : Nat) : Int) = _; rw [HX.out.1]) rfl (Nat.mod_lt _ (by decide)) (by show d.data.toList.length ≤ _; rw [size_list]; omega) (fun e => by cases e) (hrB) (fun g hg => .inr (Nat.le_trans hg9a (Nat.le_of_eq (Option.some.inj hg))))
    unfold endW at hJ7 hR7
    rw [hF] at hJ7 hR7 hF7
    have i0 : W7.cell? ⟨q6, 0, none⟩ = some (.bool false) := cell_of hq7
    have i1 : W7.cell? ⟨q6, 1, none⟩ = some (.string ⟨#[]⟩) := cell_of hq7
    have i2 : W7.cell? ⟨q6, 2, none⟩ = some (.int .i64 0) := cell_of hq7
    have i3 : W7.cell? ⟨q6, 3, none⟩ = some (.bool false) := cell_of hq7
    have j0 : W7.cell? ⟨F + 1, 0, none⟩ = some (.bool false) := cell_of hF7
    have j1 : W7.cell? ⟨F + 1, 1, none⟩ = some (.string ⟨#[]⟩) := cell_of hF7
    have j2 : W7.cell? ⟨F + 1, 2, none⟩ = some (.int .i64 0) := cell_of hF7
    have j3 : W7.cell? ⟨F + 1, 3, none⟩ = some (.bool false) := cell_of hF7
    have jz := fz_of hF7
    have s0 : W6.cell? ⟨b, 0, none⟩ = some (.map (some mb)) := cell_of (h.later a (fun g e => by cases e) hL.g).cell
    have h8 := set_at (o := 3) (v := .bool false) (set_at (o := 2) (v := .int .i64 0) (set_at (o := 1) (v := .string ⟨#[]⟩) (set_at (o := 0) (v := .bool false) hF7)))
    obtain ⟨W8, hW8⟩ : ∃ W, (((W7.setCell ⟨F + 1, 0, none⟩ (.bool false)).setCell ⟨F + 1, 1, none⟩ (.string ⟨#[]⟩)).setCell ⟨F + 1, 2, none⟩ (.int .i64 0)).setCell ⟨F + 1, 3, none⟩ (.bool false) = W := ⟨_, rfl⟩
    rw [hW8] at hJ7 hR7 h8
    have m0 : W8.cell? ⟨F + 1, 0, none⟩ = some (.bool false) := cell_of h8
    have m1 : W8.cell? ⟨F + 1, 1, none⟩ = some (.string ⟨#[]⟩) := cell_of h8
    have m2 : W8.cell? ⟨F + 1, 2, none⟩ = some (.int .i64 0) := cell_of h8
    have m3 : W8.cell? ⟨F + 1, 3, none⟩ = some (.bool false) := cell_of h8
    clear hL h8 hq7 hF7
    go_region
    go_wp2
    refine bodyPost_ret (v := .tuple #[.agg #[.bool false, .string ⟨#[]⟩, .int .i64 0, .bool false], .int .i64 0]) ?_ rfl ⟨by first | rfl | rw [hM], hJ7, hR7⟩
    simp [results, Try.results16, go_sem, m0, m1, m2, m3]
set_option maxHeartbeats 6400000 in
theorem feed_2_1 (h : JC S b mb N 2047 J tvs D w) (hN : N < maxLen) (c : Bool) {a f n : Nat} {d : ByteArray} (hv : Pkt.validB a f n d = true) (ha : a < 2047) {k : Kn} (hJ : J a = some k) (hop : k.opn = false) {mi : Nat} (hmi : mi = missK (some k) n) (hf : f = 1) :
    Calls Try.prog 16 #[.pointer (some ⟨b, 0, none⟩), .agg #[.bool c, .int .i64 ((a : Nat) : Int), .int .i64 ((f : Nat) : Int), .int .i64 ((n : Nat) : Int), .string d]] w fun e w' => e = .returned (.tuple #[.agg #[.bool false, .string ⟨#[]⟩, .int .i64 ((mi : Nat) : Int), .bool false], .int .i64 0]) ∧ JAt S b (N + 1) (J.set a ⟨(n + 1) % 16384, true, d.data.toList⟩) w' ∧ FrS S w w' := by
  have hvb := Pkt.validB_iff.1 hv
  have hnb : n ≤ 16383 := by omega
  have hdb : d.size ≤ 1024 := by omega
  have hap := h.ap a k hJ
  have hrow := h.row a k hJ (by omega)
  obtain ⟨nx0, op0, tx⟩ := k
  have hop : op0 = false := hop
  subst hop
  have hxb : nx0 < 16384 := hap.2.1
  have hmb : bits .and .i64 (((n : Nat) : Int) - ((nx0 : Nat) : Int)) 16383 = ((mi : Nat) : Int) := by
    rw [and14, hmi]
    show _ = (((n + (16384 - nx0)) % 16384 : Nat) : Int)
    omega
  have htv : tvs a = .slice none 0 0 := (hap.2.2.2 rfl).2
  have hmil : mi ≤ 16383 := by rw [hmi]; show (n + (16384 - nx0)) % 16384 ≤ 16383; omega
  have hf3 : (((f : Nat) : Int) == 3) = false := by rw [hf]; rfl
  have hf1 : (((f : Nat) : Int) == 1) = true := by rw [hf]; rfl
  have hf2 : (((f : Nat) : Int) == 2) = false := by rw [hf]; rfl
  have hf0 : (((f : Nat) : Int) == 0) = false := by rw [hf]; rfl
  have hfb : bits .and .i64 ((f : Nat) : Int) 1 = 1 := by rw [and1, hf]; rfl
  obtain ⟨nx, hnx⟩ : ∃ k, (n + 1) % 16384 = k := ⟨_, rfl⟩
  have hnxl : nx < 16384 := by omega
  have hnb2 : bits .and .i64 (((n : Nat) : Int) + 1) 16383 = ((nx : Nat) : Int) := by rw [and14, ← hnx]; omega
  have hb0 := (Below.refl w.heap.size w).alloc (Nat.le_refl _) (pkO c a f n d)
  have hb1 := hb0.alloc (by rw [alloc_size]; omega) (pcO false ⟨#[]⟩ 0 false)
  obtain ⟨W1, hW1⟩ : ∃ W, (w.alloc (pkO c a f n d)).alloc (pcO false ⟨#[]⟩ 0 false) = W := ⟨_, rfl⟩
  have c3 : W1.heap[w.heap.size]? = some (pkO c a f n d) := by rw [← hW1]; exact ((World.grownBy_alloc _ _ none).block _ (by rw [alloc_size]; omega) (by simp)).trans (heap_alloc_new w _)
  have c4 : W1.heap[w.heap.size + 1]? = some (pcO false ⟨#[]⟩ 0 false) := by
    rw [← hW1, ← alloc_size w (pkO c a f n d)]; exact heap_alloc_new _ _
  have sz1 : W1.heap.size = w.heap.size + 2 := by rw [← hW1, alloc_size, alloc_size]
  rw [hW1] at hb1
  have h1 := h.below hb1
  have cN := none_calls b mb W1 (cell_of h1.cell)
  have cV := valid_calls c ((a : Nat) : Int) ((f : Nat) : Int) ((n : Nat) : Int) d W1
  rw [hv] at cV
  have hne : (((a : Nat) : Int) == 2047) = false := by simp; omega
  obtain ⟨F, hF⟩ : ∃ F, w.heap.size = F := ⟨_, rfl⟩
  have p0 : W1.cell? ⟨F, 0, none⟩ = some (.bool c) := by rw [← hF]; exact cell_of c3
  have p1 : W1.cell? ⟨F, 1, none⟩ = some (.int .i64 ((a : Nat) : Int)) := by rw [← hF]; exact cell_of c3
  have p2 : W1.cell? ⟨F, 2, none⟩ = some (.int .i64 ((f : Nat) : Int)) := by rw [← hF]; exact cell_of c3
  have p3 : W1.cell? ⟨F, 3, none⟩ = some (.int .i64 ((n : Nat) : Int)) := by rw [← hF]; exact cell_of c3
  have p4 : W1.cell? ⟨F, 4, none⟩ = some (.string d) := by rw [← hF]; exact cell_of c3
  have HX := Lib.hid (And.intro hnx (And.intro hf hv))
  have HM := Lib.hid (And.intro hmi hap)
  clear hv hf hnx hb0 hvb hmi hap
  go_enter Try.func16, Try.ntmps16
  go_wp2_with (go_at_call 34; refine cN.mono ?_; rintro e W2 ⟨rfl, rfl⟩)
  go_wp2_with (go_at_call 13; refine cV.mono ?_; rintro e W2 ⟨rfl, b2⟩; have h2 := h1.below b2; have d3 := (b2.block w.heap.size (by omega)).trans c3; have d4 := (b2.block (w.heap.size + 1) (by omega)).trans c4; have g2 := hb1.trans (b2.mono hb1.size); have z2 : W1.heap.size ≤ W2.heap.size := b2.size; have r1 : W2.cell? ⟨F, 1, none⟩ = some (.int .i64 ((a : Nat) : Int)) := (by rw [← hF]; exact cell_of d3))
  obtain ⟨q6, hq6⟩ : ∃ q, W2.heap.size = q := ⟨_, rfl⟩
  have b3 := (Below.refl W2.heap.size W2).alloc (Nat.le_refl _) (pcO false ⟨#[]⟩ 0 false)
  obtain ⟨W3, hW3⟩ : ∃ W, W2.alloc (pcO false ⟨#[]⟩ 0 false) = W := ⟨_, rfl⟩
  have c6 : W3.heap[q6]? = some (pcO false ⟨#[]⟩ 0 false) := by rw [← hW3, ← hq6]; exact heap_alloc_new _ _
  have sz3 : W3.heap.size = q6 + 1 := by rw [← hW3, alloc_size, hq6]
  rw [hW3] at b3 ⊢
  rw [hq6]
  have g3 := g2.trans (b3.mono (by omega))
  have h3 := h2.below b3
  have e3 := (b3.block w.heap.size (by omega)).trans d3
  have e4 := (b3.block (w.heap.size + 1) (by omega)).trans d4
  have b4 := (Below.refl W3.heap.size W3).alloc (Nat.le_refl _) (knO 0 false (.slice none 0 0))
  obtain ⟨W4, hW4⟩ : ∃ W, W3.alloc (knO 0 false (.slice none 0 0)) = W := ⟨_, rfl⟩
  have c7 : W4.heap[q6 + 1]? = some (knO 0 false (.slice none 0 0)) := by rw [← hW4, ← sz3]; exact heap_alloc_new _ _
  have hW4' : W3.drew.alloc (knO 0 false (.slice none 0 0)) = W4.drew := by rw [← hW4]; rfl
  rw [hW4] at b4
  have h4 := h3.below b4
  have g4 := g3.trans (b4.mono (by omega))
  have k3 := (b4.block w.heap.size (by omega)).trans e3
  have k4 := (b4.block (w.heap.size + 1) (by omega)).trans e4
  have k6 := (b4.block q6 (by omega)).trans c6
  have lk1 := (h4.below (Below.refl _ W4).drew).look_yes hJ
  have lk2 := (h3.below (Below.refl _ W3).drew).look_yes hJ
  unfold kV at lk1 lk2
  rw [htv] at lk1 lk2
  have s0 : W4.cell? ⟨b, 0, none⟩ = some (.map (some mb)) := cell_of h4.cell
  have s1 : W4.cell? ⟨F, 1, none⟩ = some (.int .i64 ((a : Nat) : Int)) := by rw [← hF]; exact cell_of k3
  have s2 : W4.cell? ⟨q6 + 1, 0, none⟩ = some (.int .i64 0) := cell_of c7
  have s3 : W4.cell? ⟨q6 + 1, 1, none⟩ = some (.bool false) := cell_of c7
  have s4 : W4.cell? ⟨q6 + 1, 2, none⟩ = some (.slice none 0 0) := cell_of c7
  have s5 := fz_of c7 0
  have s6 := fz_of c7 1
  have s7 := fz_of c7 2
  have t0 : W3.cell? ⟨b, 0, none⟩ = some (.map (some mb)) := cell_of h3.cell
  have t1 : W3.cell? ⟨F, 1, none⟩ = some (.int .i64 ((a : Nat) : Int)) := by rw [← hF]; exact cell_of e3
  have hL : Lo w q6 none c a f n d false ⟨#[]⟩ 0 false 0 false (.slice none 0 0) W4 := ⟨grown_none g4, by omega, k3, k4, k6, c7⟩
  have hq : F + 1 < q6 := by omega
  clear hW3 hq6 c6 e3 h2 d3 d4 r1 b2 p0 p1 p2 p3 p4 cV cN c3 c4 h1 hW1 b3 b4 g2 g3 g4 e4 k3 k4 k6 c7 h3 h4 hb1 sz1 z2
  go_region
  refine w_gen (Lo w q6 none c a f n d false ⟨#[]⟩ 0 false ((nx0 : Nat) : Int) false (.slice none 0 0)) ?_ ?_
  · have hlo := hL.lt
    refine ⟨?_, hL.lt, ?_, ?_, ?_, ?_⟩
    · repeat (first | with_reducible refine gr_drew ?_ | with_reducible refine gr_set (by omega) ?_)
      exact hL.g
    · refine At.out ?_
      repeat (first | with_reducible refine At.drew ?_ | with_reducible refine At.same ?_ | with_reducible refine At.ne (by omega) ?_)
      exact At.base hL.e3 rfl
    · refine At.out ?_
      repeat (first | with_reducible refine At.drew ?_ | with_reducible refine At.same ?_ | with_reducible refine At.ne (by omega) ?_)
      exact At.base hL.e4 rfl
    · refine At.out ?_
      repeat (first | with_reducible refine At.drew ?_ | with_reducible refine At.same ?_ | with_reducible refine At.ne (by omega) ?_)
      exact At.base hL.e6 rfl
    · refine At.out ?_
      repeat (first | with_reducible refine At.drew ?_ | with_reducible refine At.same ?_ | with_reducible refine At.ne (by omega) ?_)
      exact At.base hL.e7 rfl
  clear hL s0 s1 s2 s3 s4 s5 s6 s7 t0 t1 lk1 lk2 hW4 hW4' sz3
  intro W5 hL
  obtain ⟨u1, u2, u3, u4, v0, v1, v2, v3, x0, x1, x2, x3, y0, y1, y2⟩ := hL.cells
  obtain ⟨f4, f6, f7⟩ := hL.fz
  rw [hF] at u1 u2 u3 u4 v0 v1 v2 v3 f4
  go_wp2
  refine w_gen (Lo w q6 none c a f n d false ⟨#[]⟩ ((mi : Nat) : Int) false ((nx : Nat) : Int) false (.slice none 0 0)) ?_ ?_
  · have hlo := hL.lt
    refine ⟨?_, hL.lt, ?_, ?_, ?_, ?_⟩
    · repeat (first | with_reducible refine gr_drew ?_ | with_reducible refine gr_set (by omega) ?_)
      exact hL.g
    · refine At.out ?_
      repeat (first | with_reducible refine At.drew ?_ | with_reducible refine At.same ?_ | with_reducible refine At.ne (by omega) ?_)
      exact At.base hL.e3 rfl
    · refine At.out ?_
      repeat (first | with_reducible refine At.drew ?_ | with_reducible refine At.same ?_ | with_reducible refine At.ne (by omega) ?_)
      exact At.base hL.e4 rfl
    · refine At.out ?_
      repeat (first | with_reducible refine At.drew ?_ | with_reducible refine At.same ?_ | with_reducible refine At.ne (by omega) ?_)
      exact At.base hL.e6 rfl
    · refine At.out ?_
      repeat (first | with_reducible refine At.drew ?_ | with_reducible refine At.same ?_ | with_reducible refine At.ne (by omega) ?_)
      exact At.base hL.e7 rfl
  clear hL u1 u2 u3 u4 v0 v1 v2 v3 x0 x1 x2 x3 y0 y1 y2 f4 f6 f7
  intro W5 hL
  obtain ⟨g9, hg9⟩ : ∃ g, W5.heap.size = g := ⟨_, rfl⟩
  have hg9' : w.heap.size ≤ g9 := by rw [← hg9]; exact hL.g.size
  have hg9a : w.heap.size ≤ g9 := hg9'
  have hXs : (W5.setCell ⟨q6 + 1, 1, none⟩ (.bool true)).heap.size = g9 := by rw [← hg9]; exact ((OnlyB.refl (q6 + 1) W5).setCell 1 (.bool true)).size
  obtain ⟨cp1, Y1, hc1, hr1, bb1, _⟩ := brow_new W5.drew d (by omega)
  obtain ⟨cp2, Y2, hc2, hr2, bb2, _⟩ := brow_new (W5.setCell ⟨q6 + 1, 1, none⟩ (.bool true)).drew d (by omega)
  have hc1 : (convert 9 66 (.string d)).run Try.prog W5.drew = .ok (.slice (some ⟨g9, 0, none⟩) d.size cp1) Y1 := by rw [← hg9]; exact hc1
  have hr1 : BRow Y1 (.slice (some ⟨g9, 0, none⟩) d.size cp1) d.data.toList := by rw [← hg9]; exact hr1
  have hc2 : (convert 9 66 (.string d)).run Try.prog (W5.setCell ⟨q6 + 1, 1, none⟩ (.bool true)).drew = .ok (.slice (some ⟨g9, 0, none⟩) d.size cp2) Y2 := by rw [← hXs]; exact hc2
  have hr2 : BRow Y2 (.slice (some ⟨g9, 0, none⟩) d.size cp2) d.data.toList := by rw [← hXs]; exact hr2
  have hL1 := hL.drew.below bb1
  have hL2 : (Lo w q6 none c a f n d false ⟨#[]⟩ ((mi : Nat) : Int) false ((nx : Nat) : Int) true (.slice none 0 0)) (W5.setCell ⟨q6 + 1, 1, none⟩ (.bool true)).drew := by
    refine w_gen (Lo w q6 none c a f n d false ⟨#[]⟩ ((mi : Nat) : Int) false ((nx : Nat) : Int) true (.slice none 0 0)) ?_ fun _ h => h
    · have hlo := hL.lt
      refine ⟨?_, hL.lt, ?_, ?_, ?_, ?_⟩
      · repeat (first | with_reducible refine gr_drew ?_ | with_reducible refine gr_set (by omega) ?_)
        exact hL.g
      · refine At.out ?_
        repeat (first | with_reducible refine At.drew ?_ | with_reducible refine At.same ?_ | with_reducible refine At.ne (by omega) ?_)
        exact At.base hL.e3 rfl
      · refine At.out ?_
        repeat (first | with_reducible refine At.drew ?_ | with_reducible refine At.same ?_ | with_reducible refine At.ne (by omega) ?_)
        exact At.base hL.e4 rfl
      · refine At.out ?_
        repeat (first | with_reducible refine At.drew ?_ | with_reducible refine At.same ?_ | with_reducible refine At.ne (by omega) ?_)
        exact At.base hL.e6 rfl
      · refine At.out ?_
        repeat (first | with_reducible refine At.drew ?_ | with_reducible refine At.same ?_ | with_reducible refine At.ne (by omega) ?_)
        exact At.base hL.e7 rfl
  replace hL2 := hL2.below bb2
  obtain ⟨u1, u2, u3, u4, v0, v1, v2, v3, x0, x1, x2, x3, y0, y1, y2⟩ := hL.cells
  obtain ⟨f4, f6, f7⟩ := hL.fz
  rw [hF] at u1 u2 u3 u4 v0 v1 v2 v3 f4
  obtain ⟨a1, a2, a3, a4, b0, b1, b2, b3, d0, d1, d2, d3, e0, e1, e2⟩ := hL1.cells
  obtain ⟨g4, g6, g7⟩ := hL1.fz
  rw [hF] at a1 a2 a3 a4 b0 b1 b2 b3 g4
  obtain ⟨A1, A2, A3, A4, B0, B1, B2, B3, D0, D1, D2, D3, E0, E1, E2⟩ := hL2.cells
  obtain ⟨G4, G6, G7⟩ := hL2.fz
  rw [hF] at A1 A2 A3 A4 B0 B1 B2 B3 G4
  go_region
  · skip
    refine w_gen (fun w' => (Lo w q6 none c a f n d false ⟨#[]⟩ ((mi : Nat) : Int) false ((nx : Nat) : Int) true (.slice (some ⟨g9, 0, none⟩) d.size cp1)) w' ∧ BRow w' (.slice (some ⟨g9, 0, none⟩) d.size cp1) d.data.toList) ⟨?_, ?_⟩ ?_
    · have hlo := hL1.lt
      refine ⟨?_, hL1.lt, ?_, ?_, ?_, ?_⟩
      · repeat (first | with_reducible refine gr_drew ?_ | with_reducible refine gr_set (by omega) ?_)
        exact hL1.g
      · refine At.out ?_
        repeat (first | with_reducible refine At.drew ?_ | with_reducible refine At.same ?_ | with_reducible refine At.ne (by omega) ?_)
        exact At.base hL1.e3 rfl
      · refine At.out ?_
        repeat (first | with_reducible refine At.drew ?_ | with_reducible refine At.same ?_ | with_reducible refine At.ne (by omega) ?_)
        exact At.base hL1.e4 rfl
      · refine At.out ?_
        repeat (first | with_reducible refine At.drew ?_ | with_reducible refine At.same ?_ | with_reducible refine At.ne (by omega) ?_)
        exact At.base hL1.e6 rfl
      · refine At.out ?_
        repeat (first | with_reducible refine At.drew ?_ | with_reducible refine At.same ?_ | with_reducible refine At.ne (by omega) ?_)
        exact At.base hL1.e7 rfl
    · exact (hr1.aside (o := 1) hL1.e7 (by decide)).aside (o := 2) (set_at hL1.e7) (by decide)
    clear hL1 u1 u2 u3 u4 v0 v1 v2 v3 x0 x1 x2 x3 y0 y1 y2 f4 f6 f7 a1 a2 a3 a4 b0 b1 b2 b3 d0 d1 d2 d3 e0 e1 e2 g4 g6 g7 A1 A2 A3 A4 B0 B1 B2 B3 D0 D1 D2 D3 E0 E1 E2 G4 G6 G7 hc1 hc2 hL hL2 hr1 hr2
    rintro W6 ⟨hL, hrB⟩
    obtain ⟨u1, u2, u3, u4, v0, v1, v2, v3, x0, x1, x2, x3, y0, y1, y2⟩ := hL.cells
    obtain ⟨f4, f6, f7⟩ := hL.fz
    rw [hF] at u1 u2 u3 u4 v0 v1 v2 v3 f4
    go_wp2
    obtain ⟨W7, hrun, hq7, hF7, hJ7, hR7⟩ := feed_fin (k' := ⟨(n + 1) % 16384, true, d.data.toList⟩) h ha hN (fun g e => by cases e) hL (by show (((n + 1) % 16384 : Nat) : Int) = _; rw [HX.out.1]) rfl (Nat.mod_lt _ (by decide)) (by show d.data.toList.length ≤ _; rw [size_list]; omega) (fun e => by cases e) (hrB) (fun g hg => .inr (Nat.le_trans hg9a (Nat.le_of_eq (Option.some.inj hg))))
    unfold endW at hJ7 hR7
    rw [hF] at hJ7 hR7 hF7
    have i0 : W7.cell? ⟨q6, 0, none⟩ = some (.bool false) := cell_of hq7
    have i1 : W7.cell? ⟨q6, 1, none⟩ = some (.string ⟨#[]⟩) := cell_of hq7
    have i2 : W7.cell? ⟨q6, 2, none⟩ = some (.int .i64 ((mi : Nat) : Int)) := cell_of hq7
    have i3 : W7.cell? ⟨q6, 3, none⟩ = some (.bool false) := cell_of hq7
    have j0 : W7.cell? ⟨F + 1, 0, none⟩ = some (.bool false) := cell_of hF7
    have j1 : W7.cell? ⟨F + 1, 1, none⟩ = some (.string ⟨#[]⟩) := cell_of hF7
    have j2 : W7.cell? ⟨F + 1, 2, none⟩ = some (.int .i64 0) := cell_of hF7
    have j3 : W7.cell? ⟨F + 1, 3, none⟩ = some (.bool false) := cell_of hF7
    have jz := fz_of hF7
    have s0 : W6.cell? ⟨b, 0, none⟩ = some (.map (some mb)) := cell_of (h.later a (fun g e => by cases e) hL.g).cell
    have h8 := set_at (o := 3) (v := .bool false) (set_at (o := 2) (v := .int .i64 ((mi : Nat) : Int)) (set_at (o := 1) (v := .string ⟨#[]⟩) (set_at (o := 0) (v := .bool false) hF7)))
    obtain ⟨W8, hW8⟩ : ∃ W, (((W7.setCell ⟨F + 1, 0, none⟩ (.bool false)).setCell ⟨F + 1, 1, none⟩ (.string ⟨#[]⟩)).setCell ⟨F + 1, 2, none⟩ (.int .i64 ((mi : Nat) : Int))).setCell ⟨F + 1, 3, none⟩ (.bool false) = W := ⟨_, rfl⟩
    rw [hW8] at hJ7 hR7 h8
    have m0 : W8.cell? ⟨F + 1, 0, none⟩ = some (.bool false) := cell_of h8
    have m1 : W8.cell? ⟨F + 1, 1, none⟩ = some (.string ⟨#[]⟩) := cell_of h8
    have m2 : W8.cell? ⟨F + 1, 2, none⟩ = some (.int .i64 ((mi : Nat) : Int)) := cell_of h8
    have m3 : W8.cell? ⟨F + 1, 3, none⟩ = some (.bool false) := cell_of h8
    clear hL h8 hq7 hF7
    go_region
    go_wp2
    refine bodyPost_ret (v := .tuple #[.agg #[.bool false, .string ⟨#[]⟩, .int .i64 ((mi : Nat) : Int), .bool false], .int .i64 0]) ?_ rfl ⟨by first | rfl | rw [hM], hJ7, hR7⟩
    simp [results, Try.results16, go_sem, m0, m1, m2, m3]
  · skip
    refine w_gen (fun w' => (Lo w q6 none c a f n d false ⟨#[]⟩ ((mi : Nat) : Int) false ((nx : Nat) : Int) true (.slice (some ⟨g9, 0, none⟩) d.size cp2)) w' ∧ BRow w' (.slice (some ⟨g9, 0, none⟩) d.size cp2) d.data.toList) ⟨?_, ?_⟩ ?_
    · have hlo := hL2.lt
      refine ⟨?_, hL2.lt, ?_, ?_, ?_, ?_⟩
      · repeat (first | with_reducible refine gr_drew ?_ | with_reducible refine gr_set (by omega) ?_)
        exact hL2.g
      · refine At.out ?_
        repeat (first | with_reducible refine At.drew ?_ | with_reducible refine At.same ?_ | with_reducible refine At.ne (by omega) ?_)
        exact At.base hL2.e3 rfl
      · refine At.out ?_
        repeat (first | with_reducible refine At.drew ?_ | with_reducible refine At.same ?_ | with_reducible refine At.ne (by omega) ?_)
        exact At.base hL2.e4 rfl
      · refine At.out ?_
        repeat (first | with_reducible refine At.drew ?_ | with_reducible refine At.same ?_ | with_reducible refine At.ne (by omega) ?_)
        exact At.base hL2.e6 rfl
      · refine At.out ?_
        repeat (first | with_reducible refine At.drew ?_ | with_reducible refine At.same ?_ | with_reducible refine At.ne (by omega) ?_)
        exact At.base hL2.e7 rfl
    · exact hr2.aside (o := 2) hL2.e7 (by decide)
    clear hL2 u1 u2 u3 u4 v0 v1 v2 v3 x0 x1 x2 x3 y0 y1 y2 f4 f6 f7 a1 a2 a3 a4 b0 b1 b2 b3 d0 d1 d2 d3 e0 e1 e2 g4 g6 g7 A1 A2 A3 A4 B0 B1 B2 B3 D0 D1 D2 D3 E0 E1 E2 G4 G6 G7 hc1 hc2 hL hL1 hr1 hr2
    rintro W6 ⟨hL, hrB⟩
    obtain ⟨u1, u2, u3, u4, v0, v1, v2, v3, x0, x1, x2, x3, y0, y1, y2⟩ := hL.cells
    obtain ⟨f4, f6, f7⟩ := hL.fz
    rw [hF] at u1 u2 u3 u4 v0 v1 v2 v3 f4
    go_wp2
    obtain ⟨W7, hrun, hq7, hF7, hJ7, hR7⟩ := feed_fin (k' := ⟨(n + 1) % 16384, true, d.data.toList⟩) h ha hN (fun g e => by cases e) hL (by show (((n + 1) % 16384 : Nat) : Int) = _; rw [HX.out.1]) rfl (Nat.mod_lt _ (by decide)) (by show d.data.toList.length ≤ _; rw [size_list]; omega) (fun e => by cases e) (hrB) (fun g hg => .inr (Nat.le_trans hg9a (Nat.le_of_eq (Option.some.inj hg))))
    unfold endW at hJ7 hR7
    rw [hF] at hJ7 hR7 hF7
    have i0 : W7.cell? ⟨q6, 0, none⟩ = some (.bool false) := cell_of hq7
    have i1 : W7.cell? ⟨q6, 1, none⟩ = some (.string ⟨#[]⟩) := cell_of hq7
    have i2 : W7.cell? ⟨q6, 2, none⟩ = some (.int .i64 ((mi : Nat) : Int)) := cell_of hq7
    have i3 : W7.cell? ⟨q6, 3, none⟩ = some (.bool false) := cell_of hq7
    have j0 : W7.cell? ⟨F + 1, 0, none⟩ = some (.bool false) := cell_of hF7
    have j1 : W7.cell? ⟨F + 1, 1, none⟩ = some (.string ⟨#[]⟩) := cell_of hF7
    have j2 : W7.cell? ⟨F + 1, 2, none⟩ = some (.int .i64 0) := cell_of hF7
    have j3 : W7.cell? ⟨F + 1, 3, none⟩ = some (.bool false) := cell_of hF7
    have jz := fz_of hF7
    have s0 : W6.cell? ⟨b, 0, none⟩ = some (.map (some mb)) := cell_of (h.later a (fun g e => by cases e) hL.g).cell
    have h8 := set_at (o := 3) (v := .bool false) (set_at (o := 2) (v := .int .i64 ((mi : Nat) : Int)) (set_at (o := 1) (v := .string ⟨#[]⟩) (set_at (o := 0) (v := .bool false) hF7)))
    obtain ⟨W8, hW8⟩ : ∃ W, (((W7.setCell ⟨F + 1, 0, none⟩ (.bool false)).setCell ⟨F + 1, 1, none⟩ (.string ⟨#[]⟩)).setCell ⟨F + 1, 2, none⟩ (.int .i64 ((mi : Nat) : Int))).setCell ⟨F + 1, 3, none⟩ (.bool false) = W := ⟨_, rfl⟩
    rw [hW8] at hJ7 hR7 h8
    have m0 : W8.cell? ⟨F + 1, 0, none⟩ = some (.bool false) := cell_of h8
    have m1 : W8.cell? ⟨F + 1, 1, none⟩ = some (.string ⟨#[]⟩) := cell_of h8
    have m2 : W8.cell? ⟨F + 1, 2, none⟩ = some (.int .i64 ((mi : Nat) : Int)) := cell_of h8
    have m3 : W8.cell? ⟨F + 1, 3, none⟩ = some (.bool false) := cell_of h8
    clear hL h8 hq7 hF7
    go_region
    go_wp2
    refine bodyPost_ret (v := .tuple #[.agg #[.bool false, .string ⟨#[]⟩, .int .i64 ((mi : Nat) : Int), .bool false], .int .i64 0]) ?_ rfl ⟨by first | rfl | rw [hM], hJ7, hR7⟩
    simp [results, Try.results16, go_sem, m0, m1, m2, m3]
set_option maxHeartbeats 6400000 in
theorem feed_4a_1 (h : JC S b mb N 2047 J tvs D w) (hN : N < maxLen) (c : Bool) {a f n : Nat} {d : ByteArray} (hv : Pkt.validB a f n d = true) (ha : a < 2047) {k : Kn} (hJ : J a = some k) (hop : k.opn = true) {mi : Nat} (hmi : mi = missK (some k) n) (hm0 : mi ≠ 0) (hf : f = 1) :
    Calls Try.prog 16 #[.pointer (some ⟨b, 0, none⟩), .agg #[.bool c, .int .i64 ((a : Nat) : Int), .int .i64 ((f : Nat) : Int), .int .i64 ((n : Nat) : Int), .string d]] w fun e w' => e = .returned (.tuple #[.agg #[.bool false, .string ⟨#[]⟩, .int .i64 ((mi : Nat) : Int), .bool true], .int .i64 0]) ∧ JAt S b (N + 1) (J.set a ⟨(n + 1) % 16384, true, d.data.toList⟩) w' ∧ FrS S w w' := by
  have hvb := Pkt.validB_iff.1 hv
  have hnb : n ≤ 16383 := by omega
  have hdb : d.size ≤ 1024 := by omega
  have hap := h.ap a k hJ
  have hrow := h.row a k hJ (by omega)
  obtain ⟨nx0, op0, tx⟩ := k
  have hop : op0 = true := hop
  subst hop
  have hxb : nx0 < 16384 := hap.2.1
  have hmb : bits .and .i64 (((n : Nat) : Int) - ((nx0 : Nat) : Int)) 16383 = ((mi : Nat) : Int) := by
    rw [and14, hmi]
    show _ = (((n + (16384 - nx0)) % 16384 : Nat) : Int)
    omega
  have htl : tx.length ≤ 16384 := hap.2.2.1
  obtain ⟨to, tc, htv⟩ := hrow.slice
  have htv : tvs a = .slice to tx.length tc := htv
  have hm1 : (((mi : Nat) : Int) != 0) = true := by simp; omega
  have hmil : mi ≤ 16383 := by rw [hmi]; show (n + (16384 - nx0)) % 16384 ≤ 16383; omega
  have hf3 : (((f : Nat) : Int) == 3) = false := by rw [hf]; rfl
  have hf1 : (((f : Nat) : Int) == 1) = true := by rw [hf]; rfl
  have hf2 : (((f : Nat) : Int) == 2) = false := by rw [hf]; rfl
  have hf0 : (((f : Nat) : Int) == 0) = false := by rw [hf]; rfl
  have hfb : bits .and .i64 ((f : Nat) : Int) 1 = 1 := by rw [and1, hf]; rfl
  obtain ⟨nx, hnx⟩ : ∃ k, (n + 1) % 16384 = k := ⟨_, rfl⟩
  have hnxl : nx < 16384 := by omega
  have hnb2 : bits .and .i64 (((n : Nat) : Int) + 1) 16383 = ((nx : Nat) : Int) := by rw [and14, ← hnx]; omega
  have hb0 := (Below.refl w.heap.size w).alloc (Nat.le_refl _) (pkO c a f n d)
  have hb1 := hb0.alloc (by rw [alloc_size]; omega) (pcO false ⟨#[]⟩ 0 false)
  obtain ⟨W1, hW1⟩ : ∃ W, (w.alloc (pkO c a f n d)).alloc (pcO false ⟨#[]⟩ 0 false) = W := ⟨_, rfl⟩
  have c3 : W1.heap[w.heap.size]? = some (pkO c a f n d) := by rw [← hW1]; exact ((World.grownBy_alloc _ _ none).block _ (by rw [alloc_size]; omega) (by simp)).trans (heap_alloc_new w _)
  have c4 : W1.heap[w.heap.size + 1]? = some (pcO false ⟨#[]⟩ 0 false) := by
    rw [← hW1, ← alloc_size w (pkO c a f n d)]; exact heap_alloc_new _ _
  have sz1 : W1.heap.size = w.heap.size + 2 := by rw [← hW1, alloc_size, alloc_size]
  rw [hW1] at hb1
  have h1 := h.below hb1
  have cN := none_calls b mb W1 (cell_of h1.cell)
  have cV := valid_calls c ((a : Nat) : Int) ((f : Nat) : Int) ((n : Nat) : Int) d W1
  rw [hv] at cV
  have hne : (((a : Nat) : Int) == 2047) = false := by simp; omega
  obtain ⟨F, hF⟩ : ∃ F, w.heap.size = F := ⟨_, rfl⟩
  have p0 : W1.cell? ⟨F, 0, none⟩ = some (.bool c) := by rw [← hF]; exact cell_of c3
  have p1 : W1.cell? ⟨F, 1, none⟩ = some (.int .i64 ((a : Nat) : Int)) := by rw [← hF]; exact cell_of c3
  have p2 : W1.cell? ⟨F, 2, none⟩ = some (.int .i64 ((f : Nat) : Int)) := by rw [← hF]; exact cell_of c3
  have p3 : W1.cell? ⟨F, 3, none⟩ = some (.int .i64 ((n : Nat) : Int)) := by rw [← hF]; exact cell_of c3
  have p4 : W1.cell? ⟨F, 4, none⟩ = some (.string d) := by rw [← hF]; exact cell_of c3
  have HX := Lib.hid (And.intro hnx (And.intro hf hv))
  have HM := Lib.hid (And.intro hmi hap)
  clear hv hf hnx hb0 hvb hmi hm0 hap
  go_enter Try.func16, Try.ntmps16
  go_wp2_with (go_at_call 34; refine cN.mono ?_; rintro e W2 ⟨rfl, rfl⟩)
  go_wp2_with (go_at_call 13; refine cV.mono ?_; rintro e W2 ⟨rfl, b2⟩; have h2 := h1.below b2; have d3 := (b2.block w.heap.size (by omega)).trans c3; have d4 := (b2.block (w.heap.size + 1) (by omega)).trans c4; have g2 := hb1.trans (b2.mono hb1.size); have z2 : W1.heap.size ≤ W2.heap.size := b2.size; have r1 : W2.cell? ⟨F, 1, none⟩ = some (.int .i64 ((a : Nat) : Int)) := (by rw [← hF]; exact cell_of d3))
  obtain ⟨q6, hq6⟩ : ∃ q, W2.heap.size = q := ⟨_, rfl⟩
  have b3 := (Below.refl W2.heap.size W2).alloc (Nat.le_refl _) (pcO false ⟨#[]⟩ 0 false)
  obtain ⟨W3, hW3⟩ : ∃ W, W2.alloc (pcO false ⟨#[]⟩ 0 false) = W := ⟨_, rfl⟩
  have c6 : W3.heap[q6]? = some (pcO false ⟨#[]⟩ 0 false) := by rw [← hW3, ← hq6]; exact heap_alloc_new _ _
  have sz3 : W3.heap.size = q6 + 1 := by rw [← hW3, alloc_size, hq6]
  rw [hW3] at b3 ⊢
  rw [hq6]
  have g3 := g2.trans (b3.mono (by omega))
  have h3 := h2.below b3
  have e3 := (b3.block w.heap.size (by omega)).trans d3
  have e4 := (b3.block (w.heap.size + 1) (by omega)).trans d4
  have b4 := (Below.refl W3.heap.size W3).alloc (Nat.le_refl _) (knO 0 false (.slice none 0 0))
  obtain ⟨W4, hW4⟩ : ∃ W, W3.alloc (knO 0 false (.slice none 0 0)) = W := ⟨_, rfl⟩
  have c7 : W4.heap[q6 + 1]? = some (knO 0 false (.slice none 0 0)) := by rw [← hW4, ← sz3]; exact heap_alloc_new _ _
  have hW4' : W3.drew.alloc (knO 0 false (.slice none 0 0)) = W4.drew := by rw [← hW4]; rfl
  rw [hW4] at b4
  have h4 := h3.below b4
  have g4 := g3.trans (b4.mono (by omega))
  have k3 := (b4.block w.heap.size (by omega)).trans e3
  have k4 := (b4.block (w.heap.size + 1) (by omega)).trans e4
  have k6 := (b4.block q6 (by omega)).trans c6
  have lk1 := (h4.below (Below.refl _ W4).drew).look_yes hJ
  have lk2 := (h3.below (Below.refl _ W3).drew).look_yes hJ
  unfold kV at lk1 lk2
  rw [htv] at lk1 lk2
  have s0 : W4.cell? ⟨b, 0, none⟩ = some (.map (some mb)) := cell_of h4.cell
  have s1 : W4.cell? ⟨F, 1, none⟩ = some (.int .i64 ((a : Nat) : Int)) := by rw [← hF]; exact cell_of k3
  have s2 : W4.cell? ⟨q6 + 1, 0, none⟩ = some (.int .i64 0) := cell_of c7
  have s3 : W4.cell? ⟨q6 + 1, 1, none⟩ = some (.bool false) := cell_of c7
  have s4 : W4.cell? ⟨q6 + 1, 2, none⟩ = some (.slice none 0 0) := cell_of c7
  have s5 := fz_of c7 0
  have s6 := fz_of c7 1
  have s7 := fz_of c7 2
  have t0 : W3.cell? ⟨b, 0, none⟩ = some (.map (some mb)) := cell_of h3.cell
  have t1 : W3.cell? ⟨F, 1, none⟩ = some (.int .i64 ((a : Nat) : Int)) := by rw [← hF]; exact cell_of e3
  have hL : Lo w q6 none c a f n d false ⟨#[]⟩ 0 false 0 false (.slice none 0 0) W4 := ⟨grown_none g4, by omega, k3, k4, k6, c7⟩
  have hq : F + 1 < q6 := by omega
  clear hW3 hq6 c6 e3 h2 d3 d4 r1 b2 p0 p1 p2 p3 p4 cV cN c3 c4 h1 hW1 b3 b4 g2 g3 g4 e4 k3 k4 k6 c7 h3 h4 hb1 sz1 z2
  go_region
  refine w_gen (Lo w q6 none c a f n d false ⟨#[]⟩ 0 false ((nx0 : Nat) : Int) true (.slice to tx.length tc)) ?_ ?_
  · have hlo := hL.lt
    refine ⟨?_, hL.lt, ?_, ?_, ?_, ?_⟩
    · repeat (first | with_reducible refine gr_drew ?_ | with_reducible refine gr_set (by omega) ?_)
      exact hL.g
    · refine At.out ?_
      repeat (first | with_reducible refine At.drew ?_ | with_reducible refine At.same ?_ | with_reducible refine At.ne (by omega) ?_)
      exact At.base hL.e3 rfl
    · refine At.out ?_
      repeat (first | with_reducible refine At.drew ?_ | with_reducible refine At.same ?_ | with_reducible refine At.ne (by omega) ?_)
      exact At.base hL.e4 rfl
    · refine At.out ?_
      repeat (first | with_reducible refine At.drew ?_ | with_reducible refine At.same ?_ | with_reducible refine At.ne (by omega) ?_)
      exact At.base hL.e6 rfl
    · refine At.out ?_
      repeat (first | with_reducible refine At.drew ?_ | with_reducible refine At.same ?_ | with_reducible refine At.ne (by omega) ?_)
      exact At.base hL.e7 rfl
  clear hL s0 s1 s2 s3 s4 s5 s6 s7 t0 t1 lk1 lk2 hW4 hW4' sz3
  intro W5 hL
  obtain ⟨u1, u2, u3, u4, v0, v1, v2, v3, x0, x1, x2, x3, y0, y1, y2⟩ := hL.cells
  obtain ⟨f4, f6, f7⟩ := hL.fz
  rw [hF] at u1 u2 u3 u4 v0 v1 v2 v3 f4
  go_wp2
  refine w_gen (Lo w q6 none c a f n d false ⟨#[]⟩ ((mi : Nat) : Int) true ((nx : Nat) : Int) false (.slice to tx.length tc)) ?_ ?_
  · have hlo := hL.lt
    refine ⟨?_, hL.lt, ?_, ?_, ?_, ?_⟩
    · repeat (first | with_reducible refine gr_drew ?_ | with_reducible refine gr_set (by omega) ?_)
      exact hL.g
    · refine At.out ?_
      repeat (first | with_reducible refine At.drew ?_ | with_reducible refine At.same ?_ | with_reducible refine At.ne (by omega) ?_)
      exact At.base hL.e3 rfl
    · refine At.out ?_
      repeat (first | with_reducible refine At.drew ?_ | with_reducible refine At.same ?_ | with_reducible refine At.ne (by omega) ?_)
      exact At.base hL.e4 rfl
    · refine At.out ?_
      repeat (first | with_reducible refine At.drew ?_ | with_reducible refine At.same ?_ | with_reducible refine At.ne (by omega) ?_)
      exact At.base hL.e6 rfl
    · refine At.out ?_
      repeat (first | with_reducible refine At.drew ?_ | with_reducible refine At.same ?_ | with_reducible refine At.ne (by omega) ?_)
      exact At.base hL.e7 rfl
  clear hL u1 u2 u3 u4 v0 v1 v2 v3 x0 x1 x2 x3 y0 y1 y2 f4 f6 f7
  intro W5 hL
  obtain ⟨g9, hg9⟩ : ∃ g, W5.heap.size = g := ⟨_, rfl⟩
  have hg9' : w.heap.size ≤ g9 := by rw [← hg9]; exact hL.g.size
  have hg9a : w.heap.size ≤ g9 := hg9'
  have hXs : (W5.setCell ⟨q6 + 1, 1, none⟩ (.bool true)).heap.size = g9 := by rw [← hg9]; exact ((OnlyB.refl (q6 + 1) W5).setCell 1 (.bool true)).size
  obtain ⟨cp1, Y1, hc1, hr1, bb1, _⟩ := brow_new W5.drew d (by omega)
  obtain ⟨cp2, Y2, hc2, hr2, bb2, _⟩ := brow_new (W5.setCell ⟨q6 + 1, 1, none⟩ (.bool true)).drew d (by omega)
  have hc1 : (convert 9 66 (.string d)).run Try.prog W5.drew = .ok (.slice (some ⟨g9, 0, none⟩) d.size cp1) Y1 := by rw [← hg9]; exact hc1
  have hr1 : BRow Y1 (.slice (some ⟨g9, 0, none⟩) d.size cp1) d.data.toList := by rw [← hg9]; exact hr1
  have hc2 : (convert 9 66 (.string d)).run Try.prog (W5.setCell ⟨q6 + 1, 1, none⟩ (.bool true)).drew = .ok (.slice (some ⟨g9, 0, none⟩) d.size cp2) Y2 := by rw [← hXs]; exact hc2
  have hr2 : BRow Y2 (.slice (some ⟨g9, 0, none⟩) d.size cp2) d.data.toList := by rw [← hXs]; exact hr2
  have hL1 := hL.drew.below bb1
  have hL2 : (Lo w q6 none c a f n d false ⟨#[]⟩ ((mi : Nat) : Int) true ((nx : Nat) : Int) true (.slice to tx.length tc)) (W5.setCell ⟨q6 + 1, 1, none⟩ (.bool true)).drew := by
    refine w_gen (Lo w q6 none c a f n d false ⟨#[]⟩ ((mi : Nat) : Int) true ((nx : Nat) : Int) true (.slice to tx.length tc)) ?_ fun _ h => h
    · have hlo := hL.lt
      refine ⟨?_, hL.lt, ?_, ?_, ?_, ?_⟩
      · repeat (first | with_reducible refine gr_drew ?_ | with_reducible refine gr_set (by omega) ?_)
        exact hL.g
      · refine At.out ?_
        repeat (first | with_reducible refine At.drew ?_ | with_reducible refine At.same ?_ | with_reducible refine At.ne (by omega) ?_)
        exact At.base hL.e3 rfl
      · refine At.out ?_
        repeat (first | with_reducible refine At.drew ?_ | with_reducible refine At.same ?_ | with_reducible refine At.ne (by omega) ?_)
        exact At.base hL.e4 rfl
      · refine At.out ?_
        repeat (first | with_reducible refine At.drew ?_ | with_reducible refine At.same ?_ | with_reducible refine At.ne (by omega) ?_)
        exact At.base hL.e6 rfl
      · refine At.out ?_
        repeat (first | with_reducible refine At.drew ?_ | with_reducible refine At.same ?_ | with_reducible refine At.ne (by omega) ?_)
        exact At.base hL.e7 rfl
  replace hL2 := hL2.below bb2
  obtain ⟨u1, u2, u3, u4, v0, v1, v2, v3, x0, x1, x2, x3, y0, y1, y2⟩ := hL.cells
  obtain ⟨f4, f6, f7⟩ := hL.fz
  rw [hF] at u1 u2 u3 u4 v0 v1 v2 v3 f4
  obtain ⟨a1, a2, a3, a4, b0, b1, b2, b3, d0, d1, d2, d3, e0, e1, e2⟩ := hL1.cells
  obtain ⟨g4, g6, g7⟩ := hL1.fz
  rw [hF] at a1 a2 a3 a4 b0 b1 b2 b3 g4
  obtain ⟨A1, A2, A3, A4, B0, B1, B2, B3, D0, D1, D2, D3, E0, E1, E2⟩ := hL2.cells
  obtain ⟨G4, G6, G7⟩ := hL2.fz
  rw [hF] at A1 A2 A3 A4 B0 B1 B2 B3 G4
  go_region
  · skip
    refine w_gen (fun w' => (Lo w q6 none c a f n d false ⟨#[]⟩ ((mi : Nat) : Int) true ((nx : Nat) : Int) true (.slice (some ⟨g9, 0, none⟩) d.size cp1)) w' ∧ BRow w' (.slice (some ⟨g9, 0, none⟩) d.size cp1) d.data.toList) ⟨?_, ?_⟩ ?_
    · have hlo := hL1.lt
      refine ⟨?_, hL1.lt, ?_, ?_, ?_, ?_⟩
      · repeat (first | with_reducible refine gr_drew ?_ | with_reducible refine gr_set (by omega) ?_)
        exact hL1.g
      · refine At.out ?_
        repeat (first | with_reducible refine At.drew ?_ | with_reducible refine At.same ?_ | with_reducible refine At.ne (by omega) ?_)
        exact At.base hL1.e3 rfl
      · refine At.out ?_
        repeat (first | with_reducible refine At.drew ?_ | with_reducible refine At.same ?_ | with_reducible refine At.ne (by omega) ?_)
        exact At.base hL1.e4 rfl
      · refine At.out ?_
        repeat (first | with_reducible refine At.drew ?_ | with_reducible refine At.same ?_ | with_reducible refine At.ne (by omega) ?_)
        exact At.base hL1.e6 rfl
      · refine At.out ?_
        repeat (first | with_reducible refine At.drew ?_ | with_reducible refine At.same ?_ | with_reducible refine At.ne (by omega) ?_)
        exact At.base hL1.e7 rfl
    · exact (hr1.aside (o := 1) hL1.e7 (by decide)).aside (o := 2) (set_at hL1.e7) (by decide)
    clear hL1 u1 u2 u3 u4 v0 v1 v2 v3 x0 x1 x2 x3 y0 y1 y2 f4 f6 f7 a1 a2 a3 a4 b0 b1 b2 b3 d0 d1 d2 d3 e0 e1 e2 g4 g6 g7 A1 A2 A3 A4 B0 B1 B2 B3 D0 D1 D2 D3 E0 E1 E2 G4 G6 G7 hc1 hc2 hL hL2 hr1 hr2
    rintro W6 ⟨hL, hrB⟩
    obtain ⟨u1, u2, u3, u4, v0, v1, v2, v3, x0, x1, x2, x3, y0, y1, y2⟩ := hL.cells
    obtain ⟨f4, f6, f7⟩ := hL.fz
    rw [hF] at u1 u2 u3 u4 v0 v1 v2 v3 f4
    go_wp2
    obtain ⟨W7, hrun, hq7, hF7, hJ7, hR7⟩ := feed_fin (k' := ⟨(n + 1) % 16384, true, d.data.toList⟩) h ha hN (fun g e => by cases e) hL (by show (((n + 1) % 16384 : Nat) : Int) = _; rw [HX.out.1]) rfl (Nat.mod_lt _ (by decide)) (by show d.data.toList.length ≤ _; rw [size_list]; omega) (fun e => by cases e) (hrB) (fun g hg => .inr (Nat.le_trans hg9a (Nat.le_of_eq (Option.some.inj hg))))
    unfold endW at hJ7 hR7
    rw [hF] at hJ7 hR7 hF7
    have i0 : W7.cell? ⟨q6, 0, none⟩ = some (.bool false) := cell_of hq7
    have i1 : W7.cell? ⟨q6, 1, none⟩ = some (.string ⟨#[]⟩) := cell_of hq7
    have i2 : W7.cell? ⟨q6, 2, none⟩ = some (.int .i64 ((mi : Nat) : Int)) := cell_of hq7
    have i3 : W7.cell? ⟨q6, 3, none⟩ = some (.bool true) := cell_of hq7
    have j0 : W7.cell? ⟨F + 1, 0, none⟩ = some (.bool false) := cell_of hF7
    have j1 : W7.cell? ⟨F + 1, 1, none⟩ = some (.string ⟨#[]⟩) := cell_of hF7
    have j2 : W7.cell? ⟨F + 1, 2, none⟩ = some (.int .i64 0) := cell_of hF7
    have j3 : W7.cell? ⟨F + 1, 3, none⟩ = some (.bool false) := cell_of hF7
    have jz := fz_of hF7
    have s0 : W6.cell? ⟨b, 0, none⟩ = some (.map (some mb)) := cell_of (h.later a (fun g e => by cases e) hL.g).cell
    have h8 := set_at (o := 3) (v := .bool true) (set_at (o := 2) (v := .int .i64 ((mi : Nat) : Int)) (set_at (o := 1) (v := .string ⟨#[]⟩) (set_at (o := 0) (v := .bool false) hF7)))
    obtain ⟨W8, hW8⟩ : ∃ W, (((W7.setCell ⟨F + 1, 0, none⟩ (.bool false)).setCell ⟨F + 1, 1, none⟩ (.string ⟨#[]⟩)).setCell ⟨F + 1, 2, none⟩ (.int .i64 ((mi : Nat) : Int))).setCell ⟨F + 1, 3, none⟩ (.bool true) = W := ⟨_, rfl⟩
    rw [hW8] at hJ7 hR7 h8
    have m0 : W8.cell? ⟨F + 1, 0, none⟩ = some (.bool false) := cell_of h8
    have m1 : W8.cell? ⟨F + 1, 1, none⟩ = some (.string ⟨#[]⟩) := cell_of h8
    have m2 : W8.cell? ⟨F + 1, 2, none⟩ = some (.int .i64 ((mi : Nat) : Int)) := cell_of h8
    have m3 : W8.cell? ⟨F + 1, 3, none⟩ = some (.bool true) := cell_of h8
    clear hL h8 hq7 hF7
    go_region
    go_wp2
    refine bodyPost_ret (v := .tuple #[.agg #[.bool false, .string ⟨#[]⟩, .int .i64 ((mi : Nat) : Int), .bool true], .int .i64 0]) ?_ rfl ⟨by first | rfl | rw [hM], hJ7, hR7⟩
    simp [results, Try.results16, go_sem, m0, m1, m2, m3]
  · skip
    refine w_gen (fun w' => (Lo w q6 none c a f n d false ⟨#[]⟩ ((mi : Nat) : Int) true ((nx : Nat) : Int) true (.slice (some ⟨g9, 0, none⟩) d.size cp2)) w' ∧ BRow w' (.slice (some ⟨g9, 0, none⟩) d.size cp2) d.data.toList) ⟨?_, ?_⟩ ?_
    · have hlo := hL2.lt
      refine ⟨?_, hL2.lt, ?_, ?_, ?_, ?_⟩
      · repeat (first | with_reducible refine gr_drew ?_ | with_reducible refine gr_set (by omega) ?_)
        exact hL2.g
      · refine At.out ?_
        repeat (first | with_reducible refine At.drew ?_ | with_reducible refine At.same ?_ | with_reducible refine At.ne (by omega) ?_)
        exact At.base hL2.e3 rfl
      · refine At.out ?_
        repeat (first | with_reducible refine At.drew ?_ | with_reducible refine At.same ?_ | with_reducible refine At.ne (by omega) ?_)
        exact At.base hL2.e4 rfl
      · refine At.out ?_
        repeat (first | with_reducible refine At.drew ?_ | with_reducible refine At.same ?_ | with_reducible refine At.ne (by omega) ?_)
        exact At.base hL2.e6 rfl
      · refine At.out ?_
        repeat (first | with_reducible refine At.drew ?_ | with_reducible refine At.same ?_ | with_reducible refine At.ne (by omega) ?_)
        exact At.base hL2.e7 rfl
    · exact hr2.aside (o := 2) hL2.e7 (by decide)
    clear hL2 u1 u2 u3 u4 v0 v1 v2 v3 x0 x1 x2 x3 y0 y1 y2 f4 f6 f7 a1 a2 a3 a4 b0 b1 b2 b3 d0 d1 d2 d3 e0 e1 e2 g4 g6 g7 A1 A2 A3 A4 B0 B1 B2 B3 D0 D1 D2 D3 E0 E1 E2 G4 G6 G7 hc1 hc2 hL hL1 hr1 hr2
    rintro W6 ⟨hL, hrB⟩
    obtain ⟨u1, u2, u3, u4, v0, v1, v2, v3, x0, x1, x2, x3, y0, y1, y2⟩ := hL.cells
    obtain ⟨f4, f6, f7⟩ := hL.fz
    rw [hF] at u1 u2 u3 u4 v0 v1 v2 v3 f4
    go_wp2
    obtain ⟨W7, hrun, hq7, hF7, hJ7, hR7⟩ := feed_fin (k' := ⟨(n + 1) % 16384, true, d.data.toList⟩) h ha hN (fun g e => by cases e) hL (by show (((n + 1) % 16384 : Nat) : Int) = _; rw [HX.out.1]) rfl (Nat.mod_lt _ (by decide)) (by show d.data.toList.length ≤ _; rw [size_list]; omega) (fun e => by cases e) (hrB) (fun g hg => .inr (Nat.le_trans hg9a (Nat.le_of_eq (Option.some.inj hg))))
    unfold endW at hJ7 hR7
    rw [hF] at hJ7 hR7 hF7
    have i0 : W7.cell? ⟨q6, 0, none⟩ = some (.bool false) := cell_of hq7
    have i1 : W7.cell? ⟨q6, 1, none⟩ = some (.string ⟨#[]⟩) := cell_of hq7
    have i2 : W7.cell? ⟨q6, 2, none⟩ = some (.int .i64 ((mi : Nat) : Int)) := cell_of hq7
    have i3 : W7.cell? ⟨q6, 3, none⟩ = some (.bool true) := cell_of hq7
    have j0 : W7.cell? ⟨F + 1, 0, none⟩ = some (.bool false) := cell_of hF7
    have j1 : W7.cell? ⟨F + 1, 1, none⟩ = some (.string ⟨#[]⟩) := cell_of hF7
    have j2 : W7.cell? ⟨F + 1, 2, none⟩ = some (.int .i64 0) := cell_of hF7
    have j3 : W7.cell? ⟨F + 1, 3, none⟩ = some (.bool false) := cell_of hF7
    have jz := fz_of hF7
    have s0 : W6.cell? ⟨b, 0, none⟩ = some (.map (some mb)) := cell_of (h.later a (fun g e => by cases e) hL.g).cell
    have h8 := set_at (o := 3) (v := .bool true) (set_at (o := 2) (v := .int .i64 ((mi : Nat) : Int)) (set_at (o := 1) (v := .string ⟨#[]⟩) (set_at (o := 0) (v := .bool false) hF7)))
    obtain ⟨W8, hW8⟩ : ∃ W, (((W7.setCell ⟨F + 1, 0, none⟩ (.bool false)).setCell ⟨F + 1, 1, none⟩ (.string ⟨#[]⟩)).setCell ⟨F + 1, 2, none⟩ (.int .i64 ((mi : Nat) : Int))).setCell ⟨F + 1, 3, none⟩ (.bool true) = W := ⟨_, rfl⟩
    rw [hW8] at hJ7 hR7 h8
    have m0 : W8.cell? ⟨F + 1, 0, none⟩ = some (.bool false) := cell_of h8
    have m1 : W8.cell? ⟨F + 1, 1, none⟩ = some (.string ⟨#[]⟩) := cell_of h8
    have m2 : W8.cell? ⟨F + 1, 2, none⟩ = some (.int .i64 ((mi : Nat) : Int)) := cell_of h8
    have m3 : W8.cell? ⟨F + 1, 3, none⟩ = some (.bool true) := cell_of h8
    clear hL h8 hq7 hF7
    go_region
    go_wp2
    refine bodyPost_ret (v := .tuple #[.agg #[.bool false, .string ⟨#[]⟩, .int .i64 ((mi : Nat) : Int), .bool true], .int .i64 0]) ?_ rfl ⟨by first | rfl | rw [hM], hJ7, hR7⟩
    simp [results, Try.results16, go_sem, m0, m1, m2, m3]
set_option maxHeartbeats 6400000 in
theorem feed_4b_1 (h : JC S b mb N 2047 J tvs D w) (hN : N < maxLen) (c : Bool) {a f n : Nat} {d : ByteArray} (hv : Pkt.validB a f n d = true) (ha : a < 2047) {k : Kn} (hJ : J a = some k) (hop : k.opn = true) {mi : Nat} (hmi : mi = missK (some k) n) (hm0 : mi = 0) (hf : f = 1) :
    Calls Try.prog 16 #[.pointer (some ⟨b, 0, none⟩), .agg #[.bool c, .int .i64 ((a : Nat) : Int), .int .i64 ((f : Nat) : Int), .int .i64 ((n : Nat) : Int), .string d]] w fun e w' => e = .returned (.tuple #[.agg #[.bool false, .string ⟨#[]⟩, .int .i64 ((mi : Nat) : Int), .bool true], .int .i64 0]) ∧ JAt S b (N + 1) (J.set a ⟨(n + 1) % 16384, true, d.data.toList⟩) w' ∧ FrS S w w' := by
  have hvb := Pkt.validB_iff.1 hv
  have hnb : n ≤ 16383 := by omega
  have hdb : d.size ≤ 1024 := by omega
  have hap := h.ap a k hJ
  have hrow := h.row a k hJ (by omega)
  obtain ⟨nx0, op0, tx⟩ := k
  have hop : op0 = true := hop
  subst hop
  have hxb : nx0 < 16384 := hap.2.1
  have hmb : bits .and .i64 (((n : Nat) : Int) - ((nx0 : Nat) : Int)) 16383 = ((mi : Nat) : Int) := by
    rw [and14, hmi]
    show _ = (((n + (16384 - nx0)) % 16384 : Nat) : Int)
    omega
  have htl : tx.length ≤ 16384 := hap.2.2.1
  obtain ⟨to, tc, htv⟩ := hrow.slice
  have htv : tvs a = .slice to tx.length tc := htv
  have hm1 : (((mi : Nat) : Int) != 0) = false := by rw [hm0]; rfl
  have hmil : mi ≤ 16383 := by rw [hmi]; show (n + (16384 - nx0)) % 16384 ≤ 16383; omega
  have hf3 : (((f : Nat) : Int) == 3) = false := by rw [hf]; rfl
  have hf1 : (((f : Nat) : Int) == 1) = true := by rw [hf]; rfl
  have hf2 : (((f : Nat) : Int) == 2) = false := by rw [hf]; rfl
  have hf0 : (((f : Nat) : Int) == 0) = false := by rw [hf]; rfl
  have hfb : bits .and .i64 ((f : Nat) : Int) 1 = 1 := by rw [and1, hf]; rfl
  obtain ⟨nx, hnx⟩ : ∃ k, (n + 1) % 16384 = k := ⟨_, rfl⟩
  have hnxl : nx < 16384 := by omega
  have hnb2 : bits .and .i64 (((n : Nat) : Int) + 1) 16383 = ((nx : Nat) : Int) := by rw [and14, ← hnx]; omega
  have hb0 := (Below.refl w.heap.size w).alloc (Nat.le_refl _) (pkO c a f n d)
  have hb1 := hb0.alloc (by rw [alloc_size]; omega) (pcO false ⟨#[]⟩ 0 false)
  obtain ⟨W1, hW1⟩ : ∃ W, (w.alloc (pkO c a f n d)).alloc (pcO false ⟨#[]⟩ 0 false) = W := ⟨_, rfl⟩
  have c3 : W1.heap[w.heap.size]? = some (pkO c a f n d) := by rw [← hW1]; exact ((World.grownBy_alloc _ _ none).block _ (by rw [alloc_size]; omega) (by simp)).trans (heap_alloc_new w _)
  have c4 : W1.heap[w.heap.size + 1]? = some (pcO false ⟨#[]⟩ 0 false) := by
    rw [← hW1, ← alloc_size w (pkO c a f n d)]; exact heap_alloc_new _ _
  have sz1 : W1.heap.size = w.heap.size + 2 := by rw [← hW1, alloc_size, alloc_size]
  rw [hW1] at hb1
  have h1 := h.below hb1
  have cN := none_calls b mb W1 (cell_of h1.cell)
  have cV := valid_calls c ((a : Nat) : Int) ((f : Nat) : Int) ((n : Nat) : Int) d W1
  rw [hv] at cV
  have hne : (((a : Nat) : Int) == 2047) = false := by simp; omega
  obtain ⟨F, hF⟩ : ∃ F, w.heap.size = F := ⟨_, rfl⟩
  have p0 : W1.cell? ⟨F, 0, none⟩ = some (.bool c) := by rw [← hF]; exact cell_of c3
  have p1 : W1.cell? ⟨F, 1, none⟩ = some (.int .i64 ((a : Nat) : Int)) := by rw [← hF]; exact cell_of c3
  have p2 : W1.cell? ⟨F, 2, none⟩ = some (.int .i64 ((f : Nat) : Int)) := by rw [← hF]; exact cell_of c3
  have p3 : W1.cell? ⟨F, 3, none⟩ = some (.int .i64 ((n : Nat) : Int)) := by rw [← hF]; exact cell_of c3
  have p4 : W1.cell? ⟨F, 4, none⟩ = some (.string d) := by rw [← hF]; exact cell_of c3
  have HX := Lib.hid (And.intro hnx (And.intro hf hv))
  have HM := Lib.hid (And.intro hmi hap)
  clear hv hf hnx hb0 hvb hmi hm0 hap
  go_enter Try.func16, Try.ntmps16
  go_wp2_with (go_at_call 34; refine cN.mono ?_; rintro e W2 ⟨rfl, rfl⟩)
  go_wp2_with (go_at_call 13; refine cV.mono ?_; rintro e W2 ⟨rfl, b2⟩; have h2 := h1.below b2; have d3 := (b2.block w.heap.size (by omega)).trans c3; have d4 := (b2.block (w.heap.size + 1) (by omega)).trans c4; have g2 := hb1.trans (b2.mono hb1.size); have z2 : W1.heap.size ≤ W2.heap.size := b2.size; have r1 : W2.cell? ⟨F, 1, none⟩ = some (.int .i64 ((a : Nat) : Int)) := (by rw [← hF]; exact cell_of d3))
  obtain ⟨q6, hq6⟩ : ∃ q, W2.heap.size = q := ⟨_, rfl⟩
  have b3 := (Below.refl W2.heap.size W2).alloc (Nat.le_refl _) (pcO false ⟨#[]⟩ 0 false)
  obtain ⟨W3, hW3⟩ : ∃ W, W2.alloc (pcO false ⟨#[]⟩ 0 false) = W := ⟨_, rfl⟩
  have c6 : W3.heap[q6]? = some (pcO false ⟨#[]⟩ 0 false) := by rw [← hW3, ← hq6]; exact heap_alloc_new _ _
  have sz3 : W3.heap.size = q6 + 1 := by rw [← hW3, alloc_size, hq6]
  rw [hW3] at b3 ⊢
  rw [hq6]
  have g3 := g2.trans (b3.mono (by omega))
  have h3 := h2.below b3
  have e3 := (b3.block w.heap.size (by omega)).trans d3
  have e4 := (b3.block (w.heap.size + 1) (by omega)).trans d4
  have b4 := (Below.refl W3.heap.size W3).alloc (Nat.le_refl _) (knO 0 false (.slice none 0 0))
  obtain ⟨W4, hW4⟩ : ∃ W, W3.alloc (knO 0 false (.slice none 0 0)) = W := ⟨_, rfl⟩
  have c7 : W4.heap[q6 + 1]? = some (knO 0 false (.slice none 0 0)) := by rw [← hW4, ← sz3]; exact heap_alloc_new _ _
  have hW4' : W3.drew.alloc (knO 0 false (.slice none 0 0)) = W4.drew := by rw [← hW4]; rfl
  rw [hW4] at b4
  have h4 := h3.below b4
  have g4 := g3.trans (b4.mono (by omega))
  have k3 := (b4.block w.heap.size (by omega)).trans e3
  have k4 := (b4.block (w.heap.size + 1) (by omega)).trans e4
  have k6 := (b4.block q6 (by omega)).trans c6
  have lk1 := (h4.below (Below.refl _ W4).drew).look_yes hJ
  have lk2 := (h3.below (Below.refl _ W3).drew).look_yes hJ
  unfold kV at lk1 lk2
  rw [htv] at lk1 lk2
  have s0 : W4.cell? ⟨b, 0, none⟩ = some (.map (some mb)) := cell_of h4.cell
  have s1 : W4.cell? ⟨F, 1, none⟩ = some (.int .i64 ((a : Nat) : Int)) := by rw [← hF]; exact cell_of k3
  have s2 : W4.cell? ⟨q6 + 1, 0, none⟩ = some (.int .i64 0) := cell_of c7
  have s3 : W4.cell? ⟨q6 + 1, 1, none⟩ = some (.bool false) := cell_of c7
  have s4 : W4.cell? ⟨q6 + 1, 2, none⟩ = some (.slice none 0 0) := cell_of c7
  have s5 := fz_of c7 0
  have s6 := fz_of c7 1
  have s7 := fz_of c7 2
  have t0 : W3.cell? ⟨b, 0, none⟩ = some (.map (some mb)) := cell_of h3.cell
  have t1 : W3.cell? ⟨F, 1, none⟩ = some (.int .i64 ((a : Nat) : Int)) := by rw [← hF]; exact cell_of e3
  have hL : Lo w q6 none c a f n d false ⟨#[]⟩ 0 false 0 false (.slice none 0 0) W4 := ⟨grown_none g4, by omega, k3, k4, k6, c7⟩
  have hq : F + 1 < q6 := by omega
  clear hW3 hq6 c6 e3 h2 d3 d4 r1 b2 p0 p1 p2 p3 p4 cV cN c3 c4 h1 hW1 b3 b4 g2 g3 g4 e4 k3 k4 k6 c7 h3 h4 hb1 sz1 z2
  go_region
  refine w_gen (Lo w q6 none c a f n d false ⟨#[]⟩ 0 false ((nx0 : Nat) : Int) true (.slice to tx.length tc)) ?_ ?_
  · have hlo := hL.lt
    refine ⟨?_, hL.lt, ?_, ?_, ?_, ?_⟩
    · repeat (first | with_reducible refine gr_drew ?_ | with_reducible refine gr_set (by omega) ?_)
      exact hL.g
    · refine At.out ?_
      repeat (first | with_reducible refine At.drew ?_ | with_reducible refine At.same ?_ | with_reducible refine At.ne (by omega) ?_)
      exact At.base hL.e3 rfl
    · refine At.out ?_
      repeat (first | with_reducible refine At.drew ?_ | with_reducible refine At.same ?_ | with_reducible refine At.ne (by omega) ?_)
      exact At.base hL.e4 rfl
    · refine At.out ?_
      repeat (first | with_reducible refine At.drew ?_ | with_reducible refine At.same ?_ | with_reducible refine At.ne (by omega) ?_)
      exact At.base hL.e6 rfl
    · refine At.out ?_
      repeat (first | with_reducible refine At.drew ?_ | with_reducible refine At.same ?_ | with_reducible refine At.ne (by omega) ?_)
      exact At.base hL.e7 rfl
  clear hL s0 s1 s2 s3 s4 s5 s6 s7 t0 t1 lk1 lk2 hW4 hW4' sz3
  intro W5 hL
  obtain ⟨u1, u2, u3, u4, v0, v1, v2, v3, x0, x1, x2, x3, y0, y1, y2⟩ := hL.cells
  obtain ⟨f4, f6, f7⟩ := hL.fz
  rw [hF] at u1 u2 u3 u4 v0 v1 v2 v3 f4
  go_wp2
  refine w_gen (Lo w q6 none c a f n d false ⟨#[]⟩ ((mi : Nat) : Int) true ((nx : Nat) : Int) false (.slice to tx.length tc)) ?_ ?_
  · have hlo := hL.lt
    refine ⟨?_, hL.lt, ?_, ?_, ?_, ?_⟩
    · repeat (first | with_reducible refine gr_drew ?_ | with_reducible refine gr_set (by omega) ?_)
      exact hL.g
    · refine At.out ?_
      repeat (first | with_reducible refine At.drew ?_ | with_reducible refine At.same ?_ | with_reducible refine At.ne (by omega) ?_)
      exact At.base hL.e3 rfl
    · refine At.out ?_
      repeat (first | with_reducible refine At.drew ?_ | with_reducible refine At.same ?_ | with_reducible refine At.ne (by omega) ?_)
      exact At.base hL.e4 rfl
    · refine At.out ?_
      repeat (first | with_reducible refine At.drew ?_ | with_reducible refine At.same ?_ | with_reducible refine At.ne (by omega) ?_)
      exact At.base hL.e6 rfl
    · refine At.out ?_
      repeat (first | with_reducible refine At.drew ?_ | with_reducible refine At.same ?_ | with_reducible refine At.ne (by omega) ?_)
      exact At.base hL.e7 rfl
  clear hL u1 u2 u3 u4 v0 v1 v2 v3 x0 x1 x2 x3 y0 y1 y2 f4 f6 f7
  intro W5 hL
  obtain ⟨g9, hg9⟩ : ∃ g, W5.heap.size = g := ⟨_, rfl⟩
  have hg9' : w.heap.size ≤ g9 := by rw [← hg9]; exact hL.g.size
  have hg9a : w.heap.size ≤ g9 := hg9'
  have hXs : (W5.setCell ⟨q6 + 1, 1, none⟩ (.bool true)).heap.size = g9 := by rw [← hg9]; exact ((OnlyB.refl (q6 + 1) W5).setCell 1 (.bool true)).size
  obtain ⟨cp1, Y1, hc1, hr1, bb1, _⟩ := brow_new W5.drew d (by omega)
  obtain ⟨cp2, Y2, hc2, hr2, bb2, _⟩ := brow_new (W5.setCell ⟨q6 + 1, 1, none⟩ (.bool true)).drew d (by omega)
  have hc1 : (convert 9 66 (.string d)).run Try.prog W5.drew = .ok (.slice (some ⟨g9, 0, none⟩) d.size cp1) Y1 := by rw [← hg9]; exact hc1
  have hr1 : BRow Y1 (.slice (some ⟨g9, 0, none⟩) d.size cp1) d.data.toList := by rw [← hg9]; exact hr1
  have hc2 : (convert 9 66 (.string d)).run Try.prog (W5.setCell ⟨q6 + 1, 1, none⟩ (.bool true)).drew = .ok (.slice (some ⟨g9, 0, none⟩) d.size cp2) Y2 := by rw [← hXs]; exact hc2
  have hr2 : BRow Y2 (.slice (some ⟨g9, 0, none⟩) d.size cp2) d.data.toList := by rw [← hXs]; exact hr2
  have hL1 := hL.drew.below bb1
  have hL2 : (Lo w q6 none c a f n d false ⟨#[]⟩ ((mi : Nat) : Int) true ((nx : Nat) : Int) true (.slice to tx.length tc)) (W5.setCell ⟨q6 + 1, 1, none⟩ (.bool true)).drew := by
    refine w_gen (Lo w q6 none c a f n d false ⟨#[]⟩ ((mi : Nat) : Int) true ((nx : Nat) : Int) true (.slice to tx.length tc)) ?_ fun _ h => h
    · have hlo := hL.lt
      refine ⟨?_, hL.lt, ?_, ?_, ?_, ?_⟩
      · repeat (first | with_reducible refine gr_drew ?_ | with_reducible refine gr_set (by omega) ?_)
        exact hL.g
      · refine At.out ?_
        repeat (first | with_reducible refine At.drew ?_ | with_reducible refine At.same ?_ | with_reducible refine At.ne (by omega) ?_)
        exact At.base hL.e3 rfl
      · refine At.out ?_
        repeat (first | with_reducible refine At.drew ?_ | with_reducible refine At.same ?_ | with_reducible refine At.ne (by omega) ?_)
        exact At.base hL.e4 rfl
      · refine At.out ?_
        repeat (first | with_reducible refine At.drew ?_ | with_reducible refine At.same ?_ | with_reducible refine At.ne (by omega) ?_)
        exact At.base hL.e6 rfl
      · refine At.out ?_
        repeat (first | with_reducible refine At.drew ?_ | with_reducible refine At.same ?_ | with_reducible refine At.ne (by omega) ?_)
        exact At.base hL.e7 rfl
  replace hL2 := hL2.below bb2
  obtain ⟨u1, u2, u3, u4, v0, v1, v2, v3, x0, x1, x2, x3, y0, y1, y2⟩ := hL.cells
  obtain ⟨f4, f6, f7⟩ := hL.fz
  rw [hF] at u1 u2 u3 u4 v0 v1 v2 v3 f4
  obtain ⟨a1, a2, a3, a4, b0, b1, b2, b3, d0, d1, d2, d3, e0, e1, e2⟩ := hL1.cells
  obtain ⟨g4, g6, g7⟩ := hL1.fz
  rw [hF] at a1 a2 a3 a4 b0 b1 b2 b3 g4
  obtain ⟨A1, A2, A3, A4, B0, B1, B2, B3, D0, D1, D2, D3, E0, E1, E2⟩ := hL2.cells
  obtain ⟨G4, G6, G7⟩ := hL2.fz
  rw [hF] at A1 A2 A3 A4 B0 B1 B2 B3 G4
  go_region
  · skip
    refine w_gen (fun w' => (Lo w q6 none c a f n d false ⟨#[]⟩ ((mi : Nat) : Int) true ((nx : Nat) : Int) true (.slice (some ⟨g9, 0, none⟩) d.size cp1)) w' ∧ BRow w' (.slice (some ⟨g9, 0, none⟩) d.size cp1) d.data.toList) ⟨?_, ?_⟩ ?_
    · have hlo := hL1.lt
      refine ⟨?_, hL1.lt, ?_, ?_, ?_, ?_⟩
      · repeat (first | with_reducible refine gr_drew ?_ | with_reducible refine gr_set (by omega) ?_)
        exact hL1.g
      · refine At.out ?_
        repeat (first | with_reducible refine At.drew ?_ | with_reducible refine At.same ?_ | with_reducible refine At.ne (by omega) ?_)
        exact At.base hL1.e3 rfl
      · refine At.out ?_
        repeat (first | with_reducible refine At.drew ?_ | with_reducible refine At.same ?_ | with_reducible refine At.ne (by omega) ?_)
        exact At.base hL1.e4 rfl
      · refine At.out ?_
        repeat (first | with_reducible refine At.drew ?_ | with_reducible refine At.same ?_ | with_reducible refine At.ne (by omega) ?_)
        exact At.base hL1.e6 rfl
      · refine At.out ?_
        repeat (first | with_reducible refine At.drew ?_ | with_reducible refine At.same ?_ | with_reducible refine At.ne (by omega) ?_)
        exact At.base hL1.e7 rfl
    · exact (hr1.aside (o := 1) hL1.e7 (by decide)).aside (o := 2) (set_at hL1.e7) (by decide)
    clear hL1 u1 u2 u3 u4 v0 v1 v2 v3 x0 x1 x2 x3 y0 y1 y2 f4 f6 f7 a1 a2 a3 a4 b0 b1 b2 b3 d0 d1 d2 d3 e0 e1 e2 g4 g6 g7 A1 A2 A3 A4 B0 B1 B2 B3 D0 D1 D2 D3 E0 E1 E2 G4 G6 G7 hc1 hc2 hL hL2 hr1 hr2
    rintro W6 ⟨hL, hrB⟩
    obtain ⟨u1, u2, u3, u4, v0, v1, v2, v3, x0, x1, x2, x3, y0, y1, y2⟩ := hL.cells
    obtain ⟨f4, f6, f7⟩ := hL.fz
    rw [hF] at u1 u2 u3 u4 v0 v1 v2 v3 f4
    go_wp2
    obtain ⟨W7, hrun, hq7, hF7, hJ7, hR7⟩ := feed_fin (k' := ⟨(n + 1) % 16384, true, d.data.toList⟩) h ha hN (fun g e => by cases e) hL (by show (((n + 1) % 16384 : Nat) : Int) = _; rw [HX.out.1]) rfl (Nat.mod_lt _ (by decide)) (by show d.data.toList.length ≤ _; rw [size_list]; omega) (fun e => by cases e) (hrB) (fun g hg => .inr (Nat.le_trans hg9a (Nat.le_of_eq (Option.some.inj hg))))
    unfold endW at hJ7 hR7
    rw [hF] at hJ7 hR7 hF7
    have i0 : W7.cell? ⟨q6, 0, none⟩ = some (.bool false) := cell_of hq7
    have i1 : W7.cell? ⟨q6, 1, none⟩ = some (.string ⟨#[]⟩) := cell_of hq7
    have i2 : W7.cell? ⟨q6, 2, none⟩ = some (.int .i64 ((mi : Nat) : Int)) := cell_of hq7
    have i3 : W7.cell? ⟨q6, 3, none⟩ = some (.bool true) := cell_of hq7
    have j0 : W7.cell? ⟨F + 1, 0, none⟩ = some (.bool false) := cell_of hF7
    have j1 : W7.cell? ⟨F + 1, 1, none⟩ = some (.string ⟨#[]⟩) := cell_of hF7
    have j2 : W7.cell? ⟨F + 1, 2, none⟩ = some (.int .i64 0) := cell_of hF7
    have j3 : W7.cell? ⟨F + 1, 3, none⟩ = some (.bool false) := cell_of hF7
    have jz := fz_of hF7
    have s0 : W6.cell? ⟨b, 0, none⟩ = some (.map (some mb)) := cell_of (h.later a (fun g e => by cases e) hL.g).cell
    have h8 := set_at (o := 3) (v := .bool true) (set_at (o := 2) (v := .int .i64 ((mi : Nat) : Int)) (set_at (o := 1) (v := .string ⟨#[]⟩) (set_at (o := 0) (v := .bool false) hF7)))
    obtain ⟨W8, hW8⟩ : ∃ W, (((W7.setCell ⟨F + 1, 0, none⟩ (.bool false)).setCell ⟨F + 1, 1, none⟩ (.string ⟨#[]⟩)).setCell ⟨F + 1, 2, none⟩ (.int .i64 ((mi : Nat) : Int))).setCell ⟨F + 1, 3, none⟩ (.bool true) = W := ⟨_, rfl⟩
    rw [hW8] at hJ7 hR7 h8
    have m0 : W8.cell? ⟨F + 1, 0, none⟩ = some (.bool false) := cell_of h8
    have m1 : W8.cell? ⟨F + 1, 1, none⟩ = some (.string ⟨#[]⟩) := cell_of h8
    have m2 : W8.cell? ⟨F + 1, 2, none⟩ = some (.int .i64 ((mi : Nat) : Int)) := cell_of h8
    have m3 : W8.cell? ⟨F + 1, 3, none⟩ = some (.bool true) := cell_of h8
    clear hL h8 hq7 hF7
    go_region
    go_wp2
    refine bodyPost_ret (v := .tuple #[.agg #[.bool false, .string ⟨#[]⟩, .int .i64 ((mi : Nat) : Int), .bool true], .int .i64 0]) ?_ rfl ⟨by first | rfl | rw [hM], hJ7, hR7⟩
    simp [results, Try.results16, go_sem, m0, m1, m2, m3]
  · skip
    refine w_gen (fun w' => (Lo w q6 none c a f n d false ⟨#[]⟩ ((mi : Nat) : Int) true ((nx : Nat) : Int) true (.slice (some ⟨g9, 0, none⟩) d.size cp2)) w' ∧ BRow w' (.slice (some ⟨g9, 0, none⟩) d.size cp2) d.data.toList) ⟨?_, ?_⟩ ?_
    · have hlo := hL2.lt
      refine ⟨?_, hL2.lt, ?_, ?_, ?_, ?_⟩
      · repeat (first | with_reducible refine gr_drew ?_ | with_reducible refine gr_set (by omega) ?_)
        exact hL2.g
      · refine At.out ?_
        repeat (first | with_reducible refine At.drew ?_ | with_reducible refine At.same ?_ | with_reducible refine At.ne (by omega) ?_)
        exact At.base hL2.e3 rfl
      · refine At.out ?_
        repeat (first | with_reducible refine At.drew ?_ | with_reducible refine At.same ?_ | with_reducible refine At.ne (by omega) ?_)
        exact At.base hL2.e4 rfl
      · refine At.out ?_
        repeat (first | with_reducible refine At.drew ?_ | with_reducible refine At.same ?_ | with_reducible refine At.ne (by omega) ?_)
        exact At.base hL2.e6 rfl
      · refine At.out ?_
        repeat (first | with_reducible refine At.drew ?_ | with_reducible refine At.same ?_ | with_reducible refine At.ne (by omega) ?_)
        exact At.base hL2.e7 rfl
    · exact hr2.aside (o := 2) hL2.e7 (by decide)
    clear hL2 u1 u2 u3 u4 v0 v1 v2 v3 x0 x1 x2 x3 y0 y1 y2 f4 f6 f7 a1 a2 a3 a4 b0 b1 b2 b3 d0 d1 d2 d3 e0 e1 e2 g4 g6 g7 A1 A2 A3 A4 B0 B1 B2 B3 D0 D1 D2 D3 E0 E1 E2 G4 G6 G7 hc1 hc2 hL hL1 hr1 hr2
    rintro W6 ⟨hL, hrB⟩
    obtain ⟨u1, u2, u3, u4, v0, v1, v2, v3, x0, x1, x2, x3, y0, y1, y2⟩ := hL.cells
    obtain ⟨f4, f6, f7⟩ := hL.fz
    rw [hF] at u1 u2 u3 u4 v0 v1 v2 v3 f4
    go_wp2
    obtain ⟨W7, hrun, hq7, hF7, hJ7, hR7⟩ := feed_fin (k' := ⟨(n + 1) % 16384, true, d.data.toList⟩) h ha hN (fun g e => by cases e) hL (by show (((n + 1) % 16384 : Nat) : Int) = _; rw [HX.out.1]) rfl (Nat.mod_lt _ (by decide)) (by show d.data.toList.length ≤ _; rw [size_list]; omega) (fun e => by cases e) (hrB) (fun g hg => .inr (Nat.le_trans hg9a (Nat.le_of_eq (Option.some.inj hg))))
    unfold endW at hJ7 hR7
    rw [hF] at hJ7 hR7 hF7
    have i0 : W7.cell? ⟨q6, 0, none⟩ = some (.bool false) := cell_of hq7
    have i1 : W7.cell? ⟨q6, 1, none⟩ = some (.string ⟨#[]⟩) := cell_of hq7
    have i2 : W7.cell? ⟨q6, 2, none⟩ = some (.int .i64 ((mi : Nat) : Int)) := cell_of hq7
    have i3 : W7.cell? ⟨q6, 3, none⟩ = some (.bool true) := cell_of hq7
    have j0 : W7.cell? ⟨F + 1, 0, none⟩ = some (.bool false) := cell_of hF7
    have j1 : W7.cell? ⟨F + 1, 1, none⟩ = some (.string ⟨#[]⟩) := cell_of hF7
    have j2 : W7.cell? ⟨F + 1, 2, none⟩ = some (.int .i64 0) := cell_of hF7
    have j3 : W7.cell? ⟨F + 1, 3, none⟩ = some (.bool false) := cell_of hF7
    have jz := fz_of hF7
    have s0 : W6.cell? ⟨b, 0, none⟩ = some (.map (some mb)) := cell_of (h.later a (fun g e => by cases e) hL.g).cell
    have h8 := set_at (o := 3) (v := .bool true) (set_at (o := 2) (v := .int .i64 ((mi : Nat) : Int)) (set_at (o := 1) (v := .string ⟨#[]⟩) (set_at (o := 0) (v := .bool false) hF7)))
    obtain ⟨W8, hW8⟩ : ∃ W, (((W7.setCell ⟨F + 1, 0, none⟩ (.bool false)).setCell ⟨F + 1, 1, none⟩ (.string ⟨#[]⟩)).setCell ⟨F + 1, 2, none⟩ (.int .i64 ((mi : Nat) : Int))).setCell ⟨F + 1, 3, none⟩ (.bool true) = W := ⟨_, rfl⟩
    rw [hW8] at hJ7 hR7 h8
    have m0 : W8.cell? ⟨F + 1, 0, none⟩ = some (.bool false) := cell_of h8
    have m1 : W8.cell? ⟨F + 1, 1, none⟩ = some (.string ⟨#[]⟩) := cell_of h8
    have m2 : W8.cell? ⟨F + 1, 2, none⟩ = some (.int .i64 ((mi : Nat) : Int)) := cell_of h8
    have m3 : W8.cell? ⟨F + 1, 3, none⟩ = some (.bool true) := cell_of h8
    clear hL h8 hq7 hF7
    go_region
    go_wp2
    refine bodyPost_ret (v := .tuple #[.agg #[.bool false, .string ⟨#[]⟩, .int .i64 ((mi : Nat) : Int), .bool true], .int .i64 0]) ?_ rfl ⟨by first | rfl | rw [hM], hJ7, hR7⟩
    simp [results, Try.results16, go_sem, m0, m1, m2, m3]
end Go.Am.Joi
