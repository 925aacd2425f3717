/-
  Joiner: PacketMessage, walked, the packets fed. Own work.
-/
import Derived.Test.YtbpfhjmiaaaoiaaJoiN
namespace Go.Am.Joi
open Go Go.Am Go.Am.Lib Go.Lib Go.Proofs Go.RowKit
open Go.Am.Own
open Go.Am.Pkt (G0 manyP flP rowP badS sSplit okSplit)
set_option maxRecDepth 100000
theorem feed_pk {S : Nat → Prop} {b N : Nat} {J : Js} {w : World} {n m i : Nat} {s : ByteArray} {a : Nat} (h : JAt S b N J w) (hN : N < maxLen) (c : Bool) (m0 : 1 ≤ m) (m1 : m ≤ 1024) (s1 : s.size ≤ 16384) (ha : a < 2047) (hi : i < manyP s m)
    (hJ : J a = kM n m s i) (hN2 : N + 1 ≤ 2 * (i + 1)) (bb : Bool) (t : ByteArray) (hbt : (i + 1 < manyP s m ∧ bb = false ∧ t = ⟨#[]⟩) ∨ (i + 1 = manyP s m ∧ bb = true ∧ t = s)) :
    Calls Try.prog 16 #[.pointer (some ⟨b, 0, none⟩), .agg #[.bool c, .int .i64 ((a : Nat) : Int), .int .i64 ((flP (manyP s m) i : Nat) : Int), .int .i64 (((n + i) % 16384 : Nat) : Int), .string (Pkt.part s m i)]] w
      fun e w' => ∃ J2, e = .returned (.tuple #[.agg #[.bool bb, .string t, .int .i64 0, .bool false], .int .i64 0]) ∧ Hid (i + 1 < manyP s m → J2 a = kM n m s (i + 1)) ∧ JAt S b (2 * (i + 1)) J2 w' ∧ FrS S w w' := by
  have hv := pk_valid (n := n) m0 m1 hi ha
  obtain ⟨st1, st2⟩ := pk_step (n := n) m0 s1 hi
  have cF := feed_at h hN c hv ha
  rw [hJ] at cF
  refine cF.mono ?_
  rintro e w' ⟨rfl, hj, hf⟩
  rcases hbt with ⟨h1, rfl, rfl⟩ | ⟨h1, rfl, rfl⟩
  · obtain ⟨t1, t2⟩ := st1 h1
    exact ⟨_, by rw [t1]; rfl, fun _ => by rw [Js.set_same, t2], hj.up (by omega), hf⟩
  · exact ⟨_, by rw [st2 h1]; rfl, fun hh => absurd h1 (by omega), hj.up (by omega), hf⟩
set_option maxHeartbeats 6400000 in
theorem message_yes {W0 : World} (c : Bool) {a n m : Nat} {s : ByteArray} (ao : Option Addr) (no cap : Nat) (hps : PksIn W0 ao no) (h2 : no ≤ 100) (ha : a < 2047) (hn : n ≤ 16383) (m0 : 1 ≤ m) (m1 : m ≤ 1024) (s0 : 1 ≤ s.size) (s1 : s.size ≤ 16384) :
    Calls Try.prog 5 #[cutV c ((a : Nat) : Int) ((n : Nat) : Int) ((m : Nat) : Int) s, .slice ao no cap] W0 fun e w' => e = .returned (.bool true) ∧ Below W0.heap.size W0 w' := by
  have b0 := (Below.refl W0.heap.size W0).alloc (Nat.le_refl _) (cutO c a n m s)
  obtain ⟨W1, hW1⟩ : ∃ W, W0.alloc (cutO c a n m s) = W := ⟨_, rfl⟩
  have c1 : W1.heap[W0.heap.size]? = some (cutO c a n m s) := by rw [← hW1]; exact heap_alloc_new W0 _
  have sz : W1.heap.size = W0.heap.size + 1 := by rw [← hW1, alloc_size]
  rw [hW1] at b0
  obtain ⟨q, hq⟩ : ∃ q, W0.heap.size = q := ⟨_, rfl⟩
  have hS := shown_calls W1
  have hC := fun w => split_calls c (a := a) (n := n) (m := m) (s := s) ha hn m0 m1 s0 s1 w
  obtain ⟨L, hL⟩ : ∃ L, manyP s m = L := ⟨_, rfl⟩
  have hLb : L ≤ 16384 := by
    rw [← hL]; unfold manyP
    have h3 : (s.size + m - 1) / m * m ≤ s.size + m - 1 := Nat.div_mul_le_self _ _
    rcases Nat.lt_or_ge 16384 ((s.size + m - 1) / m) with h4 | h4
    · have h5 : 16385 * m ≤ (s.size + m - 1) / m * m := Nat.mul_le_mul_right m h4
      omega
    · exact h4
  simp only [hL] at hC
  have HC := Lib.hid hC
  have HB := Lib.hid (And.intro hL (And.intro m0 (And.intro m1 s1)))
  have h1' : ¬ (20000 : Int) < ((s.size : Nat) : Int) := by omega
  have h2' : ¬ (100 : Int) < ((no : Nat) : Int) := by omega
  have h40 : 600 < L → ((m : Nat) : Int) < 40 := by
    intro h
    have h3 : 601 * m ≤ L * m := Nat.mul_le_mul_right m h
    have h4 : L * m ≤ s.size + m - 1 := by rw [← hL]; unfold manyP; exact Nat.div_mul_le_self _ _
    omega
  clear hC hL s0 s1 m0 m1
  rcases Nat.lt_or_ge 600 L with h6 | h6
  · have h6' : (600 : Int) < ((L : Nat) : Int) := by omega
    have h7 := h40 h6
    clear h40
    go_enter Try.func5, Try.ntmps5
    go_wp2_with (go_at_call 10; refine hS.mono ?_; rintro e W2 ⟨rfl, b2⟩; have dd : W2.heap[q]? = some (cutO c a n m s) := (by rw [← hq]; exact (b2.block _ (by omega)).trans c1); have d0 : W2.cell? ⟨q, 0, none⟩ = some (.bool c) := cell_of dd; have d1 : W2.cell? ⟨q, 1, none⟩ = some (.int .i64 ((a : Nat) : Int)) := cell_of dd; have d2 : W2.cell? ⟨q, 2, none⟩ = some (.int .i64 ((n : Nat) : Int)) := cell_of dd; have d3 : W2.cell? ⟨q, 3, none⟩ = some (.int .i64 ((m : Nat) : Int)) := cell_of dd; have d4 : W2.cell? ⟨q, 4, none⟩ = some (.string s) := cell_of dd; have g2 := b0.trans (b2.mono (by omega)))
    go_wp2_with (go_at_call 20; refine (HC.out _).mono ?_; rintro e W3 ⟨g, o, c', rfl, _, _, _, _, b3⟩; have g3 := g2.trans (b3.mono g2.size); have k3 : W3.cell? ⟨q, 3, none⟩ = some (.int .i64 ((m : Nat) : Int)) := cell_of ((b3.block q (Array.getElem?_eq_some_iff.1 dd).1).trans dd))
    go_ret
    exact ⟨rfl, g3⟩
  have h6' : ¬ (600 : Int) < ((L : Nat) : Int) := by omega
  clear h40
  go_enter Try.func5, Try.ntmps5
  go_wp2_with (go_at_call 10; refine hS.mono ?_; rintro e W2 ⟨rfl, b2⟩; have dd : W2.heap[q]? = some (cutO c a n m s) := (by rw [← hq]; exact (b2.block _ (by omega)).trans c1); have d0 : W2.cell? ⟨q, 0, none⟩ = some (.bool c) := cell_of dd; have d1 : W2.cell? ⟨q, 1, none⟩ = some (.int .i64 ((a : Nat) : Int)) := cell_of dd; have d2 : W2.cell? ⟨q, 2, none⟩ = some (.int .i64 ((n : Nat) : Int)) := cell_of dd; have d3 : W2.cell? ⟨q, 3, none⟩ = some (.int .i64 ((m : Nat) : Int)) := cell_of dd; have d4 : W2.cell? ⟨q, 4, none⟩ = some (.string s) := cell_of dd; have g2 := b0.trans (b2.mono (by omega)))
  go_wp2_with (go_at_call 20; refine (HC.out _).mono ?_; rintro e W3 ⟨g, o, c', rfl, hg1, hg2, hLc, hcl, b3⟩; have g3 := g2.trans (b3.mono g2.size); have k3 := (b3.block q (Array.getElem?_eq_some_iff.1 dd).1).trans dd)
  go_wp2_with (go_at_call 15; refine (new_at _).mono ?_; rintro e W4 ⟨jb, rfl, hj0, b4, hjb⟩)
  have HCL := Lib.hid hcl
  have hF0 : FrS (fun k => W3.heap.size ≤ k) W3 W4 := ⟨b4.os, b4.tape, b4.output, b4.size, fun k hk => b4.block k (by omega)⟩
  clear d0 d1 d2 d3 d4 dd b2 b3 c1 hS hW1 b0 sz hcl b4 HC hjb
  go_wp2
  go_loopw [8] (fun iv wq => ∃ (i : Nat) (J : Js), iv = .int .i64 (i : Nat) ∧ i ≤ L ∧ Hid (i < L → J a = kM n m s i) ∧ JAt (fun k => W3.heap.size ≤ k) jb (2 * i) J wq ∧ FrS (fun k => W3.heap.size ≤ k) W3 wq)
    (fun iv _ => L - iOf iv)
  case atStart => exact ⟨0, js0, rfl, Nat.zero_le _, fun _ => rfl, hj0, hF0⟩
  case round =>
    clear hj0 hF0
    obtain ⟨i, J, rfl, hi, hJ, hj, hF⟩ := hrel
    rcases Nat.lt_or_ge i L with hlt | hge
    · have hlt' : ((i : Nat) : Int) < ((L : Nat) : Int) := by omega
      have hend : Below W0.heap.size W0 wr := g3.trans (hF.below fun k hk hs => by have := g3.size; omega)
      have hbx := (hF.block q (by have := (Array.getElem?_eq_some_iff.1 k3).1; omega)).trans k3
      have e1 : wr.cell? ⟨q, 1, none⟩ = some (.int .i64 ((a : Nat) : Int)) := cell_of hbx
      rcases Nat.lt_or_ge i no with hno | hno
      · have hno' : ((i : Nat) : Int) < ((no : Nat) : Int) := by omega
        obtain ⟨x, c2, a2, f2, n2, d2, rfl, p0, p1, p2, p3, p4, pb⟩ := hps i hno
        obtain ⟨xi, hxi⟩ : ∃ xi, x.add (i * 5) = xi := ⟨_, rfl⟩
        rw [hxi] at p0 p1 p2 p3 p4 pb
        have hbk : wr.heap[xi.block]? = W0.heap[xi.block]? := hend.block xi.block pb
        replace p0 : wr.cell? xi = some (.bool c2) := (World.cell?_of_block hbk).trans p0
        replace p1 := (World.cell?_of_block (a := ⟨xi.block, xi.off + 1, none⟩) hbk).trans p1
        replace p2 := (World.cell?_of_block (a := ⟨xi.block, xi.off + 2, none⟩) hbk).trans p2
        replace p3 := (World.cell?_of_block (a := ⟨xi.block, xi.off + 3, none⟩) hbk).trans p3
        replace p4 := (World.cell?_of_block (a := ⟨xi.block, xi.off + 4, none⟩) hbk).trans p4
        have hcl := HCL.out
        obtain ⟨hL, m0, m1, s1⟩ := HB.out
        have hlt3 : i < manyP s m := by omega
        have hgk : wr.heap[g]? = W3.heap[g]? := hF.block g (by omega)
        obtain ⟨oi, hoi⟩ : ∃ k, o + i * 5 = k := ⟨_, rfl⟩
        have rr : ∀ qq v, qq < 5 → (rowP c a n s m (flP L) i)[qq]? = some v → W3.cell? ⟨g, oi + qq, none⟩ = some v := fun qq v hq5 hv5 => by
          rw [show oi + qq = o + (5 * i + qq) by omega]; exact hcl i qq v hlt hq5 hv5
        have z0 := rr 0 _ (by decide) rfl
        have z1 := rr 1 _ (by decide) rfl
        have z2 := rr 2 _ (by decide) rfl
        have z3 := rr 3 _ (by decide) rfl
        have z4 := rr 4 _ (by decide) rfl
        have cF := fun (w : World) (J0 : Js) (N : Nat) (h : JAt (fun k => W3.heap.size ≤ k) jb N J0 w) (hN : N + 1 ≤ 2 * (i + 1)) (hJ0 : J0 a = kM n m s i) => feed_pk h (by unfold maxLen; omega) c m0 m1 s1 ha hlt3 hJ0 hN
        rw [Nat.add_zero] at z0
        obtain ⟨ff, hff⟩ : ∃ k, flP (manyP s m) i = k := ⟨_, rfl⟩
        obtain ⟨kk, hkk⟩ : ∃ k, (n + i) % 16384 = k := ⟨_, rfl⟩
        obtain ⟨dd, hdd⟩ : ∃ k, Pkt.part s m i = k := ⟨_, rfl⟩
        rw [← hL] at z2
        rw [hff] at z2
        rw [hkk] at z3
        rw [hdd] at z4
        rw [hL] at hff; simp only [hL, hff, hkk, hdd] at cF
        have hmeas : L - (i + 1) < L - i := by omega
        have hJi := hJ.out hlt
        have CF := Lib.hid cF
        have GG : g < W3.heap.size := by omega
        clear cF hL m0 m1 s1 hlt3 hcl hgk hff hkk hdd rr
        by_cases hae : a2 = ((a : Nat) : Int)
        · have hae' : (a2 != ((a : Nat) : Int)) = false := by rw [hae]; simp
          have hnoB : decide (((i : Nat) : Int) < ((no : Nat) : Int)) = true := decide_eq_true hno'
          have hnoN : decide (i < no) = true := decide_eq_true hno
          clear p0 p2 p3 p4
          have hgk : wr.heap[g]? = W3.heap[g]? := hF.block g (by omega)
          have r0 := (World.cell?_of_block (a := ⟨g, oi, none⟩) hgk).trans z0
          have r1 := (World.cell?_of_block (a := ⟨g, oi + 1, none⟩) hgk).trans z1
          have r2 := (World.cell?_of_block (a := ⟨g, oi + 2, none⟩) hgk).trans z2
          have r3 := (World.cell?_of_block (a := ⟨g, oi + 3, none⟩) hgk).trans z3
          have r4 := (World.cell?_of_block (a := ⟨g, oi + 4, none⟩) hgk).trans z4
          clear hgk
          rcases Nat.lt_or_ge (i + 1) L with hls | hls
          · have hl1 : (((i : Nat) : Int) == ((L : Nat) : Int) - 1) = false := by simp; omega
            have cF := CF.out wr.drew J _ hj.drew (by omega) hJi false ⟨#[]⟩ (.inl ⟨hls, rfl, rfl⟩)
            go_wp2
            go_region
            go_wp2_with (go_at_call 16; refine cF.mono ?_; rintro e W6 ⟨J2, rfl, HJ2, hj6, hf6⟩; have e4 : (W6.alloc (.cells #[.bool true, .string s, .int .i64 0, .bool false] 40)).cell? ⟨q, 4, none⟩ = some (.string s) := cell?_alloc_some _ (cell_of ((hf6.block q (by have := (Array.getElem?_eq_some_iff.1 k3).1; omega)).trans hbx)))
            exact ⟨⟨i + 1, J2, by push_cast; rfl, by omega, HJ2, hj6.below ((Below.refl _ _).alloc (Nat.le_refl _) _), ((hF.drew.trans hf6).alloc hj6.hS _)⟩, hmeas⟩
          · have hl1 : (((i : Nat) : Int) == ((L : Nat) : Int) - 1) = true := by simp; omega
            have cF := CF.out wr.drew J _ hj.drew (by omega) hJi true s (.inr ⟨by omega, rfl, rfl⟩)
            go_wp2
            go_region
            go_wp2_with (go_at_call 16; refine cF.mono ?_; rintro e W6 ⟨J2, rfl, HJ2, hj6, hf6⟩; have e4 : (W6.alloc (.cells #[.bool true, .string s, .int .i64 0, .bool false] 40)).cell? ⟨q, 4, none⟩ = some (.string s) := cell?_alloc_some _ (cell_of ((hf6.block q (by have := (Array.getElem?_eq_some_iff.1 k3).1; omega)).trans hbx)))
            exact ⟨⟨i + 1, J2, by push_cast; rfl, by omega, HJ2, hj6.below ((Below.refl _ _).alloc (Nat.le_refl _) _), ((hF.drew.trans hf6).alloc hj6.hS _)⟩, hmeas⟩
        · have hae' : (a2 != ((a : Nat) : Int)) = true := by simpa using hae
          have hnoB : decide (((i : Nat) : Int) < ((no : Nat) : Int)) = true := decide_eq_true hno'
          have hnoN : decide (i < no) = true := decide_eq_true hno
          have cG := feed_any hj.drew (show 2 * i < maxLen by unfold maxLen; omega) c2 a2 f2 n2 d2
          have hJi2 : (feedJ J a2 f2 n2 d2) a = kM n m s i := by
            rw [← hJi]
            unfold feedJ
            by_cases hh : Pkt.validB a2 f2 n2 d2 = true ∧ a2 ≠ 2047
            · rw [if_pos hh, Js.set_other _ _ (by have := Pkt.validB_iff.1 hh.1; omega)]
            · rw [if_neg hh]
          obtain ⟨FA, hFA⟩ : ∃ v, ansV (feedA J a2 f2 n2 d2) = v := ⟨_, rfl⟩
          obtain ⟨FE, hFE⟩ : ∃ v, feedE a2 f2 n2 d2 = v := ⟨_, rfl⟩
          obtain ⟨J3, hJ3⟩ : ∃ v, feedJ J a2 f2 n2 d2 = v := ⟨_, rfl⟩
          rw [hFA, hFE, hJ3] at cG
          rw [hJ3] at hJi2
          clear hFA hFE hJ3
          have P := Lib.hid (And.intro p0 (And.intro p2 (And.intro p3 (And.intro p4 cG))))
          clear p0 p2 p3 p4 cG hbk pb
          rcases Nat.lt_or_ge (i + 1) L with hls | hls
          · have hl1 : (((i : Nat) : Int) == ((L : Nat) : Int) - 1) = false := by simp; omega
            go_wp2
            go_region
            obtain ⟨p0, p2, p3, p4, cG⟩ := P.out
            go_wp2_with (go_at_call 16; refine cG.mono ?_; clear cG; rintro e W5 ⟨rfl, hj5, hf5⟩; have hF5 := hF.drew.trans hf5; have hgk : W5.heap[g]? = W3.heap[g]? := hF5.block g (by omega); have r0 := (World.cell?_of_block (a := ⟨g, oi, none⟩) hgk).trans z0; have r1 := (World.cell?_of_block (a := ⟨g, oi + 1, none⟩) hgk).trans z1; have r2 := (World.cell?_of_block (a := ⟨g, oi + 2, none⟩) hgk).trans z2; have r3 := (World.cell?_of_block (a := ⟨g, oi + 3, none⟩) hgk).trans z3; have r4 := (World.cell?_of_block (a := ⟨g, oi + 4, none⟩) hgk).trans z4; have hb5 : W5.heap[q]? = some (cutO c ((a : Nat) : Int) ((n : Nat) : Int) ((m : Nat) : Int) s) := (hF5.block q (by have := (Array.getElem?_eq_some_iff.1 k3).1; omega)).trans k3; clear hgk)
            have cF := CF.out W5 _ _ hj5 (by omega) hJi2 false ⟨#[]⟩ (.inl ⟨hls, rfl, rfl⟩)
            go_wp2_with (go_at_call 16; refine cF.mono ?_; rintro e W6 ⟨J2, rfl, HJ2, hj6, hf6⟩; have e4 : (W6.alloc (.cells #[.bool true, .string s, .int .i64 0, .bool false] 40)).cell? ⟨q, 4, none⟩ = some (.string s) := cell?_alloc_some _ (cell_of ((hf6.block q (by have := (Array.getElem?_eq_some_iff.1 k3).1; omega)).trans hb5)))
            exact ⟨⟨i + 1, J2, by push_cast; rfl, by omega, HJ2, hj6.below ((Below.refl _ _).alloc (Nat.le_refl _) _), ((hF5.trans hf6).alloc hj6.hS _)⟩, hmeas⟩
          · have hl1 : (((i : Nat) : Int) == ((L : Nat) : Int) - 1) = true := by simp; omega
            go_wp2
            go_region
            obtain ⟨p0, p2, p3, p4, cG⟩ := P.out
            go_wp2_with (go_at_call 16; refine cG.mono ?_; clear cG; rintro e W5 ⟨rfl, hj5, hf5⟩; have hF5 := hF.drew.trans hf5; have hgk : W5.heap[g]? = W3.heap[g]? := hF5.block g (by omega); have r0 := (World.cell?_of_block (a := ⟨g, oi, none⟩) hgk).trans z0; have r1 := (World.cell?_of_block (a := ⟨g, oi + 1, none⟩) hgk).trans z1; have r2 := (World.cell?_of_block (a := ⟨g, oi + 2, none⟩) hgk).trans z2; have r3 := (World.cell?_of_block (a := ⟨g, oi + 3, none⟩) hgk).trans z3; have r4 := (World.cell?_of_block (a := ⟨g, oi + 4, none⟩) hgk).trans z4; have hb5 : W5.heap[q]? = some (cutO c ((a : Nat) : Int) ((n : Nat) : Int) ((m : Nat) : Int) s) := (hF5.block q (by have := (Array.getElem?_eq_some_iff.1 k3).1; omega)).trans k3; clear hgk)
            have cF := CF.out W5 _ _ hj5 (by omega) hJi2 true s (.inr ⟨by omega, rfl, rfl⟩)
            go_wp2_with (go_at_call 16; refine cF.mono ?_; rintro e W6 ⟨J2, rfl, HJ2, hj6, hf6⟩; have e4 : (W6.alloc (.cells #[.bool true, .string s, .int .i64 0, .bool false] 40)).cell? ⟨q, 4, none⟩ = some (.string s) := cell?_alloc_some _ (cell_of ((hf6.block q (by have := (Array.getElem?_eq_some_iff.1 k3).1; omega)).trans hb5)))
            exact ⟨⟨i + 1, J2, by push_cast; rfl, by omega, HJ2, hj6.below ((Below.refl _ _).alloc (Nat.le_refl _) _), ((hF5.trans hf6).alloc hj6.hS _)⟩, hmeas⟩
      · have hno' : ¬ ((i : Nat) : Int) < ((no : Nat) : Int) := by omega
        have hnoB : decide (((i : Nat) : Int) < ((no : Nat) : Int)) = false := decide_eq_false hno'
        have hnoN : decide (i < no) = false := decide_eq_false (Nat.not_lt.2 hno)
        have hnoM : ¬ i < no := Nat.not_lt.2 hno
        have hcl := HCL.out
        obtain ⟨hL, m0, m1, s1⟩ := HB.out
        have hlt3 : i < manyP s m := by omega
        have hgk : wr.heap[g]? = W3.heap[g]? := hF.block g (by omega)
        obtain ⟨oi, hoi⟩ : ∃ k, o + i * 5 = k := ⟨_, rfl⟩
        have rr : ∀ qq v, qq < 5 → (rowP c a n s m (flP L) i)[qq]? = some v → W3.cell? ⟨g, oi + qq, none⟩ = some v := fun qq v hq5 hv5 => by
          rw [show oi + qq = o + (5 * i + qq) by omega]; exact hcl i qq v hlt hq5 hv5
        have z0 := rr 0 _ (by decide) rfl
        have z1 := rr 1 _ (by decide) rfl
        have z2 := rr 2 _ (by decide) rfl
        have z3 := rr 3 _ (by decide) rfl
        have z4 := rr 4 _ (by decide) rfl
        have cF := fun (w : World) (J0 : Js) (N : Nat) (h : JAt (fun k => W3.heap.size ≤ k) jb N J0 w) (hN : N + 1 ≤ 2 * (i + 1)) (hJ0 : J0 a = kM n m s i) => feed_pk h (by unfold maxLen; omega) c m0 m1 s1 ha hlt3 hJ0 hN
        rw [Nat.add_zero] at z0
        obtain ⟨ff, hff⟩ : ∃ k, flP (manyP s m) i = k := ⟨_, rfl⟩
        obtain ⟨kk, hkk⟩ : ∃ k, (n + i) % 16384 = k := ⟨_, rfl⟩
        obtain ⟨dd, hdd⟩ : ∃ k, Pkt.part s m i = k := ⟨_, rfl⟩
        rw [← hL] at z2
        rw [hff] at z2
        rw [hkk] at z3
        rw [hdd] at z4
        rw [hL] at hff; simp only [hL, hff, hkk, hdd] at cF
        have hmeas : L - (i + 1) < L - i := by omega
        have hJi := hJ.out hlt
        have CF := Lib.hid cF
        have GG : g < W3.heap.size := by omega
        clear cF hL m0 m1 s1 hlt3 hcl hgk hff hkk hdd rr
        have hgk : wr.heap[g]? = W3.heap[g]? := hF.block g (by omega)
        have r0 := (World.cell?_of_block (a := ⟨g, oi, none⟩) hgk).trans z0
        have r1 := (World.cell?_of_block (a := ⟨g, oi + 1, none⟩) hgk).trans z1
        have r2 := (World.cell?_of_block (a := ⟨g, oi + 2, none⟩) hgk).trans z2
        have r3 := (World.cell?_of_block (a := ⟨g, oi + 3, none⟩) hgk).trans z3
        have r4 := (World.cell?_of_block (a := ⟨g, oi + 4, none⟩) hgk).trans z4
        clear hgk
        rcases Nat.lt_or_ge (i + 1) L with hls | hls
        · have hl1 : (((i : Nat) : Int) == ((L : Nat) : Int) - 1) = false := by simp; omega
          have cF := CF.out wr.drew J _ hj.drew (by omega) hJi false ⟨#[]⟩ (.inl ⟨hls, rfl, rfl⟩)
          go_wp2
          go_region
          go_wp2_with (go_at_call 16; refine cF.mono ?_; rintro e W6 ⟨J2, rfl, HJ2, hj6, hf6⟩; have e4 : (W6.alloc (.cells #[.bool true, .string s, .int .i64 0, .bool false] 40)).cell? ⟨q, 4, none⟩ = some (.string s) := cell?_alloc_some _ (cell_of ((hf6.block q (by have := (Array.getElem?_eq_some_iff.1 k3).1; omega)).trans hbx)))
          exact ⟨⟨i + 1, J2, by push_cast; rfl, by omega, HJ2, hj6.below ((Below.refl _ _).alloc (Nat.le_refl _) _), ((hF.drew.trans hf6).alloc hj6.hS _)⟩, hmeas⟩
        · have hl1 : (((i : Nat) : Int) == ((L : Nat) : Int) - 1) = true := by simp; omega
          have cF := CF.out wr.drew J _ hj.drew (by omega) hJi true s (.inr ⟨by omega, rfl, rfl⟩)
          go_wp2
          go_region
          go_wp2_with (go_at_call 16; refine cF.mono ?_; rintro e W6 ⟨J2, rfl, HJ2, hj6, hf6⟩; have e4 : (W6.alloc (.cells #[.bool true, .string s, .int .i64 0, .bool false] 40)).cell? ⟨q, 4, none⟩ = some (.string s) := cell?_alloc_some _ (cell_of ((hf6.block q (by have := (Array.getElem?_eq_some_iff.1 k3).1; omega)).trans hbx)))
          exact ⟨⟨i + 1, J2, by push_cast; rfl, by omega, HJ2, hj6.below ((Below.refl _ _).alloc (Nat.le_refl _) _), ((hF.drew.trans hf6).alloc hj6.hS _)⟩, hmeas⟩
    · have hge' : ¬ ((i : Nat) : Int) < ((L : Nat) : Int) := by omega
      have hend : Below W0.heap.size W0 wr := g3.trans (hF.below fun k hk hs => by have := g3.size; omega)
      rw [hq] at hend
      go_wp2
      go_ret
      exact ⟨rfl, by first | exact hend | (rw [hq]; exact hend)⟩
end Go.Am.Joi
