/-
  Joiner: PacketJoins, walked. Own work; printed by gen/mkjv.py.
-/
import Derived.Test.YtbpfhjmiaaaoiaaJoiV
namespace Go.Am.Joi
open Go Go.Am Go.Am.Lib Go.Lib Go.Proofs Go.RowKit
open Go.Am.Own
open Go.Am.Pkt (G0)
set_option maxRecDepth 100000
variable {W0 w w' : World} {jb rb zb N : Nat} {J : Js} {L : List Rn}
theorem keepB {k : Nat} {x : Obj} (b : Below w.heap.size w w') (h : w.heap[k]? = some x) : w'.heap[k]? = some x := (b.block k (Array.getElem?_eq_some_iff.1 h).1).trans h
theorem keepA {k : Nat} {x : Obj} (o : Obj) (h : w.heap[k]? = some x) : (w.alloc o).heap[k]? = some x := keepB ((Below.refl _ w).alloc (Nat.le_refl _) o) h
/-- The reference's Feed behind a block that has just been made. -/
theorem wp_rfeed_kept {J' : Js} (h : Wp W0 jb rb zb N J' L w) (o : Obj) (hR : Rel J L) (hL : L.length ≤ 1000000) (c : Bool) (a f n : Int) (d : ByteArray) :
    Calls Try.prog 17 #[.pointer (some ⟨rb, 0, none⟩), .agg #[.bool c, .int .i64 a, .int .i64 f, .int .i64 n, .string d]] (w.alloc o) fun e w' => e = .returned (.tuple #[ansV (feedA J a f n d), .int .i64 (feedE a f n d)]) ∧ ∃ L', Rel (feedJ J a f n d) L' ∧ L'.length ≤ L.length + 1 ∧ Wp W0 jb rb zb N J' L' w' ∧ w'.heap[w.heap.size]? = some o := by
  have hsz := alloc_size w o
  have hnew := heap_alloc_new w o
  have ha := (Below.refl w.heap.size w).alloc (Nat.le_refl _) o
  have h' := h.alloc o
  obtain ⟨S1, S2, h1, h2, h3, h4⟩ := h.ex
  have g1 := h1.shrink (w' := w.alloc o) fun k _ hk => ha.block k hk
  have g2 := h2.shrinkF (w' := w.alloc o) fun k _ hk => ha.block k hk
  have hz := h.zlt
  have hfs := h.fr.size
  have g3 : ∀ k, k < (w.alloc o).heap.size → ShS S1 w.heap.size (w.alloc o).heap.size k → W0.heap.size ≤ k ∧ k ≠ zb ∧ ¬ ShS S2 w.heap.size (w.alloc o).heap.size k := fun k hk e => by
    obtain ⟨e1, e2⟩ := e.old hk
    obtain ⟨a1, a2, a3⟩ := h3 k e2 e1
    exact ⟨a1, a2, fun e' => a3 (e'.old hk).1⟩
  have g4 : ∀ k, k < (w.alloc o).heap.size → ShS S2 w.heap.size (w.alloc o).heap.size k → W0.heap.size ≤ k ∧ k ≠ zb ∧ k ≠ w.heap.size := fun k hk e => by
    obtain ⟨e1, e2⟩ := e.old hk
    obtain ⟨a1, a2⟩ := h4 k e2 e1
    exact ⟨a1, a2, by omega⟩
  refine (rfeed_any g2 hR hL c a f n d).mono fun e w' ⟨q1, L', q2, q3, q4, q5⟩ => ⟨q1, L', q2, q3, ?_, (q5.block w.heap.size fun e => (g4 w.heap.size (by omega) e).2.2 rfl).trans hnew⟩
  refine ⟨h'.fr.trans (q5.below fun k hk e => by have := (g4 k (by omega) e).1; omega), ⟨_, _, g1.shrink (w' := w') fun k e hk => q5.block k fun e' => (g3 k hk e).2.2 e', q4, fun k hk e => ?_, fun k hk e => ?_⟩, (q5.block zb fun e => (g4 zb (by omega) e).2.1 rfl).trans h'.z⟩
  · obtain ⟨e1, e2⟩ := e.old hk
    exact g3 k e2 e1
  · by_cases hlt : k < (w.alloc o).heap.size
    · exact ⟨(g4 k hlt e).1, (g4 k hlt e).2.1⟩
    · exact ⟨by omega, by omega⟩
def PkAt (w : World) (x : Addr) (c : Bool) (a f k : Int) (d : ByteArray) : Prop :=
  w.cell? x = some (.bool c) ∧ w.cell? ⟨x.block, x.off + 1, none⟩ = some (.int .i64 a) ∧ w.cell? ⟨x.block, x.off + 2, none⟩ = some (.int .i64 f) ∧ w.cell? ⟨x.block, x.off + 3, none⟩ = some (.int .i64 k) ∧ w.cell? ⟨x.block, x.off + 4, none⟩ = some (.string d)
theorem PkAt.keep {x : Addr} {c : Bool} {a f k : Int} {d : ByteArray} (h : PkAt W0 x c a f k d) (hb : Below W0.heap.size W0 w) (hx : x.block < W0.heap.size) : PkAt w x c a f k d := by
  have hbk := hb.block x.block hx
  exact ⟨(World.cell?_of_block hbk).trans h.1, (World.cell?_of_block (a := ⟨x.block, x.off + 1, none⟩) hbk).trans h.2.1, (World.cell?_of_block (a := ⟨x.block, x.off + 2, none⟩) hbk).trans h.2.2.1, (World.cell?_of_block (a := ⟨x.block, x.off + 3, none⟩) hbk).trans h.2.2.2.1, (World.cell?_of_block (a := ⟨x.block, x.off + 4, none⟩) hbk).trans h.2.2.2.2⟩
set_option maxHeartbeats 3200000 in
theorem joins_many (ao : Option Addr) (n cap : Nat) (h : 300 < n) :
    Calls Try.prog 4 #[.slice ao n cap] W0 fun e w' => e = .returned (.bool true) ∧ Below W0.heap.size W0 w' := by
  have hS := shown_calls W0
  have h' : (300 : Int) < ((n : Nat) : Int) := by omega
  go_enter Try.func4, Try.ntmps4
  go_wp2_with (go_at_call 10; refine hS.mono ?_; clear hS; rintro e W2 ⟨rfl, b2⟩)
  go_ret
  exact ⟨rfl, b2⟩
set_option maxHeartbeats 6400000 in
theorem joins_few (ao : Option Addr) (n cap : Nat) (hps : PksIn W0 ao n) (h : n ≤ 300) :
    Calls Try.prog 4 #[.slice ao n cap] W0 fun e w' => e = .returned (.bool true) ∧ Below W0.heap.size W0 w' := by
  have hS := shown_calls W0
  have h' : ¬ (300 : Int) < ((n : Nat) : Int) := by omega
  have HPS := Lib.hid hps
  clear hps
  go_enter Try.func4, Try.ntmps4
  go_wp2_with (first
    | (go_at_call 10; refine hS.mono ?_; clear hS; rintro e W2 ⟨rfl, b2⟩)
    | (go_at_call 15; refine (new_at _).mono ?_; rintro e W4 ⟨jb, rfl, hj0, b4, hjb⟩; have hW := Wp.first b2 hj0 b4))
  have hsz4 : (W4.alloc (.cells #[.slice none 0 0] 35)).heap.size = W4.heap.size + 1 := alloc_size _ _
  obtain ⟨rb, hrb⟩ : ∃ r, W4.heap.size = r := ⟨_, rfl⟩
  obtain ⟨zb, hzb⟩ : ∃ z, rb + 1 = z := ⟨_, rfl⟩
  obtain ⟨W6, hW6⟩ : ∃ W, (W4.alloc (.cells #[.slice none 0 0] 35)).alloc (.cells #[.map none] 38) = W := ⟨_, rfl⟩
  rw [hW6, hrb, hzb] at hW
  simp only [hrb, hzb, hW6]
  clear hj0 b4 b2 hjb hsz4 hrb hzb hW6
  go_loopw [7] (fun iv wq => ∃ (i N : Nat) (J : Js) (L : List Rn), iv = .int .i64 (i : Nat) ∧ i ≤ n ∧ N ≤ i ∧ L.length ≤ i ∧ Hid (Rel J L) ∧ Wp W0 jb rb zb N J L wq)
    (fun iv _ => n - iOf iv)
  case atStart => exact ⟨0, 0, js0, [], rfl, Nat.zero_le _, Nat.le_refl _, Nat.le_refl _, Rel.zero, hW⟩
  case round =>
    clear hW
    obtain ⟨i, N, J, L, rfl, hi, hN, hL, hR, hW⟩ := hrel
    rcases Nat.lt_or_ge i n with hlt | hge
    · have hlt' : ((i : Nat) : Int) < ((n : Nat) : Int) := by omega
      obtain ⟨x, c, a, f, k, d, rfl, p0, p1, p2, p3, p4, hxb⟩ := HPS.out i hlt
      obtain ⟨xi, hxi⟩ : ∃ xi, x.add (i * 5) = xi := ⟨_, rfl⟩
      rw [hxi] at p0 p1 p2 p3 p4 hxb
      have HP := Lib.hid (show PkAt W0 xi c a f k d from ⟨p0, p1, p2, p3, p4⟩)
      clear p0 p1 p2 p3 p4
      obtain ⟨p0_0, p0_1, p0_2, p0_3, p0_4⟩ := HP.out.keep hW.fr hxb
      by_cases hd : 2000 < d.size
      · have hd' : (2000 : Int) < ((d.size : Nat) : Int) := by omega
        have hB := hW.fr
        clear hW
        go_wp2
        go_ret
        exact ⟨rfl, hB⟩
      · have hd' : ¬ (2000 : Int) < ((d.size : Nat) : Int) := by omega
        have c1 := wp_feed hW (by unfold maxLen; omega) c a f k d
        have c2 := fun w (hw : Wp W0 jb rb zb (N + 1) (feedJ J a f k d) L w) o => wp_rfeed_kept hw o hR.out (by omega) c a f k d
        obtain ⟨⟨wh, ms, mi, br⟩, hA⟩ : ∃ A, feedA J a f k d = A := ⟨_, rfl⟩
        obtain ⟨er, her⟩ : ∃ E, feedE a f k d = E := ⟨_, rfl⟩
        obtain ⟨J2, hJ2⟩ : ∃ E, feedJ J a f k d = E := ⟨_, rfl⟩
        simp only [hA, her, hJ2] at c1 c2
        unfold ansV at c1 c2
        simp only at c1 c2
        have C2 := Lib.hid c2
        have hmeas : n - (i + 1) < n - i := by omega
        clear c2 hA her hJ2 hR hW
        go_wp2_with (first
          | (go_at_call 16; refine c1.mono ?_; clear c1; rintro e V1 ⟨rfl, hW1⟩; have hW2 := hW1.alloc (.cells #[.bool wh, .string ms, .int .i64 ((mi : Nat) : Int), .bool br] 40); have c2 := C2.out V1 hW1 (.cells #[.bool wh, .string ms, .int .i64 ((mi : Nat) : Int), .bool br] 40); obtain ⟨t1, ht1⟩ : ∃ t, V1.heap.size = t := ⟨_, rfl⟩; obtain ⟨V2, hV2⟩ : ∃ V, V1.alloc (.cells #[.bool wh, .string ms, .int .i64 ((mi : Nat) : Int), .bool br] 40) = V := ⟨_, rfl⟩; rw [hV2, ht1] at c2; rw [hV2] at hW2; clear p0_0 p0_1 p0_2 p0_3 p0_4; obtain ⟨p1_0, p1_1, p1_2, p1_3, p1_4⟩ := HP.out.keep hW2.fr hxb; clear hW1 hW2)
          | (go_at_call 17; refine c2.mono ?_; clear c2; rintro e V3 ⟨rfl, L2, hR2, hL2, hW3, k1⟩; have hW4 := hW3.alloc (.cells #[.bool wh, .string ms, .int .i64 ((mi : Nat) : Int), .bool br] 40); have k2 := keepA (.cells #[.bool wh, .string ms, .int .i64 ((mi : Nat) : Int), .bool br] 40) k1; have j2 := heap_alloc_new V3 (.cells #[.bool wh, .string ms, .int .i64 ((mi : Nat) : Int), .bool br] 40); obtain ⟨t2, ht2⟩ : ∃ t, V3.heap.size = t := ⟨_, rfl⟩; obtain ⟨V4, hV4⟩ : ∃ V, V3.alloc (.cells #[.bool wh, .string ms, .int .i64 ((mi : Nat) : Int), .bool br] 40) = V := ⟨_, rfl⟩; rw [hV4] at hW4 k2 j2; rw [ht2] at j2; have HR2 := Lib.hid hR2; have c3 := wp_nfeed c a f k d V4; clear p1_0 p1_1 p1_2 p1_3 p1_4; obtain ⟨p2_0, p2_1, p2_2, p2_3, p2_4⟩ := HP.out.keep hW4.fr hxb; clear hW3 k1 hR2)
          | (go_at_call 16; refine c3.mono ?_; clear c3; rintro e V5 ⟨rfl, b5⟩; have hW5 := hW4.below b5; have hW6 := hW5.alloc (.cells #[.bool false, .string ⟨#[]⟩, .int .i64 0, .bool false] 40); have k3 := keepA (.cells #[.bool false, .string ⟨#[]⟩, .int .i64 0, .bool false] 40) (keepB b5 k2); have j3 := keepA (.cells #[.bool false, .string ⟨#[]⟩, .int .i64 0, .bool false] 40) (keepB b5 j2); have l3 := heap_alloc_new V5 (.cells #[.bool false, .string ⟨#[]⟩, .int .i64 0, .bool false] 40); obtain ⟨t3, ht3⟩ : ∃ t, V5.heap.size = t := ⟨_, rfl⟩; rw [ht3] at l3; have c4 := wp_zfeed hW6 c a f k d; clear p2_0 p2_1 p2_2 p2_3 p2_4; obtain ⟨p3_0, p3_1, p3_2, p3_3, p3_4⟩ := HP.out.keep hW6.fr hxb; clear hW4 hW5 b5 k2 j2)
          | (go_at_call 16; refine c4.mono ?_; clear c4; rintro e V7 ⟨rfl, b7⟩; have hW7 := hW6.below b7; have hW8 := hW7.alloc (.cells #[.bool false, .string ⟨#[]⟩, .int .i64 0, .bool false] 40); have k4 := keepA (.cells #[.bool false, .string ⟨#[]⟩, .int .i64 0, .bool false] 40) (keepB b7 k3); have j4 := keepA (.cells #[.bool false, .string ⟨#[]⟩, .int .i64 0, .bool false] 40) (keepB b7 j3); have l4 := keepA (.cells #[.bool false, .string ⟨#[]⟩, .int .i64 0, .bool false] 40) (keepB b7 l3); have m4 := heap_alloc_new V7 (.cells #[.bool false, .string ⟨#[]⟩, .int .i64 0, .bool false] 40); obtain ⟨t4, ht4⟩ : ∃ t, V7.heap.size = t := ⟨_, rfl⟩; rw [ht4] at m4; have c5 := wp_open hW8 HR2.out (by omega); have fk0 : (V7.alloc (.cells #[.bool false, .string ⟨#[]⟩, .int .i64 0, .bool false] 40)).cell? ⟨t1, 0, none⟩ = some (.bool wh) := cell_of k4; have fk1 : (V7.alloc (.cells #[.bool false, .string ⟨#[]⟩, .int .i64 0, .bool false] 40)).cell? ⟨t1, 1, none⟩ = some (.string ms) := cell_of k4; have fk2 : (V7.alloc (.cells #[.bool false, .string ⟨#[]⟩, .int .i64 0, .bool false] 40)).cell? ⟨t1, 2, none⟩ = some (.int .i64 ((mi : Nat) : Int)) := cell_of k4; have fk3 : (V7.alloc (.cells #[.bool false, .string ⟨#[]⟩, .int .i64 0, .bool false] 40)).cell? ⟨t1, 3, none⟩ = some (.bool br) := cell_of k4; have fj0 : (V7.alloc (.cells #[.bool false, .string ⟨#[]⟩, .int .i64 0, .bool false] 40)).cell? ⟨t2, 0, none⟩ = some (.bool wh) := cell_of j4; have fj1 : (V7.alloc (.cells #[.bool false, .string ⟨#[]⟩, .int .i64 0, .bool false] 40)).cell? ⟨t2, 1, none⟩ = some (.string ms) := cell_of j4; have fj2 : (V7.alloc (.cells #[.bool false, .string ⟨#[]⟩, .int .i64 0, .bool false] 40)).cell? ⟨t2, 2, none⟩ = some (.int .i64 ((mi : Nat) : Int)) := cell_of j4; have fj3 : (V7.alloc (.cells #[.bool false, .string ⟨#[]⟩, .int .i64 0, .bool false] 40)).cell? ⟨t2, 3, none⟩ = some (.bool br) := cell_of j4; clear p3_0 p3_1 p3_2 p3_3 p3_4; clear hW6 hW7 b7 k3 j3 l3)
          | (go_at_call 18; refine c5.mono ?_; clear c5; rintro e V9 ⟨rfl, b9⟩; have hW9 := hW8.below b9; have l9 := keepB b9 l4; have m9 := keepB b9 m4; have c6 := wp_ropen hW9 (by omega); clear hW8 l4 m4 b9)
          | (go_at_call 19; refine c6.mono ?_; clear c6; rintro e V10 ⟨rfl, b10⟩; have hW10 := hW9.below b10; have l10 := keepB b10 l9; have m10 := keepB b10 m9; have fl0 : V10.cell? ⟨t3, 0, none⟩ = some (.bool false) := cell_of l10; have fl1 : V10.cell? ⟨t3, 1, none⟩ = some (.string ⟨#[]⟩) := cell_of l10; have fl2 : V10.cell? ⟨t3, 2, none⟩ = some (.int .i64 0) := cell_of l10; have fl3 : V10.cell? ⟨t3, 3, none⟩ = some (.bool false) := cell_of l10; have fm0 : V10.cell? ⟨t4, 0, none⟩ = some (.bool false) := cell_of m10; have fm1 : V10.cell? ⟨t4, 1, none⟩ = some (.string ⟨#[]⟩) := cell_of m10; have fm2 : V10.cell? ⟨t4, 2, none⟩ = some (.int .i64 0) := cell_of m10; have fm3 : V10.cell? ⟨t4, 3, none⟩ = some (.bool false) := cell_of m10; clear hW9 l9 m9 b10))
        exact ⟨⟨i + 1, N + 1, J2, L2, by push_cast; rfl, hlt, by omega, by omega, HR2.out, hW10⟩, hmeas⟩
    · have hge' : ¬ ((i : Nat) : Int) < ((n : Nat) : Int) := by omega
      have c1 := wp_nopen wr
      go_wp2_with (first
        | (go_at_call 18; refine c1.mono ?_; clear c1; rintro e V1 ⟨rfl, b1⟩; have hW1 := hW.below b1; have c2 := wp_zopen hW1)
        | (go_at_call 18; refine c2.mono ?_; clear c2; rintro e V2 ⟨rfl, b2⟩; have hW2 := hW1.below b2))
      go_ret
      exact ⟨rfl, hW2.fr⟩
theorem joins_walk (ao : Option Addr) (n cap : Nat) (hps : PksIn W0 ao n) :
    Calls Try.prog 4 #[.slice ao n cap] W0 fun e w' => e = .returned (.bool true) ∧ Below W0.heap.size W0 w' := by
  rcases Nat.lt_or_ge 300 n with h | h
  · exact joins_many ao n cap h
  · exact joins_few ao n cap hps h
end Go.Am.Joi
