/-
  Joiner: the reference's Feed, walked (a message goes on). Own work; printed by gen/mkrfeed.py.
-/
import Derived.Test.YtbpfhjmiaaaoiaaJoiT
namespace Go.Am.Joi
open Go Go.Am Go.Am.Lib Go.Lib Go.Proofs Go.RowKit
open Go.Am.Own
open Go.Am.Pkt (G0)
set_option maxRecDepth 100000

variable {S : Nat → Prop} {b : Nat} {L L1 : List Rn} {w : World}
set_option maxHeartbeats 6400000 in
theorem rf_op_0f (h : RAt S b L w) (hS : ∀ k, w.heap.size ≤ k → S k) (hSb : S b) (c : Bool) {a f n i : Nat} {d : ByteArray} {x : Rn} (hv : Pkt.validB a f n d = true) (ha : a < 2047)
    (hat : ∀ (S' : Nat → Prop) w1, RAt S' b L w1 → Calls Try.prog 35 #[.pointer (some ⟨b, 0, none⟩), .int .i64 ((a : Nat) : Int)] w1 fun e w' => e = .returned (.tuple #[.int .i64 ((i : Nat) : Int), .bool false]) ∧ RAt S' b L1 w' ∧ FrS S' w1 w')
    (hx : L1[i]? = some x) (hxa : x.ap = a) (hxn : x.next < 16384) (hxt : x.opn = true → x.txt.size ≤ 16384) (hn1 : L1.length ≤ 1000001) (hop : x.opn = true) {mi : Nat} (hmi : mi = (n + (16384 - x.next)) % 16384) (hm0 : mi = 0) (hf : f = 0) (hfit : x.txt.size + d.size ≤ 16384) :
    Calls Try.prog 17 #[.pointer (some ⟨b, 0, none⟩), .agg #[.bool c, .int .i64 ((a : Nat) : Int), .int .i64 ((f : Nat) : Int), .int .i64 ((n : Nat) : Int), .string d]] w fun e w' => e = .returned (.tuple #[.agg #[.bool false, .string ⟨#[]⟩, .int .i64 ((mi : Nat) : Int), .bool false], .int .i64 0]) ∧ RAt S b (L1.set i ⟨a, (n + 1) % 16384, true, (x.txt ++ d)⟩) w' ∧ FrS S w w' := by
  have hvb := Pkt.validB_iff.1 hv
  have hnb : n ≤ 16383 := by omega
  have hdb : d.size ≤ 1024 := by omega
  have hil := (List.getElem?_eq_some_iff.1 hx).1
  obtain ⟨xa, nx0, op0, tx⟩ := x
  replace hxa : xa = a := hxa
  replace hop : op0 = true := hop
  replace hxn : nx0 < 16384 := hxn
  subst hop
  have htl : tx.size ≤ 16384 := hxt rfl
  replace hmi : mi = (n + (16384 - nx0)) % 16384 := hmi
  have hmb : ((((n : Nat) : Int) - ((nx0 : Nat) : Int)) + 16384) % 16384 = ((mi : Nat) : Int) := by rw [hmi]; omega
  have hmt : ((((n : Nat) : Int) - ((nx0 : Nat) : Int)) + 16384).tmod 16384 = ((mi : Nat) : Int) := by rw [Int.tmod_eq_emod_of_nonneg (by omega)]; exact hmb
  have hmil : mi ≤ 16383 := by omega
  have hm1 : (((mi : Nat) : Int) != 0) = false := by rw [hm0]; rfl
  have hf3 : (((f : Nat) : Int) == 3) = false := by rw [hf]; rfl
  have hf1 : (((f : Nat) : Int) == 1) = false := by rw [hf]; rfl
  have hf2 : (((f : Nat) : Int) == 2) = false := by rw [hf]; rfl
  obtain ⟨nx, hnx⟩ : ∃ k, (n + 1) % 16384 = k := ⟨_, rfl⟩
  have hnxl : nx < 16384 := by omega
  have hnb2 : (((n : Nat) : Int) + 1) % 16384 = ((nx : Nat) : Int) := by omega
  have hnt2 : (((n : Nat) : Int) + 1).tmod 16384 = ((nx : Nat) : Int) := by rw [Int.tmod_eq_emod_of_nonneg (by omega)]; exact hnb2
  replace hfit : tx.size + d.size ≤ 16384 := hfit
  have hfl : ¬ (16384 : Int) < (((tx.size : Nat) : Int) + ((d.size : Nat) : Int)) := by omega
  have hfl2 : ¬ (16384 : Int) < (((tx ++ d).size : Nat) : Int) := by rw [ByteArray.size_append]; push_cast; omega
  have hcc : tx.size + d.size ≤ 9223372036854775807 := by omega
  have hb0 := (Below.refl w.heap.size w).alloc (Nat.le_refl _) (pkO c a f n d)
  have hb1 := hb0.alloc (by rw [alloc_size]; omega) (pcO false ⟨#[]⟩ 0 false)
  obtain ⟨W1, hW1⟩ : ∃ W, (w.alloc (pkO c a f n d)).alloc (pcO false ⟨#[]⟩ 0 false) = W := ⟨_, rfl⟩
  have c3 : W1.heap[w.heap.size]? = some (pkO c a f n d) := by rw [← hW1]; exact ((World.grownBy_alloc _ _ none).block _ (by rw [alloc_size]; omega) (by simp)).trans (heap_alloc_new w _)
  have c4 : W1.heap[w.heap.size + 1]? = some (pcO false ⟨#[]⟩ 0 false) := by
    rw [← hW1, ← alloc_size w (pkO c a f n d)]; exact heap_alloc_new _ _
  have sz1 : W1.heap.size = w.heap.size + 2 := by rw [← hW1, alloc_size, alloc_size]
  rw [hW1] at hb1
  have cV := rvalid_calls c ((a : Nat) : Int) ((f : Nat) : Int) ((n : Nat) : Int) d W1
  rw [hv] at cV
  have hne : (((a : Nat) : Int) == 2047) = false := by simp; omega
  obtain ⟨F, hF⟩ : ∃ F, w.heap.size = F := ⟨_, rfl⟩
  obtain ⟨m, hm⟩ : ∃ m, L1.length = m := ⟨_, rfl⟩
  obtain ⟨oi, hoi⟩ : ∃ k, i * 4 = k := ⟨_, rfl⟩
  have hil' : ((i : Nat) : Int) < ((m : Nat) : Int) := by omega
  have hil2 : i < m := by omega
  have hmb2 : m ≤ 1000001 := by omega
  have p0 : W1.cell? ⟨F, 0, none⟩ = some (.bool c) := by rw [← hF]; exact cell_of c3
  have p1 : W1.cell? ⟨F, 1, none⟩ = some (.int .i64 ((a : Nat) : Int)) := by rw [← hF]; exact cell_of c3
  have p2 : W1.cell? ⟨F, 2, none⟩ = some (.int .i64 ((f : Nat) : Int)) := by rw [← hF]; exact cell_of c3
  have p3 : W1.cell? ⟨F, 3, none⟩ = some (.int .i64 ((n : Nat) : Int)) := by rw [← hF]; exact cell_of c3
  have p4 : W1.cell? ⟨F, 4, none⟩ = some (.string d) := by rw [← hF]; exact cell_of c3
  have CA := Lib.hid (fun W2 (hb : Below w.heap.size w W2) => hat (ShR S w.heap.size W2.heap.size) W2 (h.shrink hb))
  have HX := Lib.hid (And.intro hx (And.intro hnx (And.intro hxa hS)))
  clear hv hnx hb0 hvb hat h hx hxt hn1 hil hxa hS hmi hm0 hf hfit
  go_enter Try.func17, Try.ntmps17
  go_wp2_with (first
    | (go_at_call 14; refine cV.mono ?_; clear cV; rintro e W2 ⟨rfl, b2⟩; have g2 := hb1.trans (b2.mono hb1.size); have d3 := (b2.block w.heap.size (by omega)).trans c3; have d4 := (b2.block (w.heap.size + 1) (by omega)).trans c4; have r1 : W2.cell? ⟨F, 1, none⟩ = some (.int .i64 ((a : Nat) : Int)) := (by rw [← hF]; exact cell_of d3); clear p0 p1 p2 p3 p4 c3 c4 b2)
    | (go_at_call 35; refine (CA.out W2 g2).mono ?_; clear CA; rintro e W3 ⟨rfl, ⟨v3, h3⟩, f3⟩; obtain ⟨ao, cp, rfl⟩ := ownsRow_slice h3.row; obtain ⟨g, rfl, _, hL⟩ := Lr.start (q0 := .bool false) (q1 := .string ⟨#[]⟩) (q2 := .int .i64 0) (q3 := .bool false) h3 HX.out.2.2.2 g2 f3 d3 d4 HX.out.1; have s0 : W3.cell? ⟨b, 0, none⟩ = some (.slice (some ⟨g, 0, none⟩) m cp) := (by rw [← hm]; exact cell_of h3.cell); have hbd := Lib.hid h3.bd; obtain ⟨q, hq⟩ : ∃ q, W3.heap.size = q := ⟨_, rfl⟩; obtain ⟨W4, hW4⟩ : ∃ W, W3.alloc (.cells #[.bool false, .string ⟨#[]⟩, .int .i64 0, .bool false] 40) = W := ⟨_, rfl⟩; rw [hF, hoi, hm, hq, hW4] at hL; obtain ⟨e0, e1, e2, e3, e4, t0, t1, t2, t3, u0, u1, u2, u3, y1, y2, y3⟩ := hL.cells (by omega); obtain ⟨z1, z2, z3⟩ := hL.fz; obtain ⟨n1, n2, n3, n4, n5⟩ := hL.gne; have n6 := hL.gF; have n7 := hL.bF; have n8 := hL.hFq; have HL := Lib.hid hL; clear hL h3 f3 d3 d4 g2 r1))
  go_region
  go_wp2
  go_region
  go_wp2
  refine bodyPost_ret (v := .tuple #[.agg #[.bool false, .string ⟨#[]⟩, .int .i64 ((mi : Nat) : Int), .bool false], .int .i64 0]) ?_ rfl ⟨rfl, ?_⟩
  · simp [results, Try.results17, go_sem, t0, t1, t2, t3]
  · obtain ⟨hx, hnx, hxa, hS⟩ := HX.out
    have hL := HL.out
    rw [← hm, ← hoi] at hL
    rw [hnx, ← hxa]
    rw [← hoi]
    refine Lr.fin (x' := ⟨xa, nx, true, (tx ++ d)⟩) ((Lr.drew (Lr.drew (Lr.f3 (v := .bool false) (Lr.f2 (v := .int .i64 ((mi : Nat) : Int)) (Lr.f1 (v := .string ⟨#[]⟩) (Lr.f0 (v := .bool false) (Lr.r3 (v := .string (tx ++ d)) (Lr.r1 (v := .int .i64 ((nx : Nat) : Int)) (Lr.p2 (v := .int .i64 ((mi : Nat) : Int)) hL)))))))))) hx hSb rfl hbd.out hnxl fun e => ?_
    show ByteArray.size (tx ++ d) ≤ 16384; rw [ByteArray.size_append]; omega
set_option maxHeartbeats 6400000 in
theorem rf_op_2f (h : RAt S b L w) (hS : ∀ k, w.heap.size ≤ k → S k) (hSb : S b) (c : Bool) {a f n i : Nat} {d : ByteArray} {x : Rn} (hv : Pkt.validB a f n d = true) (ha : a < 2047)
    (hat : ∀ (S' : Nat → Prop) w1, RAt S' b L w1 → Calls Try.prog 35 #[.pointer (some ⟨b, 0, none⟩), .int .i64 ((a : Nat) : Int)] w1 fun e w' => e = .returned (.tuple #[.int .i64 ((i : Nat) : Int), .bool false]) ∧ RAt S' b L1 w' ∧ FrS S' w1 w')
    (hx : L1[i]? = some x) (hxa : x.ap = a) (hxn : x.next < 16384) (hxt : x.opn = true → x.txt.size ≤ 16384) (hn1 : L1.length ≤ 1000001) (hop : x.opn = true) {mi : Nat} (hmi : mi = (n + (16384 - x.next)) % 16384) (hm0 : mi = 0) (hf : f = 2) (hfit : x.txt.size + d.size ≤ 16384) :
    Calls Try.prog 17 #[.pointer (some ⟨b, 0, none⟩), .agg #[.bool c, .int .i64 ((a : Nat) : Int), .int .i64 ((f : Nat) : Int), .int .i64 ((n : Nat) : Int), .string d]] w fun e w' => e = .returned (.tuple #[.agg #[.bool true, .string (x.txt ++ d), .int .i64 ((mi : Nat) : Int), .bool false], .int .i64 0]) ∧ RAt S b (L1.set i ⟨a, (n + 1) % 16384, false, (x.txt ++ d)⟩) w' ∧ FrS S w w' := by
  have hvb := Pkt.validB_iff.1 hv
  have hnb : n ≤ 16383 := by omega
  have hdb : d.size ≤ 1024 := by omega
  have hil := (List.getElem?_eq_some_iff.1 hx).1
  obtain ⟨xa, nx0, op0, tx⟩ := x
  replace hxa : xa = a := hxa
  replace hop : op0 = true := hop
  replace hxn : nx0 < 16384 := hxn
  subst hop
  have htl : tx.size ≤ 16384 := hxt rfl
  replace hmi : mi = (n + (16384 - nx0)) % 16384 := hmi
  have hmb : ((((n : Nat) : Int) - ((nx0 : Nat) : Int)) + 16384) % 16384 = ((mi : Nat) : Int) := by rw [hmi]; omega
  have hmt : ((((n : Nat) : Int) - ((nx0 : Nat) : Int)) + 16384).tmod 16384 = ((mi : Nat) : Int) := by rw [Int.tmod_eq_emod_of_nonneg (by omega)]; exact hmb
  have hmil : mi ≤ 16383 := by omega
  have hm1 : (((mi : Nat) : Int) != 0) = false := by rw [hm0]; rfl
  have hf3 : (((f : Nat) : Int) == 3) = false := by rw [hf]; rfl
  have hf1 : (((f : Nat) : Int) == 1) = false := by rw [hf]; rfl
  have hf2 : (((f : Nat) : Int) == 2) = true := by rw [hf]; rfl
  obtain ⟨nx, hnx⟩ : ∃ k, (n + 1) % 16384 = k := ⟨_, rfl⟩
  have hnxl : nx < 16384 := by omega
  have hnb2 : (((n : Nat) : Int) + 1) % 16384 = ((nx : Nat) : Int) := by omega
  have hnt2 : (((n : Nat) : Int) + 1).tmod 16384 = ((nx : Nat) : Int) := by rw [Int.tmod_eq_emod_of_nonneg (by omega)]; exact hnb2
  replace hfit : tx.size + d.size ≤ 16384 := hfit
  have hfl : ¬ (16384 : Int) < (((tx.size : Nat) : Int) + ((d.size : Nat) : Int)) := by omega
  have hfl2 : ¬ (16384 : Int) < (((tx ++ d).size : Nat) : Int) := by rw [ByteArray.size_append]; push_cast; omega
  have hcc : tx.size + d.size ≤ 9223372036854775807 := by omega
  have hb0 := (Below.refl w.heap.size w).alloc (Nat.le_refl _) (pkO c a f n d)
  have hb1 := hb0.alloc (by rw [alloc_size]; omega) (pcO false ⟨#[]⟩ 0 false)
  obtain ⟨W1, hW1⟩ : ∃ W, (w.alloc (pkO c a f n d)).alloc (pcO false ⟨#[]⟩ 0 false) = W := ⟨_, rfl⟩
  have c3 : W1.heap[w.heap.size]? = some (pkO c a f n d) := by rw [← hW1]; exact ((World.grownBy_alloc _ _ none).block _ (by rw [alloc_size]; omega) (by simp)).trans (heap_alloc_new w _)
  have c4 : W1.heap[w.heap.size + 1]? = some (pcO false ⟨#[]⟩ 0 false) := by
    rw [← hW1, ← alloc_size w (pkO c a f n d)]; exact heap_alloc_new _ _
  have sz1 : W1.heap.size = w.heap.size + 2 := by rw [← hW1, alloc_size, alloc_size]
  rw [hW1] at hb1
  have cV := rvalid_calls c ((a : Nat) : Int) ((f : Nat) : Int) ((n : Nat) : Int) d W1
  rw [hv] at cV
  have hne : (((a : Nat) : Int) == 2047) = false := by simp; omega
  obtain ⟨F, hF⟩ : ∃ F, w.heap.size = F := ⟨_, rfl⟩
  obtain ⟨m, hm⟩ : ∃ m, L1.length = m := ⟨_, rfl⟩
  obtain ⟨oi, hoi⟩ : ∃ k, i * 4 = k := ⟨_, rfl⟩
  have hil' : ((i : Nat) : Int) < ((m : Nat) : Int) := by omega
  have hil2 : i < m := by omega
  have hmb2 : m ≤ 1000001 := by omega
  have p0 : W1.cell? ⟨F, 0, none⟩ = some (.bool c) := by rw [← hF]; exact cell_of c3
  have p1 : W1.cell? ⟨F, 1, none⟩ = some (.int .i64 ((a : Nat) : Int)) := by rw [← hF]; exact cell_of c3
  have p2 : W1.cell? ⟨F, 2, none⟩ = some (.int .i64 ((f : Nat) : Int)) := by rw [← hF]; exact cell_of c3
  have p3 : W1.cell? ⟨F, 3, none⟩ = some (.int .i64 ((n : Nat) : Int)) := by rw [← hF]; exact cell_of c3
  have p4 : W1.cell? ⟨F, 4, none⟩ = some (.string d) := by rw [← hF]; exact cell_of c3
  have CA := Lib.hid (fun W2 (hb : Below w.heap.size w W2) => hat (ShR S w.heap.size W2.heap.size) W2 (h.shrink hb))
  have HX := Lib.hid (And.intro hx (And.intro hnx (And.intro hxa hS)))
  clear hv hnx hb0 hvb hat h hx hxt hn1 hil hxa hS hmi hm0 hf hfit
  go_enter Try.func17, Try.ntmps17
  go_wp2_with (first
    | (go_at_call 14; refine cV.mono ?_; clear cV; rintro e W2 ⟨rfl, b2⟩; have g2 := hb1.trans (b2.mono hb1.size); have d3 := (b2.block w.heap.size (by omega)).trans c3; have d4 := (b2.block (w.heap.size + 1) (by omega)).trans c4; have r1 : W2.cell? ⟨F, 1, none⟩ = some (.int .i64 ((a : Nat) : Int)) := (by rw [← hF]; exact cell_of d3); clear p0 p1 p2 p3 p4 c3 c4 b2)
    | (go_at_call 35; refine (CA.out W2 g2).mono ?_; clear CA; rintro e W3 ⟨rfl, ⟨v3, h3⟩, f3⟩; obtain ⟨ao, cp, rfl⟩ := ownsRow_slice h3.row; obtain ⟨g, rfl, _, hL⟩ := Lr.start (q0 := .bool false) (q1 := .string ⟨#[]⟩) (q2 := .int .i64 0) (q3 := .bool false) h3 HX.out.2.2.2 g2 f3 d3 d4 HX.out.1; have s0 : W3.cell? ⟨b, 0, none⟩ = some (.slice (some ⟨g, 0, none⟩) m cp) := (by rw [← hm]; exact cell_of h3.cell); have hbd := Lib.hid h3.bd; obtain ⟨q, hq⟩ : ∃ q, W3.heap.size = q := ⟨_, rfl⟩; obtain ⟨W4, hW4⟩ : ∃ W, W3.alloc (.cells #[.bool false, .string ⟨#[]⟩, .int .i64 0, .bool false] 40) = W := ⟨_, rfl⟩; rw [hF, hoi, hm, hq, hW4] at hL; obtain ⟨e0, e1, e2, e3, e4, t0, t1, t2, t3, u0, u1, u2, u3, y1, y2, y3⟩ := hL.cells (by omega); obtain ⟨z1, z2, z3⟩ := hL.fz; obtain ⟨n1, n2, n3, n4, n5⟩ := hL.gne; have n6 := hL.gF; have n7 := hL.bF; have n8 := hL.hFq; have HL := Lib.hid hL; clear hL h3 f3 d3 d4 g2 r1))
  go_region
  go_wp2
  go_region
  go_wp2
  go_region
  go_wp2
  refine bodyPost_ret (v := .tuple #[.agg #[.bool true, .string (tx ++ d), .int .i64 ((mi : Nat) : Int), .bool false], .int .i64 0]) ?_ rfl ⟨rfl, ?_⟩
  · simp [results, Try.results17, go_sem, t0, t1, t2, t3]
  · obtain ⟨hx, hnx, hxa, hS⟩ := HX.out
    have hL := HL.out
    rw [← hm, ← hoi] at hL
    rw [hnx, ← hxa]
    rw [← hoi]
    refine Lr.fin (x' := ⟨xa, nx, false, (tx ++ d)⟩) ((Lr.drew (Lr.drew (Lr.drew (Lr.f3 (v := .bool false) (Lr.f2 (v := .int .i64 ((mi : Nat) : Int)) (Lr.f1 (v := .string (tx ++ d)) (Lr.f0 (v := .bool true) (Lr.r2 (v := .bool false) (Lr.p1 (v := .string (tx ++ d)) (Lr.p0 (v := .bool true) (Lr.r3 (v := .string (tx ++ d)) (Lr.r1 (v := .int .i64 ((nx : Nat) : Int)) (Lr.p2 (v := .int .i64 ((mi : Nat) : Int)) hL)))))))))))))) hx hSb rfl hbd.out hnxl fun e => ?_
    cases e
set_option maxHeartbeats 6400000 in
theorem rf_op_l (h : RAt S b L w) (hS : ∀ k, w.heap.size ≤ k → S k) (hSb : S b) (c : Bool) {a f n i : Nat} {d : ByteArray} {x : Rn} (hv : Pkt.validB a f n d = true) (ha : a < 2047)
    (hat : ∀ (S' : Nat → Prop) w1, RAt S' b L w1 → Calls Try.prog 35 #[.pointer (some ⟨b, 0, none⟩), .int .i64 ((a : Nat) : Int)] w1 fun e w' => e = .returned (.tuple #[.int .i64 ((i : Nat) : Int), .bool false]) ∧ RAt S' b L1 w' ∧ FrS S' w1 w')
    (hx : L1[i]? = some x) (hxa : x.ap = a) (hxn : x.next < 16384) (hxt : x.opn = true → x.txt.size ≤ 16384) (hn1 : L1.length ≤ 1000001) (hop : x.opn = true) {mi : Nat} (hmi : mi = (n + (16384 - x.next)) % 16384) (hm0 : mi = 0) (hf1 : f ≠ 1) (hf3 : f ≠ 3) (hfit : ¬ x.txt.size + d.size ≤ 16384) :
    Calls Try.prog 17 #[.pointer (some ⟨b, 0, none⟩), .agg #[.bool c, .int .i64 ((a : Nat) : Int), .int .i64 ((f : Nat) : Int), .int .i64 ((n : Nat) : Int), .string d]] w fun e w' => e = .returned (.tuple #[.agg #[.bool false, .string ⟨#[]⟩, .int .i64 ((mi : Nat) : Int), .bool true], .int .i64 0]) ∧ RAt S b (L1.set i ⟨a, (n + 1) % 16384, false, (x.txt ++ d)⟩) w' ∧ FrS S w w' := by
  have hvb := Pkt.validB_iff.1 hv
  have hnb : n ≤ 16383 := by omega
  have hdb : d.size ≤ 1024 := by omega
  have hil := (List.getElem?_eq_some_iff.1 hx).1
  obtain ⟨xa, nx0, op0, tx⟩ := x
  replace hxa : xa = a := hxa
  replace hop : op0 = true := hop
  replace hxn : nx0 < 16384 := hxn
  subst hop
  have htl : tx.size ≤ 16384 := hxt rfl
  replace hmi : mi = (n + (16384 - nx0)) % 16384 := hmi
  have hmb : ((((n : Nat) : Int) - ((nx0 : Nat) : Int)) + 16384) % 16384 = ((mi : Nat) : Int) := by rw [hmi]; omega
  have hmt : ((((n : Nat) : Int) - ((nx0 : Nat) : Int)) + 16384).tmod 16384 = ((mi : Nat) : Int) := by rw [Int.tmod_eq_emod_of_nonneg (by omega)]; exact hmb
  have hmil : mi ≤ 16383 := by omega
  have hm1 : (((mi : Nat) : Int) != 0) = false := by rw [hm0]; rfl
  have hf3' := hf3
  have hf1' := hf1
  have hf3 : (((f : Nat) : Int) == 3) = false := by simp; omega
  have hf1 : (((f : Nat) : Int) == 1) = false := by simp; omega
  obtain ⟨nx, hnx⟩ : ∃ k, (n + 1) % 16384 = k := ⟨_, rfl⟩
  have hnxl : nx < 16384 := by omega
  have hnb2 : (((n : Nat) : Int) + 1) % 16384 = ((nx : Nat) : Int) := by omega
  have hnt2 : (((n : Nat) : Int) + 1).tmod 16384 = ((nx : Nat) : Int) := by rw [Int.tmod_eq_emod_of_nonneg (by omega)]; exact hnb2
  replace hfit : ¬ tx.size + d.size ≤ 16384 := hfit
  have hfl : (16384 : Int) < (((tx.size : Nat) : Int) + ((d.size : Nat) : Int)) := by omega
  have hfl2 : (16384 : Int) < (((tx ++ d).size : Nat) : Int) := by rw [ByteArray.size_append]; push_cast; omega
  have hcc : tx.size + d.size ≤ 9223372036854775807 := by omega
  have hb0 := (Below.refl w.heap.size w).alloc (Nat.le_refl _) (pkO c a f n d)
  have hb1 := hb0.alloc (by rw [alloc_size]; omega) (pcO false ⟨#[]⟩ 0 false)
  obtain ⟨W1, hW1⟩ : ∃ W, (w.alloc (pkO c a f n d)).alloc (pcO false ⟨#[]⟩ 0 false) = W := ⟨_, rfl⟩
  have c3 : W1.heap[w.heap.size]? = some (pkO c a f n d) := by rw [← hW1]; exact ((World.grownBy_alloc _ _ none).block _ (by rw [alloc_size]; omega) (by simp)).trans (heap_alloc_new w _)
  have c4 : W1.heap[w.heap.size + 1]? = some (pcO false ⟨#[]⟩ 0 false) := by
    rw [← hW1, ← alloc_size w (pkO c a f n d)]; exact heap_alloc_new _ _
  have sz1 : W1.heap.size = w.heap.size + 2 := by rw [← hW1, alloc_size, alloc_size]
  rw [hW1] at hb1
  have cV := rvalid_calls c ((a : Nat) : Int) ((f : Nat) : Int) ((n : Nat) : Int) d W1
  rw [hv] at cV
  have hne : (((a : Nat) : Int) == 2047) = false := by simp; omega
  obtain ⟨F, hF⟩ : ∃ F, w.heap.size = F := ⟨_, rfl⟩
  obtain ⟨m, hm⟩ : ∃ m, L1.length = m := ⟨_, rfl⟩
  obtain ⟨oi, hoi⟩ : ∃ k, i * 4 = k := ⟨_, rfl⟩
  have hil' : ((i : Nat) : Int) < ((m : Nat) : Int) := by omega
  have hil2 : i < m := by omega
  have hmb2 : m ≤ 1000001 := by omega
  have p0 : W1.cell? ⟨F, 0, none⟩ = some (.bool c) := by rw [← hF]; exact cell_of c3
  have p1 : W1.cell? ⟨F, 1, none⟩ = some (.int .i64 ((a : Nat) : Int)) := by rw [← hF]; exact cell_of c3
  have p2 : W1.cell? ⟨F, 2, none⟩ = some (.int .i64 ((f : Nat) : Int)) := by rw [← hF]; exact cell_of c3
  have p3 : W1.cell? ⟨F, 3, none⟩ = some (.int .i64 ((n : Nat) : Int)) := by rw [← hF]; exact cell_of c3
  have p4 : W1.cell? ⟨F, 4, none⟩ = some (.string d) := by rw [← hF]; exact cell_of c3
  have CA := Lib.hid (fun W2 (hb : Below w.heap.size w W2) => hat (ShR S w.heap.size W2.heap.size) W2 (h.shrink hb))
  have HX := Lib.hid (And.intro hx (And.intro hnx (And.intro hxa hS)))
  clear hv hnx hb0 hvb hat h hx hxt hn1 hil hxa hS hmi hm0 hfit
  go_enter Try.func17, Try.ntmps17
  go_wp2_with (first
    | (go_at_call 14; refine cV.mono ?_; clear cV; rintro e W2 ⟨rfl, b2⟩; have g2 := hb1.trans (b2.mono hb1.size); have d3 := (b2.block w.heap.size (by omega)).trans c3; have d4 := (b2.block (w.heap.size + 1) (by omega)).trans c4; have r1 : W2.cell? ⟨F, 1, none⟩ = some (.int .i64 ((a : Nat) : Int)) := (by rw [← hF]; exact cell_of d3); clear p0 p1 p2 p3 p4 c3 c4 b2)
    | (go_at_call 35; refine (CA.out W2 g2).mono ?_; clear CA; rintro e W3 ⟨rfl, ⟨v3, h3⟩, f3⟩; obtain ⟨ao, cp, rfl⟩ := ownsRow_slice h3.row; obtain ⟨g, rfl, _, hL⟩ := Lr.start (q0 := .bool false) (q1 := .string ⟨#[]⟩) (q2 := .int .i64 0) (q3 := .bool false) h3 HX.out.2.2.2 g2 f3 d3 d4 HX.out.1; have s0 : W3.cell? ⟨b, 0, none⟩ = some (.slice (some ⟨g, 0, none⟩) m cp) := (by rw [← hm]; exact cell_of h3.cell); have hbd := Lib.hid h3.bd; obtain ⟨q, hq⟩ : ∃ q, W3.heap.size = q := ⟨_, rfl⟩; obtain ⟨W4, hW4⟩ : ∃ W, W3.alloc (.cells #[.bool false, .string ⟨#[]⟩, .int .i64 0, .bool false] 40) = W := ⟨_, rfl⟩; rw [hF, hoi, hm, hq, hW4] at hL; obtain ⟨e0, e1, e2, e3, e4, t0, t1, t2, t3, u0, u1, u2, u3, y1, y2, y3⟩ := hL.cells (by omega); obtain ⟨z1, z2, z3⟩ := hL.fz; obtain ⟨n1, n2, n3, n4, n5⟩ := hL.gne; have n6 := hL.gF; have n7 := hL.bF; have n8 := hL.hFq; have HL := Lib.hid hL; clear hL h3 f3 d3 d4 g2 r1))
  go_region
  go_wp2
  go_region
  go_wp2
  refine bodyPost_ret (v := .tuple #[.agg #[.bool false, .string ⟨#[]⟩, .int .i64 ((mi : Nat) : Int), .bool true], .int .i64 0]) ?_ rfl ⟨rfl, ?_⟩
  · simp [results, Try.results17, go_sem, t0, t1, t2, t3]
  · obtain ⟨hx, hnx, hxa, hS⟩ := HX.out
    have hL := HL.out
    rw [← hm, ← hoi] at hL
    rw [hnx, ← hxa]
    rw [← hoi]
    refine Lr.fin (x' := ⟨xa, nx, false, (tx ++ d)⟩) ((Lr.drew (Lr.drew (Lr.f3 (v := .bool true) (Lr.f2 (v := .int .i64 ((mi : Nat) : Int)) (Lr.f1 (v := .string ⟨#[]⟩) (Lr.f0 (v := .bool false) (Lr.p3 (v := .bool true) (Lr.r2 (v := .bool false) (Lr.r3 (v := .string (tx ++ d)) (Lr.r1 (v := .int .i64 ((nx : Nat) : Int)) (Lr.p2 (v := .int .i64 ((mi : Nat) : Int)) hL)))))))))))) hx hSb rfl hbd.out hnxl fun e => ?_
    cases e
end Go.Am.Joi
