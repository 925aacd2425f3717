/-
  Joiner: the reference's Feed of whatever is given. Own work.
-/
import Derived.Test.YtbpfhjmiaaaoiaaJoiU
namespace Go.Am.Joi
open Go Go.Am Go.Am.Lib Go.Lib Go.Proofs Go.RowKit
open Go.Am.Own
open Go.Am.Pkt (G0)
set_option maxRecDepth 100000

variable {S : Nat → Prop} {b : Nat} {J : Js} {L : List Rn} {w : World}
set_option maxHeartbeats 3200000 in
theorem rfeed_early (v : Value) (c : Bool) (a f n : Int) (d : ByteArray) (w : World) (er : Int)
    (hcase : (Pkt.validB a f n d = false ∧ er = 2) ∨ (Pkt.validB a f n d = true ∧ a = 2047 ∧ er = 0)) :
    Calls Try.prog 17 #[v, .agg #[.bool c, .int .i64 a, .int .i64 f, .int .i64 n, .string d]] w fun e w' => e = .returned (.tuple #[zAn, .int .i64 er]) ∧ Below w.heap.size w w' := by
  have hb0 := (Below.refl w.heap.size w).alloc (Nat.le_refl _) (.cells #[.bool c, .int .i64 a, .int .i64 f, .int .i64 n, .string d] 23)
  have hb1 := hb0.alloc (by rw [alloc_size]; omega) (pcO false ⟨#[]⟩ 0 false)
  obtain ⟨W1, hW1⟩ : ∃ W, (w.alloc (.cells #[.bool c, .int .i64 a, .int .i64 f, .int .i64 n, .string d] 23)).alloc (pcO false ⟨#[]⟩ 0 false) = W := ⟨_, rfl⟩
  have c3 : W1.heap[w.heap.size]? = some (.cells #[.bool c, .int .i64 a, .int .i64 f, .int .i64 n, .string d] 23 (0, 0)) := by rw [← hW1]; exact ((World.grownBy_alloc _ _ none).block _ (by rw [alloc_size]; omega) (by simp)).trans (heap_alloc_new w _)
  have c4 : W1.heap[w.heap.size + 1]? = some (pcO false ⟨#[]⟩ 0 false) := by
    rw [← hW1, ← alloc_size w (.cells #[.bool c, .int .i64 a, .int .i64 f, .int .i64 n, .string d] 23)]; exact heap_alloc_new _ _
  have sz1 : W1.heap.size = w.heap.size + 2 := by rw [← hW1, alloc_size, alloc_size]
  rw [hW1] at hb1
  have cV := rvalid_calls c a f n d W1
  obtain ⟨F, hF⟩ : ∃ F, w.heap.size = F := ⟨_, rfl⟩
  rw [hF] at c3 c4
  have p0 : W1.cell? ⟨F, 0, none⟩ = some (.bool c) := cell_of c3
  have p1 : W1.cell? ⟨F, 1, none⟩ = some (.int .i64 a) := cell_of c3
  have p2 : W1.cell? ⟨F, 2, none⟩ = some (.int .i64 f) := cell_of c3
  have p3 : W1.cell? ⟨F, 3, none⟩ = some (.int .i64 n) := cell_of c3
  have p4 : W1.cell? ⟨F, 4, none⟩ = some (.string d) := cell_of c3
  have fin : ∀ W2, Below W1.heap.size W1 W2 → ∃ W8, (((W2.setCell ⟨F + 1, 0, none⟩ (.bool false)).setCell ⟨F + 1, 1, none⟩ (.string ⟨#[]⟩)).setCell ⟨F + 1, 2, none⟩ (.int .i64 0)).setCell ⟨F + 1, 3, none⟩ (.bool false) = W8 ∧ Below F w W8 ∧
      W8.cell? ⟨F + 1, 0, none⟩ = some (.bool false) ∧ W8.cell? ⟨F + 1, 1, none⟩ = some (.string ⟨#[]⟩) ∧ W8.cell? ⟨F + 1, 2, none⟩ = some (.int .i64 0) ∧ W8.cell? ⟨F + 1, 3, none⟩ = some (.bool false) ∧
      W2.cell? ⟨F, 1, none⟩ = some (.int .i64 a) ∧ W2.cell? ⟨F + 1, 0, none⟩ = some (.bool false) ∧ W2.cell? ⟨F + 1, 1, none⟩ = some (.string ⟨#[]⟩) ∧ W2.cell? ⟨F + 1, 2, none⟩ = some (.int .i64 0) ∧ W2.cell? ⟨F + 1, 3, none⟩ = some (.bool false) ∧ (∀ o, W2.frozen? ⟨F + 1, o, none⟩ = false) := by
    intro W2 b2
    have d4 := (b2.block (F + 1) (by omega)).trans c4
    have d3 := (b2.block F (by omega)).trans c3
    have h8 := set_at (o := 3) (v := .bool false) (set_at (o := 2) (v := .int .i64 0) (set_at (o := 1) (v := .string ⟨#[]⟩) (set_at (o := 0) (v := .bool false) d4)))
    have hof : OnlyB (F + 1) W2 ((((W2.setCell ⟨F + 1, 0, none⟩ (.bool false)).setCell ⟨F + 1, 1, none⟩ (.string ⟨#[]⟩)).setCell ⟨F + 1, 2, none⟩ (.int .i64 0)).setCell ⟨F + 1, 3, none⟩ (.bool false)) := ((((OnlyB.refl _ W2).setCell 0 _).setCell 1 _).setCell 2 _).setCell 3 _
    have hb2 := hb1.trans (b2.mono hb1.size)
    refine ⟨_, rfl, ⟨hof.os.trans hb2.os, hof.tape.trans hb2.tape, hof.output.trans hb2.output, by rw [hof.size]; exact hb2.size, fun k hk => (hof.rest k (by omega)).trans (hb2.block k (by omega))⟩, cell_of h8, cell_of h8, cell_of h8, cell_of h8, cell_of d3, cell_of d4, cell_of d4, cell_of d4, cell_of d4, fz_of d4⟩
  have HF := Lib.hid fin
  clear hb0 fin
  rcases hcase with ⟨hv, rfl⟩ | ⟨hv, ha, rfl⟩
  · rw [hv] at cV
    clear c3 c4 hv
    go_enter Try.func17, Try.ntmps17
    go_wp2_with (go_at_call 14; refine cV.mono ?_; rintro e W2 ⟨rfl, b2⟩; obtain ⟨W8, hW8, g8, m0, m1, m2, m3, n0, n1, n2, n3, n4, n5⟩ := HF.out W2 b2)
    refine bodyPost_ret (v := .tuple #[zAn, .int .i64 2]) ?_ rfl ⟨rfl, by rw [hF]; exact g8⟩
    simp [results, Try.results17, go_sem, m0, m1, m2, m3]
  · rw [hv] at cV
    have hae : (a == 2047) = true := by rw [ha]; rfl
    clear c3 c4 hv ha
    go_enter Try.func17, Try.ntmps17
    go_wp2_with (go_at_call 14; refine cV.mono ?_; rintro e W2 ⟨rfl, b2⟩; obtain ⟨W8, hW8, g8, m0, m1, m2, m3, n0, n1, n2, n3, n4, n5⟩ := HF.out W2 b2)
    refine bodyPost_ret (v := .tuple #[zAn, .int .i64 0]) ?_ rfl ⟨rfl, by rw [hF]; exact g8⟩
    simp [results, Try.results17, go_sem, m0, m1, m2, m3]
theorem RAt.hS (h : RAt S b L w) : ∀ k, w.heap.size ≤ k → S k := by
  obtain ⟨v, h⟩ := h
  exact h.hS
theorem rfeed_any (h : RAt S b L w) (hR : Rel J L) (hn : L.length ≤ 1000000) (c : Bool) (a f n : Int) (d : ByteArray) :
    Calls Try.prog 17 #[.pointer (some ⟨b, 0, none⟩), .agg #[.bool c, .int .i64 a, .int .i64 f, .int .i64 n, .string d]] w fun e w' => e = .returned (.tuple #[ansV (feedA J a f n d), .int .i64 (feedE a f n d)]) ∧ ∃ L', Rel (feedJ J a f n d) L' ∧ L'.length ≤ L.length + 1 ∧ RAt S b L' w' ∧ FrS S w w' := by
  have early : ∀ er : Int, ((Pkt.validB a f n d = false ∧ er = 2) ∨ (Pkt.validB a f n d = true ∧ a = 2047 ∧ er = 0)) → Calls Try.prog 17 #[.pointer (some ⟨b, 0, none⟩), .agg #[.bool c, .int .i64 a, .int .i64 f, .int .i64 n, .string d]] w fun e w' => e = .returned (.tuple #[zAn, .int .i64 er]) ∧ ∃ L', Rel J L' ∧ L'.length ≤ L.length + 1 ∧ RAt S b L' w' ∧ FrS S w w' := fun er he =>
    (rfeed_early (.pointer (some ⟨b, 0, none⟩)) c a f n d w er he).mono fun e w' ⟨e1, e2⟩ => ⟨e1, L, hR, Nat.le_succ _, h.below e2, fr_of e2 h.hS⟩
  cases hv : Pkt.validB a f n d with
  | false =>
    have eA : feedA J a f n d = ⟨false, ⟨#[]⟩, 0, false⟩ := if_neg fun hh => by rw [hv] at hh; cases hh.1
    have eJ : feedJ J a f n d = J := if_neg fun hh => by rw [hv] at hh; cases hh.1
    have eE : feedE a f n d = 2 := if_neg fun hh => by rw [hv] at hh; cases hh
    rw [eA, eJ, eE]
    exact early 2 (.inl ⟨hv, rfl⟩)
  | true =>
    have eE : feedE a f n d = 0 := if_pos hv
    by_cases ha : a = 2047
    · have eA : feedA J a f n d = ⟨false, ⟨#[]⟩, 0, false⟩ := if_neg fun hh => hh.2 ha
      have eJ : feedJ J a f n d = J := if_neg fun hh => hh.2 ha
      rw [eA, eJ, eE]
      exact early 0 (.inr ⟨hv, ha, rfl⟩)
    · have eA : feedA J a f n d = ansK (J a.toNat) f.toNat n.toNat d := if_pos ⟨hv, ha⟩
      have eJ : feedJ J a f n d = J.set a.toNat (newK (J a.toNat) f.toNat n.toNat d) := if_pos ⟨hv, ha⟩
      rw [eA, eJ, eE]
      have hvb := Pkt.validB_iff.1 hv
      obtain ⟨a', rfl⟩ := nat_of (n := a) (by omega)
      obtain ⟨f', rfl⟩ := nat_of (n := f) (by omega)
      obtain ⟨n', rfl⟩ := nat_of (n := n) (by omega)
      exact rfeed_at h hR hn c hv (by omega)
end Go.Am.Joi
