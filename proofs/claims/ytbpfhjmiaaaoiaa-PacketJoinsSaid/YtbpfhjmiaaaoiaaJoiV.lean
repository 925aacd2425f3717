/-
  Joiner: PacketJoins: three joiners side by side. Own work.
-/
import Derived.Test.YtbpfhjmiaaaoiaaJoiU1
import Derived.Test.YtbpfhjmiaaaoiaaJoiW
namespace Go.Am.Joi
open Go Go.Am Go.Am.Lib Go.Lib Go.Proofs Go.RowKit
open Go.Am.Own
open Go.Am.Pkt (G0)
set_option maxRecDepth 100000

theorem RAt.shrinkF {S : Nat → Prop} {b : Nat} {L : List Rn} {w w' : World} (h : RAt S b L w) (hk : ∀ k, S k → k < w.heap.size → w'.heap[k]? = w.heap[k]?) : RAt (ShS S w.heap.size w'.heap.size) b L w' := by
  obtain ⟨v, h⟩ := h
  exact ⟨v, fun k hk => .inr hk, (hk b h.hb h.lt).trans h.cell, .inl ⟨h.hb, h.lt⟩, ownsRow_keep h.row fun k e => hk k (h.rs k e) (h.row.lt k e).2, fun g hg => .inl ⟨h.rs g hg, (h.row.lt g hg).2⟩, h.bd⟩
/-- The program's joiner jb, the reference's rb, and one that New did not return, zb. -/
structure Wp (W0 : World) (jb rb zb N : Nat) (J : Js) (L : List Rn) (w : World) : Prop where
  fr : Below W0.heap.size W0 w
  ex : ∃ S1 S2, JAt S1 jb N J w ∧ RAt S2 rb L w ∧ (∀ k, k < w.heap.size → S1 k → W0.heap.size ≤ k ∧ k ≠ zb ∧ ¬ S2 k) ∧ (∀ k, k < w.heap.size → S2 k → W0.heap.size ≤ k ∧ k ≠ zb)
  z : w.heap[zb]? = some (.cells #[.map none] 38 (0, 0))
variable {W0 w w' : World} {jb rb zb N : Nat} {J : Js} {L : List Rn}
theorem Wp.zlt (h : Wp W0 jb rb zb N J L w) : zb < w.heap.size := (Array.getElem?_eq_some_iff.1 h.z).1
theorem Wp.below (h : Wp W0 jb rb zb N J L w) (hb : Below w.heap.size w w') : Wp W0 jb rb zb N J L w' := by
  obtain ⟨S1, S2, h1, h2, h3, h4⟩ := h.ex
  refine ⟨h.fr.trans (hb.mono h.fr.size), ⟨_, _, h1.shrink (w' := w') fun k _ hk => hb.block k hk, h2.shrinkF (w' := w') fun k _ hk => hb.block k hk, fun k hk e => ?_, fun k hk e => ?_⟩, (hb.block zb h.zlt).trans h.z⟩
  · obtain ⟨e1, e2⟩ := e.old hk
    obtain ⟨a1, a2, a3⟩ := h3 k e2 e1
    exact ⟨a1, a2, fun e' => a3 (e'.old hk).1⟩
  · obtain ⟨e1, e2⟩ := e.old hk
    exact h4 k e2 e1
theorem Wp.alloc (h : Wp W0 jb rb zb N J L w) (o : Obj) : Wp W0 jb rb zb N J L (w.alloc o) := h.below ((Below.refl _ w).alloc (Nat.le_refl _) o)
theorem wp_feed (h : Wp W0 jb rb zb N J L w) (hN : N < maxLen) (c : Bool) (a f n : Int) (d : ByteArray) :
    Calls Try.prog 16 #[.pointer (some ⟨jb, 0, none⟩), .agg #[.bool c, .int .i64 a, .int .i64 f, .int .i64 n, .string d]] w fun e w' => e = .returned (.tuple #[ansV (feedA J a f n d), .int .i64 (feedE a f n d)]) ∧ Wp W0 jb rb zb (N + 1) (feedJ J a f n d) L w' := by
  obtain ⟨S1, S2, h1, h2, h3, h4⟩ := h.ex
  have hz := h.zlt
  refine (feed_any h1 hN c a f n d).mono fun e w' ⟨q1, q2, q3⟩ => ⟨q1, ?_⟩
  refine ⟨h.fr.trans (q3.below fun k hk e => by have := h.fr.size; have := (h3 k (by omega) e).1; omega), ⟨S1, _, q2, h2.shrinkF (w' := w') fun k e hk => q3.block k fun e' => (h3 k hk e').2.2 e, fun k hk e => ?_, fun k hk e => ?_⟩, (q3.block zb fun e => (h3 zb hz e).2.1 rfl).trans h.z⟩
  · by_cases hlt : k < w.heap.size
    · obtain ⟨a1, a2, a3⟩ := h3 k hlt e
      exact ⟨a1, a2, fun e' => a3 (e'.old hk).1⟩
    · have := h.fr.size
      refine ⟨by omega, by omega, fun e' => hlt (e'.old hk).2⟩
  · obtain ⟨e1, e2⟩ := e.old hk
    exact h4 k e2 e1
theorem wp_rfeed {J' : Js} (h : Wp W0 jb rb zb N J' L w) (hR : Rel J L) (hL : L.length ≤ 1000000) (c : Bool) (a f n : Int) (d : ByteArray) :
    Calls Try.prog 17 #[.pointer (some ⟨rb, 0, none⟩), .agg #[.bool c, .int .i64 a, .int .i64 f, .int .i64 n, .string d]] w fun e w' => e = .returned (.tuple #[ansV (feedA J a f n d), .int .i64 (feedE a f n d)]) ∧ ∃ L', Rel (feedJ J a f n d) L' ∧ L'.length ≤ L.length + 1 ∧ Wp W0 jb rb zb N J' L' w' := by
  obtain ⟨S1, S2, h1, h2, h3, h4⟩ := h.ex
  have hz := h.zlt
  refine (rfeed_any h2 hR hL c a f n d).mono fun e w' ⟨q1, L', q2, q3, q4, q5⟩ => ⟨q1, L', q2, q3, ?_⟩
  refine ⟨h.fr.trans (q5.below fun k hk e => by have := h.fr.size; have := (h4 k (by omega) e).1; omega), ⟨_, S2, h1.shrink (w' := w') fun k e hk => q5.block k fun e' => (h3 k hk e).2.2 e', q4, fun k hk e => ?_, fun k hk e => ?_⟩, (q5.block zb fun e => (h4 zb hz e).2 rfl).trans h.z⟩
  · obtain ⟨e1, e2⟩ := e.old hk
    exact h3 k e2 e1
  · by_cases hlt : k < w.heap.size
    · exact h4 k hlt e
    · have := h.fr.size
      exact ⟨by omega, by omega⟩
theorem wp_open (h : Wp W0 jb rb zb N J L w) (hR : Rel J L) (hL : L.length ≤ 1000000) :
    Calls Try.prog 18 #[.pointer (some ⟨jb, 0, none⟩)] w fun e w' => e = .returned (.int .i64 ((openN L : Nat) : Int)) ∧ Below w.heap.size w w' := by
  obtain ⟨S1, S2, h1, h2, h3, h4⟩ := h.ex
  have hm : ∀ a, a ∈ L.map Rn.ap ↔ ∃ k, J a = some k := fun a => by
    refine ⟨fun ha => ?_, fun ⟨k, hk⟩ => hR.all a k hk⟩
    obtain ⟨x, h1, h2⟩ := List.mem_map.1 ha
    obtain ⟨j, hj⟩ := List.mem_iff_getElem?.1 h1
    obtain ⟨k, h3, _⟩ := hR.mem j x hj
    exact ⟨k, by rw [← h2]; exact h3⟩
  have c0 := open_calls h1 hR.nd hm (by rw [List.length_map]; exact hL)
  rw [hR.count hR.nd hm] at c0
  exact c0
theorem wp_ropen (h : Wp W0 jb rb zb N J L w) (hL : L.length ≤ 1000000) :
    Calls Try.prog 19 #[.pointer (some ⟨rb, 0, none⟩)] w fun e w' => e = .returned (.int .i64 ((openN L : Nat) : Int)) ∧ Below w.heap.size w w' := by
  obtain ⟨S1, S2, h1, h2, h3, h4⟩ := h.ex
  exact ropen_calls h2 (by omega)
theorem wp_nfeed (c : Bool) (a f n : Int) (d : ByteArray) (w : World) :
    Calls Try.prog 16 #[.pointer none, .agg #[.bool c, .int .i64 a, .int .i64 f, .int .i64 n, .string d]] w fun e w' => e = .returned (.tuple #[zAn, .int .i64 1]) ∧ Below w.heap.size w w' :=
  feed_early (.pointer none) c a f n d w true false 1 (none_nilF w) (.inl ⟨rfl, rfl⟩)
theorem wp_zfeed (h : Wp W0 jb rb zb N J L w) (c : Bool) (a f n : Int) (d : ByteArray) :
    Calls Try.prog 16 #[.pointer (some ⟨zb, 0, none⟩), .agg #[.bool c, .int .i64 a, .int .i64 f, .int .i64 n, .string d]] w fun e w' => e = .returned (.tuple #[zAn, .int .i64 1]) ∧ Below w.heap.size w w' :=
  feed_early (.pointer (some ⟨zb, 0, none⟩)) c a f n d w true false 1 (fun w' hb => none_zero zb w' (cell_of (h.below hb).z)) (.inl ⟨rfl, rfl⟩)
theorem wp_zopen (h : Wp W0 jb rb zb N J L w) : Calls Try.prog 18 #[.pointer (some ⟨zb, 0, none⟩)] w fun e w' => e = .returned (.int .i64 0) ∧ Below w.heap.size w w' :=
  open_none _ w (none_zero zb w (cell_of h.z))
theorem wp_nopen (w : World) : Calls Try.prog 18 #[.pointer none] w fun e w' => e = .returned (.int .i64 0) ∧ Below w.heap.size w w' :=
  open_none _ w (none_nil w)
theorem Wp.first {w1 : World} (hB : Below W0.heap.size W0 w1) (h1 : JAt (fun k => w1.heap.size ≤ k) jb 0 js0 w) (c1 : Below w1.heap.size w1 w) :
    Wp W0 jb w.heap.size (w.heap.size + 1) 0 js0 [] ((w.alloc (.cells #[.slice none 0 0] 35)).alloc (.cells #[.map none] 38)) := by
  have b1 := (Below.refl w.heap.size w).alloc (Nat.le_refl _) (.cells #[.slice none 0 0] 35)
  have b2 := b1.alloc b1.size (.cells #[.map none] 38)
  obtain ⟨w2, hw2⟩ : ∃ w2, w.alloc (.cells #[.slice none 0 0] 35) = w2 := ⟨_, rfl⟩
  have s2 : w2.heap.size = w.heap.size + 1 := by rw [← hw2, alloc_size]
  have k2 : w2.heap[w.heap.size]? = some (.cells #[.slice none 0 0] 35 (0, 0)) := by rw [← hw2]; exact heap_alloc_new w _
  rw [hw2] at b2 ⊢
  obtain ⟨w3, hw3⟩ : ∃ w3, w2.alloc (.cells #[.map none] 38) = w3 := ⟨_, rfl⟩
  have s3 : w3.heap.size = w.heap.size + 2 := by rw [← hw3, alloc_size, s2]
  have k3 : w3.heap[w.heap.size + 1]? = some (.cells #[.map none] 38 (0, 0)) := by rw [← hw3, ← s2]; exact heap_alloc_new w2 _
  have b3 : Below w2.heap.size w2 w3 := by rw [← hw3]; exact (Below.refl _ w2).alloc (Nat.le_refl _) _
  rw [hw3] at b2 ⊢
  have hs := hB.size
  have hs1 := c1.size
  refine ⟨hB.trans ((c1.trans (b2.mono hs1)).mono hs), ⟨_, fun k => k = w.heap.size ∨ w3.heap.size ≤ k, h1.shrink (w' := w3) fun k _ hk => b2.block k hk, ⟨.slice none 0 0, fun k hk => .inr hk, (b3.block _ (by omega)).trans k2, .inl rfl, World.ownsRow_nil _ _ _ _, fun g hg => (by cases hg), fun i x hx => (by simp at hx)⟩, fun k hk e => ?_, fun k hk e => ?_⟩, k3⟩
  · obtain ⟨e1, e2⟩ := e.old hk
    exact ⟨Nat.le_trans hs e1, by omega, fun e' => by rcases e' with e' | e' <;> omega⟩
  · rcases e with e | e
    · exact ⟨by omega, by omega⟩
    · omega
end Go.Am.Joi
