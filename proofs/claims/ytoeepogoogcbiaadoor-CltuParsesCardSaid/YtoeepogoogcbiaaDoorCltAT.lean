/-
  Cltu: CltuPortions. Own work.
-/
import Derived.Test.YtoeepogoogcbiaaDoorCltAR
import Derived.Test.YtoeepogoogcbiaaDoorCltAP
namespace Go.Am.Clt
open Go Go.Am Go.Am.Lib Go.Lib Go.Proofs Go.RowKit
set_option maxRecDepth 100000

theorem new_at (w : World) : Calls Tryd.prog 18 #[] w fun e w' => ∃ b, e = .returned (.pointer (some ⟨b, 0, none⟩)) ∧ Hid (w.heap.size = b) ∧ Below w.heap.size w w' ∧ Hid (w'.heap.size = b + 1) ∧
    w'.heap[b]? = some (.cells #[F42, .bool false, .int .u8 0, .slice none 0 0, .slice none 0 0, .bool false, .slice none 0 0] 49 (0, 0)) :=
  (new_walk w).mono fun e w' ⟨h1, h2, h3, h4⟩ => ⟨w.heap.size, h1, rfl, h2, h3, h4⟩
theorem strs_one (L : List ByteArray) : ∀ y ∈ L.map Value.string, y.oneCell' = true := by
  intro y hy
  obtain ⟨s, _, rfl⟩ := List.mem_map.1 hy
  rfl
theorem below_keep {B k : Nat} {w w' : World} (h : Below B w w') (hk : k < B) : w'.heap[k]? = w.heap[k]? := h.block k hk

/-- A parser that answers Locked. -/
def Lk (b : Nat) (bg : Bool) (w : World) : Prop := ∃ f kn la v1 v2 v3, w.heap[b]? = some (.cells #[.func (.func f) #[] #[], kn, la, v1, v2, .bool bg, v3] 49 (0, 0))
theorem Lk.lt {b : Nat} {bg : Bool} {w : World} (h : Lk b bg w) : b < w.heap.size := by
  obtain ⟨_, _, _, _, _, _, h⟩ := h
  exact (Array.getElem?_eq_some_iff.1 h).1
theorem PAt.lk {S : Nat → Prop} {b : Nat} {p : PS} {w : World} (h : PAt S b p w) : Lk b p.begun w := by
  obtain ⟨v1, v2, v3, h⟩ := h
  have hc := h.cell
  rw [take_val] at hc
  exact ⟨_, _, _, _, _, _, hc⟩
theorem Lk.calls {b : Nat} {bg : Bool} {w : World} (h : Lk b bg w) : Calls Tryd.prog 20 #[.pointer (some ⟨b, 0, none⟩)] w fun e w' => e = .returned (.bool bg) ∧ w' = w := by
  obtain ⟨_, _, _, _, _, _, h⟩ := h
  exact locked_walk b w _ _ _ _ _ _ _ h
/-- What stays true of the second parser and the lists. -/
structure Por (W0 : World) (L : List ByteArray) (bg : Bool) (b1 b2 : Nat) (vw : Value) (pre : List UInt8) (pv : Value) (wr : World) : Prop where
  fr : Below W0.heap.size W0 wr
  whole : wr.ownsRow 0 9 1 vw L.length (L.map .string)
  p1 : Lk b1 bg wr
  p2 : ∃ S2, PAt S2 b2 (clr (feedP ps0 pre)) wr ∧ (∀ k, k < W0.heap.size → ¬ S2 k) ∧ ¬ S2 b1 ∧ (∀ k, vw.ownBlock = some k → ¬ S2 k) ∧ (∀ k, pv.ownBlock = some k → ¬ S2 k)
  parts : wr.ownsRow W0.heap.size 9 1 pv (feedP ps0 pre).found.length ((feedP ps0 pre).found.map .string)
  dis : ∀ k, pv.ownBlock = some k → k ≠ b1 ∧ vw.ownBlock ≠ some k
theorem feed_on (pre t : List UInt8) : (feedP ps0 (pre ++ t)).found = (feedP ps0 pre).found ++ (feedP (clr (feedP ps0 pre)) t).found ∧ clr (feedP ps0 (pre ++ t)) = clr (feedP (clr (feedP ps0 pre)) t) := by
  rw [feedP_app, feed_clr]
  exact ⟨rfl, rfl⟩
theorem Por.next {W0 : World} {L : List ByteArray} {bg : Bool} {b1 b2 : Nat} {vw pv : Value} {pre : List UInt8} {wr : World} (h : Por W0 L bg b1 b2 vw pre pv wr) {t : List UInt8} {S2 S' : Nat → Prop} {W2 W3 : World} {v' : Value}
    (hW : ∀ k, k < W0.heap.size → ¬ S2 k) (hb1 : ¬ S2 b1) (hvw : ∀ k, vw.ownBlock = some k → ¬ S2 k) (hpv : ∀ k, pv.ownBlock = some k → ¬ S2 k)
    (hF : FrS S2 wr W2) (hP : PAt S' b2 { feedP (clr (feedP ps0 pre)) t with found := [] } W2) (hS : ∀ k, k < W2.heap.size → S' k → S2 k)
    (hown : W3.ownsRow W0.heap.size 9 1 v' ((feedP ps0 pre).found.length + (feedP (clr (feedP ps0 pre)) t).found.length) ((feedP ps0 pre).found.map .string ++ (feedP (clr (feedP ps0 pre)) t).found.map .string))
    (hg : W2.grownBy W3 pv.ownBlock) (hw : v'.ownBlock = pv.ownBlock ∨ v'.ownBlock = some W2.heap.size) : Por W0 L bg b1 b2 vw (pre ++ t) v' W3 := by
  obtain ⟨f1, f2⟩ := feed_on pre t
  have hb1lt := h.p1.lt
  have hsz : W0.heap.size ≤ wr.heap.size := h.fr.size
  have hpb : ∀ k, pv.ownBlock = some k → W0.heap.size ≤ k ∧ k < wr.heap.size := fun k hk => h.parts.lt k hk
  have hb1' : W3.heap[b1]? = wr.heap[b1]? := (hg.block b1 (Nat.lt_of_lt_of_le hb1lt hF.size) (fun e => (h.dis b1 e.symm).1 rfl)).trans (hF.block b1 hb1)
  obtain ⟨S3, hP3, hS3⟩ := hP.shrink (w' := W3) (fun k hk hlt => hg.block k hlt (fun e => hpv k e.symm (hS k hlt hk)))
  have hS3' : ∀ k, k < W3.heap.size → S3 k → S2 k ∧ k < W2.heap.size := fun k hk hs => ⟨hS k (hS3 k hk hs).2 (hS3 k hk hs).1, (hS3 k hk hs).2⟩
  have hwl : W3.ownsRow 0 9 1 vw L.length (L.map .string) := ownsRow_keep h.whole fun k hk => (hg.block k (Nat.lt_of_lt_of_le (h.whole.lt k hk).2 hF.size) (fun e => (h.dis k e.symm).2 hk)).trans (hF.block k (hvw k hk))
  refine { fr := ?_, whole := hwl, p1 := ?_, p2 := ⟨S3, ?_, ?_, ?_, ?_, ?_⟩, parts := ?_, dis := ?_ }
  · exact (h.fr.trans (hF.below hW)).trans { os := hg.os, tape := hg.tape, output := hg.output, size := hg.size, block := fun k hk => hg.block k (by have := hF.size; omega) (fun e => by have := (hpb k e.symm).1; omega) }
  · obtain ⟨f, kn, la, v1, v2, v3, hc⟩ := h.p1
    exact ⟨f, kn, la, v1, v2, v3, hb1'.trans hc⟩
  · rw [f2]; exact hP3
  · intro k hk hs
    exact hW k hk (hS3' k (by have := hF.size; have := hg.size; omega) hs).1
  · intro hs
    exact hb1 (hS3' b1 (by have := hF.size; have := hg.size; omega) hs).1
  · intro k hk hs
    exact hvw k hk (hS3' k (hwl.lt k hk).2 hs).1
  · intro k hk hs
    have h3 := hS3' k (hown.lt k hk).2 hs
    rcases hw with e | e
    · exact hpv k (by rw [← e]; exact hk) h3.1
    · rw [e] at hk; injection hk with hk; omega
  · rw [f1, List.length_append, List.map_append]; exact hown
  · intro k hk
    rcases hw with e | e
    · exact h.dis k (by rw [← e]; exact hk)
    · rw [e] at hk
      injection hk with hk
      refine ⟨by have := hF.size; omega, fun e2 => ?_⟩
      have := (h.whole.lt k e2).2
      have := hF.size
      omega
end Go.Am.Clt
