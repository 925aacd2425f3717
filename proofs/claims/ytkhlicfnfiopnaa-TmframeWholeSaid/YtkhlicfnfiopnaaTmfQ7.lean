/-
  Tmframe: two fillers side by side in memory. Own work.
-/
import Derived.Test.YtkhlicfnfiopnaaTmfQ6
import Derived.Test.YtkhlicfnfiopnaaTmfQ5
namespace Go.Am.Tmf
open Go Go.Am Go.Am.Lib Go.Lib Go.Proofs Go.RowKit
open Go.Am.Own
set_option maxRecDepth 100000

/-- What a filler in a later world needs: no more than it holds, and what is new then. -/
def ShS (S : Nat → Prop) (n m : Nat) : Nat → Prop := fun k => (S k ∧ k < n) ∨ m ≤ k
theorem ShS.old {S : Nat → Prop} {n m k : Nat} (h : ShS S n m k) (hk : k < m) : S k ∧ k < n := by
  rcases h with h | h
  · exact h
  · omega
theorem RAt.shrink {S : Nat → Prop} {b : Nat} {y : RS} {w w' : World} (h : RAt S b y w) (hk : ∀ k, S k → k < w.heap.size → w'.heap[k]? = w.heap[k]?) : RAt (ShS S w.heap.size w'.heap.size) b y w' := by
  obtain ⟨v, h⟩ := h
  exact ⟨v, { hS := fun k hk => .inr hk, hb := .inl ⟨h.hb, h.lt⟩, cell := (hk b h.hb h.lt).trans h.cell, r := ownsRow_keep h.r fun k hv => hk k (h.s k hv) (h.r.lt k hv).2, s := fun k hv => .inl ⟨h.s k hv, (h.r.lt k hv).2⟩ }⟩
theorem FAt.shrink {S : Nat → Prop} {b : Nat} {x : FS} {w w' : World} (h : FAt S b x w) (hk : ∀ k, S k → k < w.heap.size → w'.heap[k]? = w.heap[k]?) : FAt (ShS S w.heap.size w'.heap.size) b x w' := by
  obtain ⟨v1, v2, h⟩ := h
  exact ⟨v1, v2, { hS := fun k hk => .inr hk, hb := .inl ⟨h.hb, h.lt⟩, cell := (hk b h.hb h.lt).trans h.cell, r1 := h.r1.keep fun k hv => hk k (h.s1 k hv) (h.r1.lt k hv), r2 := ownsRow_keep h.r2 fun k hv => hk k (h.s2 k hv) (h.r2.lt k hv).2, s1 := fun k hv => .inl ⟨h.s1 k hv, h.r1.lt k hv⟩, s2 := fun k hv => .inl ⟨h.s2 k hv, (h.r2.lt k hv).2⟩ }⟩
/-- The two fillers of the law, after N calls; B: where they begin. -/
structure Two (B b1 b2 N : Nat) (x : FS) (y : RS) (w : World) : Prop where
  ex : ∃ S1 S2 : Nat → Prop, FAt S1 b1 x w ∧ RAt S2 b2 y w ∧ (∀ k, k < w.heap.size → S1 k → ¬ S2 k) ∧ (∀ k, k < w.heap.size → S1 k → B ≤ k) ∧ (∀ k, k < w.heap.size → S2 k → B ≤ k)
  rel : Rel x y
  ok : OkF x N
/-- A call of the program's changed x to x'. -/
theorem two_left {B b1 b2 N' : Nat} {x' : FS} {y y' : RS} {S1 S2 : Nat → Prop} {w w1 w2 : World} (h2 : RAt S2 b2 y w) (dis : ∀ k, k < w.heap.size → S1 k → ¬ S2 k) (l1 : ∀ k, k < w.heap.size → S1 k → B ≤ k) (l2 : ∀ k, k < w.heap.size → S2 k → B ≤ k) (hB : B ≤ w.heap.size)
    (h1 : FAt S1 b1 x' w1) (f1 : FrS S1 w w1)
    (step : ∀ S', RAt S' b2 y w1 → (∀ k, k < w1.heap.size → S1 k → ¬ S' k) → (∀ k, k < w1.heap.size → S' k → B ≤ k) → RAt S' b2 y' w2 ∧ FrS S' w1 w2) (rel : Rel x' y') (ok : OkF x' N') : Two B b1 b2 N' x' y' w2 := by
  have h2' := h2.shrink (w' := w1) fun k hk hlt => f1.block k fun e => dis k hlt e hk
  have d1 : ∀ k, k < w1.heap.size → S1 k → ¬ ShS S2 w.heap.size w1.heap.size k := fun k hk e1 e2 => by
    obtain ⟨e3, e4⟩ := e2.old hk
    exact dis k e4 e1 e3
  have m1 : ∀ k, k < w1.heap.size → ShS S2 w.heap.size w1.heap.size k → B ≤ k := fun k hk e => l2 k (e.old hk).2 (e.old hk).1
  obtain ⟨h3, f2⟩ := step _ h2' d1 m1
  have h4 := h1.shrink (w' := w2) fun k hk hlt => f2.block k (d1 k hlt hk)
  refine ⟨⟨_, _, h4, h3, fun k hk e1 e2 => ?_, fun k hk e => ?_, fun k hk e => ?_⟩, rel, ok⟩
  · obtain ⟨e3, e4⟩ := e1.old hk
    exact d1 k e4 e3 e2
  · obtain ⟨e3, e4⟩ := e.old hk
    by_cases h : k < w.heap.size
    · exact l1 k h e3
    · omega
  · rcases e with e | e
    · exact l2 k e.2 e.1
    · have := f1.size; omega
end Go.Am.Tmf
