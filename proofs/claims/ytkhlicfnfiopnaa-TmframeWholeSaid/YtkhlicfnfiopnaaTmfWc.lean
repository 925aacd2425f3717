/-
  Tmframe: TmframeWhole: a filler and four lists in memory. Own work.
-/
import Derived.Test.YtkhlicfnfiopnaaTmfWb
import Derived.Test.YtkhlicfnfiopnaaTmfQ8
namespace Go.Am.Tmf
open Go Go.Am Go.Am.Lib Go.Lib Go.Proofs Go.RowKit
open Go.Am.Own
set_option maxRecDepth 100000

abbrev RowM := TypeId × Value × List Value
def R4 (a b c d : RowM) : Nat → RowM
  | 0 => a
  | 1 => b
  | 2 => c
  | _ => d
structure Wk (W0 : World) (b : Nat) (x : FS) (R : Nat → RowM) (w : World) : Prop where
  fr : Below W0.heap.size W0 w
  ex : ∃ S, FAt S b x w ∧ (∀ k, k < w.heap.size → S k → W0.heap.size ≤ k) ∧ ∀ i, i < 4 → ∀ k, (R i).2.1.ownBlock = some k → ¬ S k
  own : ∀ i, i < 4 → w.ownsRow W0.heap.size (R i).1 1 (R i).2.1 (R i).2.2.length (R i).2.2
  dis : ∀ i j, i < 4 → j < 4 → i ≠ j → (R i).2.1.ownBlock = none ∨ (R i).2.1.ownBlock ≠ (R j).2.1.ownBlock
variable {W0 : World} {b : Nat} {x x' : FS} {R R' : Nat → RowM} {w w' : World}
theorem Wk.below (h : Wk W0 b x R w) (hb : Below w.heap.size w w') : Wk W0 b x R w' := by
  obtain ⟨h1, ⟨S, h2, h3, h4⟩, h5, h6⟩ := h
  refine ⟨h1.trans (hb.mono h1.size), ⟨_, h2.shrink (w' := w') fun k _ hk => hb.block k hk, fun k hk e => h3 k (e.old hk).2 (e.old hk).1, fun i hi k hk e => ?_⟩, fun i hi => ownsRow_keep (h5 i hi) fun k hk => hb.block k ((h5 i hi).lt k hk).2, h6⟩
  have hlt := ((h5 i hi).lt k hk).2
  exact h4 i hi k hk (e.old (Nat.lt_of_lt_of_le hlt hb.size)).1
theorem Wk.call {f : FuncId} {args : Array Value} {E : Ending → Prop} (h : Wk W0 b x R w) (c : ∀ S, FAt S b x w → Calls Try.prog f args w fun e w' => E e ∧ FAt S b x' w' ∧ FrS S w w') :
    Calls Try.prog f args w fun e w' => E e ∧ Wk W0 b x' R w' := by
  obtain ⟨h1, ⟨S, h2, h3, h4⟩, h5, h6⟩ := h
  have hs := h1.size
  refine (c S h2).mono fun e w' ⟨he, g1, g2⟩ => ⟨he, h1.trans (g2.below fun k hk e => by have := h3 k (by omega) e; omega), ⟨S, g1, fun k hk e => ?_, h4⟩, fun i hi => ownsRow_keep (h5 i hi) fun k hk => g2.block k (h4 i hi k hk), h6⟩
  by_cases hlt : k < w.heap.size
  · exact h3 k hlt e
  · omega
theorem Wk.push {i : Nat} {u v' : Value} {e : TypeId} (h : Wk W0 b x R w) (hi : i < 4) (hr : w'.ownsRow W0.heap.size e 1 v' ((R i).2.2.length + 1) ((R i).2.2 ++ [u])) (hg : w.grownBy w' (R i).2.1.ownBlock) (hw : v'.ownBlock = (R i).2.1.ownBlock ∨ v'.ownBlock = some w.heap.size)
    (h0 : R' i = (e, v', (R i).2.2 ++ [u])) (hj : ∀ j, j < 4 → j ≠ i → R' j = R j) : Wk W0 b x R' w' := by
  obtain ⟨h1, ⟨S, h2, h3, h4⟩, h5, h6⟩ := h
  have hs := h1.size
  have hlt : ∀ k, v'.ownBlock = some k → k < w'.heap.size := fun k hk => (hr.lt k hk).2
  have old : ∀ j, j < 4 → ∀ k, (R j).2.1.ownBlock = some k → k < w.heap.size := fun j hj k hk => ((h5 j hj).lt k hk).2
  refine ⟨⟨hg.os.trans h1.os, hg.tape.trans h1.tape, hg.output.trans h1.output, Nat.le_trans hs hg.size, fun k hk => (hg.block k (by omega) fun e => ?_).trans (h1.block k hk)⟩, ⟨ShS S w.heap.size w'.heap.size, h2.shrink (w' := w') fun k hk hlt => hg.block k hlt fun e => h4 i hi k e.symm hk, fun k hk e => h3 k (e.old hk).2 (e.old hk).1, fun j hj4 k hk e => ?_⟩, fun j hj4 => ?_, fun j j' hj4 hj4' hne => ?_⟩
  · have := ((h5 i hi).lt k e.symm).1; omega
  · by_cases hji : j = i
    · subst hji
      rw [h0] at hk
      have hk : v'.ownBlock = some k := hk
      have e1 := e.old (hlt k hk)
      rcases hw with hw | hw
      · exact h4 j hi k (by rw [← hw]; exact hk) e1.1
      · rw [hw] at hk; injection hk with hk; omega
    · rw [hj j hj4 hji] at hk
      have hlo := old j hj4 k hk
      exact h4 j hj4 k hk (e.old (Nat.lt_of_lt_of_le hlo hg.size)).1
  · by_cases hji : j = i
    · subst hji
      rw [h0]
      show w'.ownsRow _ e 1 v' ((R j).2.2 ++ [u]).length _
      rw [List.length_append]; exact hr
    · rw [hj j hj4 hji]
      refine ownsRow_keep (h5 j hj4) fun k hk => hg.block k (old j hj4 k hk) fun e => ?_
      rcases h6 j i hj4 hi hji with e1 | e1
      · rw [e1] at hk; cases hk
      · exact e1 (by rw [hk, e])
  · by_cases hji : j = i
    · subst hji
      have hji' : j' ≠ j := fun e => hne e.symm
      rw [h0, hj j' hj4' hji']
      show v'.ownBlock = none ∨ v'.ownBlock ≠ _
      rcases hw with hw | hw
      · rw [hw]; exact h6 j j' hj4 hj4' hne
      · right
        intro e1
        rw [hw] at e1
        have := old j' hj4' _ e1.symm
        omega
    · rw [hj j hj4 hji]
      by_cases hji' : j' = i
      · subst hji'
        rw [h0]
        show _ ∨ _ ≠ v'.ownBlock
        rcases hw with hw | hw
        · rw [hw]; exact h6 j j' hj4 hj4' hne
        · by_cases hn : (R j).2.1.ownBlock = none
          · exact .inl hn
          · right
            intro e1
            rw [hw] at e1
            have := old j hj4 _ e1
            omega
      · rw [hj j' hj4' hji']; exact h6 j j' hj4 hj4' hne
theorem Wk.first {n : Nat} {w1 : World} (hB : Below W0.heap.size W0 w1) (h1 : FAt (fun k => w1.heap.size ≤ k) w1.heap.size (fs0 n) w) (c1 : Below w1.heap.size w1 w) (t1 t2 t3 t4 : TypeId) : Wk W0 w1.heap.size (fs0 n) (R4 (t1, .slice none 0 0, []) (t2, .slice none 0 0, []) (t3, .slice none 0 0, []) (t4, .slice none 0 0, [])) w := by
  have nb : ∀ i, i < 4 → ((R4 (t1, .slice none 0 0, []) (t2, .slice none 0 0, []) (t3, .slice none 0 0, []) (t4, .slice none 0 0, []) i).2.1).ownBlock = none := fun i hi => by
    match i, hi with
    | 0, _ => rfl
    | 1, _ => rfl
    | 2, _ => rfl
    | 3, _ => rfl
  refine ⟨hB.trans (c1.mono hB.size), ⟨_, h1, fun k _ e => Nat.le_trans hB.size e, fun i hi k hk => by rw [nb i hi] at hk; cases hk⟩, fun i hi => ?_, fun i j hi _ _ => .inl (nb i hi)⟩
  match i, hi with
  | 0, _ => exact World.ownsRow_nil _ _ _ _
  | 1, _ => exact World.ownsRow_nil _ _ _ _
  | 2, _ => exact World.ownsRow_nil _ _ _ _
  | 3, _ => exact World.ownsRow_nil _ _ _ _
end Go.Am.Tmf
