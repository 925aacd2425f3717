/-
  A summary whose result is a slice of a block of its own, as a contract of the kit's. Own work.
-/
import Derived.Test.YtbpfhjmiaaaoiaaAmY
import Derived.Test.YtbpfhjmiaaaoiaaOwnA
namespace Go.Am.Own
open Go Go.Am Go.Am.Lib Go.Lib Go.RowKit

theorem calls_block {P : Program} {G : Nat → Option (List Value)} {f : FuncId} {s : Spec} (hs : SpecOk P G f s) (w : World) (hG : GOk G w) {args : List Value} (ha : flatL args = true) {tl : List Value} (htl : flatL tl = true) {n c : Nat} (hn : 0 < n) {R : List Value} (hR : flatL R = true) {T : TypeId}
    (h : s args [] fun u h => ∃ mv, u = .tuple ⟨.slice (some ⟨0, 0, some 0⟩) n c :: tl⟩ ∧ h = [.cells true R T mv]) :
    Calls P f ⟨args⟩ w fun e w' => ∃ g o c', e = .returned (.tuple ⟨.slice (some ⟨g, o, none⟩) n c' :: tl⟩) ∧ w.heap.size ≤ g ∧ g < w'.heap.size ∧ n ≤ c' ∧ (∀ i v, R[i]? = some v → w'.cell? ⟨g, o + i, none⟩ = some v) ∧ Below w.heap.size w w' := by
  have S : Sim w [] [] w := { os := rfl, tape := rfl, out := rfl, size := Nat.le_refl _, old := fun _ _ => rfl, len := rfl, blk := fun i o p h => by simp at h, inj := fun i j p q h => by simp [liveB] at h }
  refine (hs w hG args [] _ h [] w ⟨args⟩ S (VRL_flatL ha)).mono ?_
  rintro e w' ⟨v', u, h', φ', rfl, ⟨mv, rfl, rfl⟩, hvr, S1, _⟩
  obtain ⟨cs', rfl, hvr⟩ := hvr
  obtain ⟨v1, vs, hcs, hv1, hvs⟩ := hvr
  have hvs2 := (VRL_flat φ' _ _ htl).1 hvs
  subst hvs2
  obtain ⟨p, c', o', hp, rfl, hle, ho, _⟩ := hv1
  obtain ⟨rfl, _⟩ := ho (by omega)
  obtain ⟨b1, b2, cs, fr, b3, b4, b5, pre, us, rest, b6, b7, b8, b9⟩ := S1.blk 0 _ p rfl hp
  have b9 := (VRL_flat φ' _ _ hR).1 b9
  subst b9
  refine ⟨p.b, p.sh + 0, c', ?_, b1, (Array.getElem?_eq_some_iff.1 b3).1, hle, fun i v hi => ?_, { os := S1.os, tape := S1.tape, output := S1.out, size := S1.size, block := fun n hn => S1.old n hn }⟩
  · have : cs' = ⟨.slice (some ⟨p.b, p.sh + 0, none⟩) n c' :: vs⟩ := Array.toList_inj.1 hcs
    rw [this]
  · rw [cell_of b3, Nat.add_zero, ← Array.getElem?_toList, b6, List.getElem?_append_right (by omega), show p.sh + i - pre.length = i by omega, List.getElem?_append_left (List.getElem?_eq_some_iff.1 hi).1, hi]
end Go.Am.Own
