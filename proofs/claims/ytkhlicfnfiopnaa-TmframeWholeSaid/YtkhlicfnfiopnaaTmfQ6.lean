/-
  Tmframe: the two fillers answer alike. Own work; plain mathematics.
-/
import Derived.Test.YtkhlicfnfiopnaaTmfQ3
namespace Go.Am.Tmf
open Go Go.Am Go.Am.Lib Go.Proofs
set_option maxRecDepth 100000

theorem Rel.zero {n : Nat} (lo : 32 ≤ n) (hi : n ≤ 200) : Rel (fs0 n) (rs0 n) :=
  { size := rfl, lo := lo, hi := hi, q := rfl, idle := rfl, rest := Nat.zero_le _, st := rfl, ne := fun p hp => (by cases hp), bg := fun _ => rfl }
theorem Rel.addE {x : FS} {y : RS} (h : Rel x y) (p : ByteArray) : Tmf.addE x p = raddE y p := by
  unfold Tmf.addE raddE
  rw [h.wait]
theorem getE_ne {p : ByteArray} (h : Pkt.getE p = 0) : p.data.toList ≠ [] := by
  intro e
  have hs := size_list p
  rw [e] at hs
  have h0 : p.size = 0 := by simpa using hs.symm
  have h1 : Pkt.takeE p = 0 ∧ Pkt.pL p = p.size := by
    unfold Pkt.getE at h
    split at h
    · assumption
    · cases h
  have h2 : Pkt.takeE p ≠ 0 := by
    unfold Pkt.takeE
    split
    · decide
    · rw [if_pos (by omega)]; decide
  exact h2 h1.1
/-- After an Add the two are alike again. -/
theorem Rel.added {x : FS} {y : RS} (h : Rel x y) (p : ByteArray) : Rel (if Tmf.addE x p = 0 then x.add p.data.toList else x) (if raddE y p = 0 then y.add p.data.toList else y) := by
  rw [← h.addE p]
  by_cases h0 : Tmf.addE x p = 0
  · rw [if_pos h0, if_pos h0]
    refine h.add (getE_ne ?_)
    unfold Tmf.addE at h0
    split at h0
    · cases h0
    · rename_i hn
      rcases getE_cases p with e | e
      · exact e
      · exact absurd (.inl (by rw [e]; decide)) hn
  · rw [if_neg h0, if_neg h0]; exact h
end Go.Am.Tmf
