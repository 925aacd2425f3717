/-
  The abstract machine, part 21: arguments that are arrays, structs, slices: what they are. Own work; plain lemmas.
-/
import Derived.Test.YtjbagcmcpmhfnaaDoorAm20
import Derived.OpenShut
import Derived.Deep.Slices
namespace Go.Am
open Go Go.RowKit Go.WideShapes Go.ChangeShapes

section
variable {H : Type} {enc : TypeId × Value → H} {P : Program} {w : World} {base : Nat} {spare : Nat → Bool} {held : Bool} {r : Reach} {b0 : Nat} {t : TypeId} {v : Value} {d : DataW H} {p : List MemPlace}
theorem take_one {α : Type} {l : List α} {i : Nat} {x : α} (h : (l.drop i).take 1 = [x]) : l[i]? = some x := by
  have := congrArg (fun l => l[0]?) h
  simpa using this
theorem okWide_agg (ht : (∃ fs, P.underlying t = some (.struct fs)) ∨ ∃ n e, P.underlying t = some (.array n e)) (h : Value.okWide P w r b0 t v) : ∃ cs, v = .agg cs := by
  unfold Value.okWide at h
  rcases ht with ⟨fs, ht⟩ | ⟨n, e, ht⟩
  · rw [ht] at h; obtain ⟨cs, rfl, _⟩ := h; exact ⟨cs, rfl⟩
  · rw [ht] at h; obtain ⟨cs, rfl, _⟩ := h; exact ⟨cs, rfl⟩
/-- An array of integers. -/
theorem open_arr {n : Nat} {e : TypeId} {k : IntKind} (ht : P.underlying t = some (.array n e)) (he : P.underlying e = some (.int k)) (hc : P.cellsOf e = 1) (hct : P.cellsOf t = n) (hv : Value.okWide P w r b0 t v) (h : DataW.Trod enc P w base spare held t v d p) :
    ∃ xs : List Int, xs.length = n ∧ v = .agg ⟨xs.map (Value.int k)⟩ ∧ ∀ x ∈ xs, (Lit.int k x).wf = true := by
  obtain ⟨⟨cs⟩, rfl⟩ := okWide_agg (.inr ⟨n, e, ht⟩) hv
  obtain ⟨m, hm⟩ := h
  obtain ⟨xs, m', _, _, hlen, hxl, hel⟩ := DataW.trod_array ht hm
  have hlen : cs.length = n := by rw [← hct]; exact hlen
  have each : ∀ i, i < n → ∃ z, cs[i]? = some (.int k z) ∧ (Lit.int k z).wf = true := by
    intro i hi
    have h1 := hel i hi
    rw [hc, Nat.mul_one, List.getElem?_eq_getElem (by omega)] at h1
    obtain ⟨z, e1, _, e3⟩ := DataW.trod_int he h1
    exact ⟨z, take_one e1, e3⟩
  refine ⟨cs.map intOf, by rw [List.length_map]; exact hlen, ?_, ?_⟩
  · congr 2
    apply List.ext_getElem?
    intro i
    by_cases hi : i < n
    · obtain ⟨z, e1, _⟩ := each i hi
      rw [List.map_map, List.getElem?_map, e1]; rfl
    · rw [List.getElem?_eq_none (by omega), List.getElem?_eq_none (by rw [List.length_map, List.length_map]; omega)]
  · intro x hx
    rw [List.mem_map] at hx
    obtain ⟨c, hc', rfl⟩ := hx
    obtain ⟨i, hi⟩ := List.getElem?_of_mem hc'
    obtain ⟨z, e1, e2⟩ := each i (by have := (List.getElem?_eq_some_iff.1 hi).1; omega)
    rw [hi] at e1; cases e1; exact e2
/-- A struct whose fields are one cell each. -/
theorem open_one {fs : Array Field} (ht : P.underlying t = some (.struct fs)) (hone : fs.toList.zipIdx.all (fun q => Nat.beq q.1.offset q.2 && Nat.beq (P.cellsOf q.1.type) 1) = true) (hC : P.cellsOf t = fs.size) (hv : Value.okWide P w r b0 t v)
    (h : DataW.Trod enc P w base spare held t v d p) : ∃ cs : List Value, v = .agg ⟨cs⟩ ∧ cs.length = fs.size ∧ ∀ (j : Nat) (f : Field) (c : Value), fs[j]? = some f → cs[j]? = some c → ∃ n y, DataW.trod enc P w base spare held n f.type [c] = some y := by
  obtain ⟨⟨cs⟩, rfl⟩ := okWide_agg (.inl ⟨fs, ht⟩) hv
  obtain ⟨m, hm⟩ := h
  obtain ⟨xs, m', _, _, hlen, hxl, hf⟩ := DataW.trod_struct ht hm
  have hlen : cs.length = fs.size := by rw [← hC]; exact hlen
  refine ⟨cs, rfl, hlen, fun j f c hj hc => ?_⟩
  have h1 := hf j f hj
  have hjl : j < fs.size := (Array.getElem?_eq_some_iff.1 hj).1
  have h2 : f.offset = j ∧ P.cellsOf f.type = 1 := by
    have hm : (f, j) ∈ fs.toList.zipIdx := by
      rw [List.mem_zipIdx_iff_getElem?]
      simpa using hj
    have := List.all_eq_true.1 hone _ hm
    rw [Bool.and_eq_true] at this
    exact ⟨Nat.eq_of_beq_eq_true this.1, Nat.eq_of_beq_eq_true this.2⟩
  have h3 : ((Value.agg ⟨cs⟩).cells.toList.drop f.offset).take (P.cellsOf f.type) = [c] := by
    rw [h2.1, h2.2]
    show (cs.drop j).take 1 = [c]
    obtain ⟨hl, e⟩ := List.getElem?_eq_some_iff.1 hc
    rw [List.drop_eq_getElem_cons hl, e]; rfl
  rw [h3, List.getElem?_eq_getElem (by omega)] at h1
  exact ⟨_, _, h1⟩
end

/-! ### slices whose elements are one cell -/
theorem add_at (b o j : Nat) : (⟨b, o, none⟩ : Addr).add j = ⟨b, o + j, none⟩ := by
  unfold Addr.add
  split
  · rename_i h; rw [h]; rfl
  · rfl
/-- The block that a slice argument lies in, and the argument, as the abstract machine has them. -/
def blkA (vs : List Value) (t : TypeId) : AObj := match vs with
  | [] => .dead
  | _ => .ro vs t
theorem blkA_live (vs : List Value) (t : TypeId) : (blkA vs t).liveB = false := by unfold blkA; split <;> rfl
/-- A slice of which each element is one plain cell: nil, or a block. -/
theorem slice_arg {w : World} {a : Addr} {len cap : Nat} {V : Nat → Value} (hle : len ≤ cap) (hsp : a.spot = none) (hcell : ∀ i, i < len → w.cell? (a.add i) = some (V i)) (hflat : ∀ i, i < len → flat (V i) = true ∧ oneB (V i) = true) :
    ∃ (t : TypeId) (q : PB), BlkOk w [] q (blkA ((List.range len).map V) t) w ∧ (∀ (φ : Phi) (i : Nat), φ[i]? = some q → VR φ (.slice (some ⟨i, 0, some 0⟩) len 0) (.slice (some a) len cap)) := by
  by_cases h0 : len = 0
  · subst h0
    refine ⟨0, ⟨a.block, a.off + cap * 0, a.off⟩, trivial, fun φ i hi => ?_⟩
    obtain ⟨b, o, s⟩ := a
    cases hsp
    exact ⟨_, cap, o, hi, rfl, hle, fun _ => ⟨rfl, Nat.le_refl _⟩, fun h => by cases h⟩
  · obtain ⟨b, o, s⟩ := a
    cases hsp
    have hc0 := hcell 0 (by omega)
    rw [add_at] at hc0
    unfold World.cell? at hc0
    dsimp only at hc0
    have hlt : b < w.heap.size := by
      rcases Nat.lt_or_ge b w.heap.size with h | h
      · exact h
      · have : w.heap[b]? = none := Array.getElem?_eq_none h
        rw [this] at hc0; cases hc0
    have hob : w.heap[b]? = some (w.heap[b]'hlt) := Array.getElem?_eq_getElem hlt
    generalize w.heap[b]'hlt = ob at hob
    rw [hob] at hc0
    cases ob with
    | cells cs t fr =>
      have hget : ∀ i, i < len → cs[o + i]? = some (V i) := by
        intro i hi
        have := hcell i hi
        rw [add_at] at this
        unfold World.cell? at this
        dsimp only at this
        rw [hob] at this
        exact this
      have hsz : o + len ≤ cs.size := by
        have := hget (len - 1) (by omega)
        have := (Array.getElem?_eq_some_iff.1 this).1
        omega
      refine ⟨t, ⟨b, cs.size, o⟩, ?_, fun φ i hi => ⟨_, cap, o, hi, rfl, hle, fun _ => ⟨rfl, by rw [Nat.zero_div, Nat.mul_zero]; show o + 0 + 0 ≤ cs.size; omega⟩, fun h => by cases h⟩⟩
      have hne : (List.range len).map V ≠ [] := by
        intro e
        have := congrArg List.length e
        rw [List.length_map, List.length_range] at this
        exact h0 this
      unfold blkA
      split
      · trivial
      · refine ⟨hlt, flatL_mem.2 fun u hu => ?_, fun u hu => ?_, cs, fr, hob, rfl, cs.toList.take o, cs.toList.drop (o + len), ?_, by rw [List.length_take, Array.length_toList]; show min o cs.size = o; omega⟩
        · rw [List.mem_map] at hu
          obtain ⟨i, hi, rfl⟩ := hu
          exact (hflat i (List.mem_range.1 hi)).1
        · rw [List.mem_map] at hu
          obtain ⟨i, hi, rfl⟩ := hu
          have := (hflat i (List.mem_range.1 hi)).2
          generalize V i = x at this
          refine ⟨fun c e => ?_, fun c e => ?_⟩ <;> subst e <;> cases this
        · apply List.ext_getElem?
          intro i
          by_cases h1 : i < o
          · rw [List.getElem?_append_left (by rw [List.length_take, Array.length_toList]; omega), List.getElem?_take_of_lt h1]
          · rw [List.getElem?_append_right (by rw [List.length_take, Array.length_toList]; omega), List.length_take, Array.length_toList, Nat.min_eq_left (by omega)]
            by_cases h2 : i < o + len
            · rw [List.getElem?_append_left (by rw [List.length_map, List.length_range]; omega), List.getElem?_map, List.getElem?_range (by omega)]
              have := hget (i - o) (by omega)
              rw [show o + (i - o) = i by omega] at this
              rw [Array.getElem?_toList]
              exact this
            · rw [List.getElem?_append_right (by rw [List.length_map, List.length_range]; omega), List.length_map, List.length_range, List.getElem?_drop]
              congr 1; omega
    | _ => cases hc0
end Go.Am
