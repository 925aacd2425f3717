/-
  Joiner: a row of bytes whose block may bear a frozen mark behind its cells (what []byte(s) makes); appending to it. Own work; append after the kit's law for rows that bear no mark.
-/
import Derived.Test.YtbpfhjmiaaaoiaaOwnA
import Derived.Test.YtbpfhjmiaaaoiaaPktG2
import Derived.Laws.IdiomStrings
import Derived.Laws.Slices
namespace Go.Am.Joi
open Go Go.Am Go.Am.Lib Go.Lib Go.Proofs Go.RowKit
open Go.Am.Own
set_option maxRecDepth 100000

abbrev L8 := List UInt8
/-- The cells of bytes. -/
def cellB (l : L8) : List Value := l.map fun b => Value.int .u8 b.toNat
theorem cellB_len (l : L8) : (cellB l).length = l.length := by unfold cellB; rw [List.length_map]
theorem strCells_cellB (s : ByteArray) : strCells s = cellB s.data.toList := rfl
theorem size_list (s : ByteArray) : s.data.toList.length = s.size := Array.length_toList
/-- A frozen range that no cell lies in. -/
def Beyond (fz : Nat × Nat) (n : Nat) : Prop := ∀ j, j < n → ¬ (fz.1 ≤ j ∧ j < fz.2)
theorem beyond0 (n : Nat) : Beyond (0, 0) n := fun j _ h => Nat.not_lt_zero j h.2
theorem beyondN (n m : Nat) : Beyond (n, m) n := fun j hj h => by have := h.1; simp at this; omega
/-- A slice of bytes that holds l, from its block's first cell on. -/
def BRow (w : World) (v : Value) (l : L8) : Prop :=
  (v = .slice none 0 0 ∧ l = []) ∨ ∃ g cap cur fz, v = .slice (some ⟨g, 0, none⟩) l.length cap ∧ w.heap[g]? = some (.cells cur 5 fz) ∧ Beyond fz cur.size ∧ l.length ≤ cap ∧ cap ≤ maxLen ∧ cap ≤ cur.size ∧ cur.toList.take l.length = cellB l
theorem brow_nil (w : World) : BRow w (.slice none 0 0) [] := .inl ⟨rfl, rfl⟩
theorem BRow.slice {w : World} {v : Value} {l : L8} (h : BRow w v l) : ∃ ao cap, v = .slice ao l.length cap := by
  rcases h with ⟨e, rfl⟩ | ⟨g, cap, cur, fz, e, _⟩
  · exact ⟨_, _, e⟩
  · exact ⟨_, _, e⟩
theorem BRow.keep {w w' : World} {v : Value} {l : L8} (h : BRow w v l) (hk : ∀ k, v.ownBlock = some k → w'.heap[k]? = w.heap[k]?) : BRow w' v l := by
  rcases h with h | ⟨g, cap, cur, fz, e, e2, r⟩
  · exact .inl h
  · exact .inr ⟨g, cap, cur, fz, e, (hk g (by rw [e]; rfl)).trans e2, r⟩
theorem BRow.lt {w : World} {v : Value} {l : L8} (h : BRow w v l) : ∀ k, v.ownBlock = some k → k < w.heap.size := by
  intro k hk
  rcases h with ⟨e, _⟩ | ⟨g, cap, cur, fz, e, e2, _⟩
  · rw [e] at hk; cases hk
  · rw [e] at hk
    have hk : g = k := by injection hk
    subst hk
    exact (Array.getElem?_eq_some_iff.1 e2).1
theorem BRow.is {w : World} {v : Value} {l : L8} (h : BRow w v l) : ∀ k, v.ownBlock = some k → ∃ cur fz, w.heap[k]? = some (.cells cur 5 fz) := by
  intro k hk
  rcases h with ⟨e, _⟩ | ⟨g, cap, cur, fz, e, e2, _⟩
  · rw [e] at hk; cases hk
  · rw [e] at hk
    have hk : g = k := by injection hk
    subst hk
    exact ⟨cur, fz, e2⟩
theorem BRow.cells {w : World} {g n cap : Nat} {l : L8} (h : BRow w (.slice (some ⟨g, 0, none⟩) n cap) l) : ∀ j (hj : j < l.length), w.cell? ⟨g, j, none⟩ = some (.int .u8 (l[j].toNat : Int)) := by
  intro j hj
  rcases h with ⟨e, _⟩ | ⟨g', cap', cur, fz, e, e2, _, _, _, h4, h5⟩
  · cases e
  · injection e with q1 q2 q3
    injection q1 with q1
    injection q1 with q4
    subst q4
    rw [cell_of_row w g j cur _ fz e2]
    have hq : (cur.toList.take l.length)[j]? = (cellB l)[j]? := by rw [h5]
    rw [List.getElem?_take_of_lt hj] at hq
    have hq2 : (cellB l)[j]? = some (.int .u8 (l[j].toNat : Int)) := by
      unfold cellB; rw [List.getElem?_map, List.getElem?_eq_getElem hj]; rfl
    rw [hq2] at hq
    rw [← hq]
    simp
theorem info5 : ∃ i0, Try.prog.info? 5 = some i0 ∧ i0.zero = some (.int .u8 0) ∧ i0.size = 1 ∧ i0.bytes = 1 := by
  have h : (Try.prog.info? 5).map (fun i => (i.zero, i.size, i.bytes)) = some (some (.int .u8 0), 1, 1) := by kernel_rfl
  obtain ⟨i, h1, h2⟩ := Option.map_eq_some_iff.1 h
  simp only [Prod.mk.injEq] at h2
  exact ⟨i, h1, h2.1, h2.2.1, h2.2.2⟩
/-- The text. -/
theorem BRow.text {w : World} {v : Value} {l : L8} (h : BRow w v l) : (convert 66 9 v).run Try.prog w = .ok (.string ⟨⟨l⟩⟩) w := by
  have h0 := h
  rcases h with ⟨hv, hl⟩ | ⟨g, cap, cur, fz, hv, _⟩
  · rw [hv, run_convert_bytes_string w 66 9 5 none 0 0 Try.underlying66 rfl rfl, hl]
    simp [Conv.bytesToString]
    rfl
  · rw [hv] at h0 ⊢
    exact run_convert_bytes_back (P := Try.prog) w 66 9 5 ⟨g, 0, none⟩ cap l Try.underlying66 rfl rfl (fun j hj => by rw [Addr.add_lit, Nat.zero_add]; exact h0.cells j hj)
theorem BRow.of_owns {w : World} {B : Nat} {v : Value} {l : L8} (h : w.ownsRow B 5 1 v l.length (cellB l)) : BRow w v l := by
  rcases h.2 with ⟨hv, hn⟩ | ⟨g, cap, cur, hv, _, h2, h3, h4, h5, h6⟩
  · exact .inl ⟨hv, List.eq_nil_of_length_eq_zero hn⟩
  · exact .inr ⟨g, cap, cur, (0, 0), hv, h2, beyond0 _, h3, h4, by omega, by simpa using h6⟩
/-- The bytes of a string, in a block of their own. -/
theorem brow_new (w : World) (s : ByteArray) (hs : s.size ≤ 2 ^ 40) : ∃ cap w', (convert 9 66 (.string s)).run Try.prog w = .ok (.slice (some ⟨w.heap.size, 0, none⟩) s.size cap) w' ∧ BRow w' (.slice (some ⟨w.heap.size, 0, none⟩) s.size cap) s.data.toList ∧ Below w.heap.size w w' ∧ w'.heap.size = w.heap.size + 1 := by
  refine ⟨_, _, run_bytes_of_string w 9 66 5 s Try.underlying9 Try.underlying66 Try.underlying5, ?_, ((Below.refl _ w).drew).alloc (Nat.le_refl _) _, by rw [alloc_size]; rfl⟩
  have hsl := size_list s
  have hge := grownCap_ge w s.size 0 5
  have hle := grownCap_le_maxLen w s.size 0 5 (by unfold maxLen; omega)
  obtain ⟨cap, hcap⟩ : ∃ k, grownCap w s.size 0 5 = k := ⟨_, rfl⟩
  rw [hcap] at hge hle ⊢
  have hbs : (bytesRow s cap).size = cap := by
    unfold bytesRow
    have : s.data.size = s.size := rfl
    simp only [Array.size_append, Array.size_map, Array.size_replicate]
    omega
  refine .inr ⟨w.heap.size, cap, bytesRow s cap, _, by rw [hsl], heap_alloc_new w.drew _, beyondN _ _, by rw [hsl]; exact hge, hle, by rw [hbs]; exact Nat.le_refl _, ?_⟩
  unfold bytesRow
  rw [Array.toList_append, Array.toList_map]
  refine List.take_left' ?_
  rw [List.length_map]
theorem run_storeCells_beyond (P : Program) (g o : Nat) (t : TypeId) (fz : Nat × Nat) : ∀ (vs : List Value) (i : Nat) (cur : Array Value) (w : World), w.heap[g]? = some (.cells cur t fz) → Beyond fz cur.size → o + i + vs.length ≤ cur.size → (∀ v ∈ vs, v.oneCell' = true) →
    (storeCells ⟨g, o, none⟩ vs i).run P w = .ok () (w.setRow g (cur.toList.take (o + i) ++ vs ++ cur.toList.drop (o + i + vs.length)).toArray)
  | [], i, cur, w, hg, _, _, _ => by
    simp only [storeCells, List.append_nil, List.length_nil, Nat.add_zero, List.take_append_drop, Array.toArray_toList]
    rw [setRow_self w g cur t fz hg]
    rfl
  | v :: rest, i, cur, w, hg, hfz, hl, h1 => by
    have hi : o + i < cur.size := by simp at hl; omega
    have hadd : (⟨g, o, none⟩ : Addr).add i = ⟨g, o + i, none⟩ := by unfold Addr.add; split <;> simp_all
    have hcell : w.cell? ⟨g, o + i, none⟩ = some cur[o + i] := by simp [World.cell?, hg, hi]
    have hfro : w.frozen? ⟨g, o + i, none⟩ = false := by
      have h2 := hfz (o + i) hi
      obtain ⟨lo, hi'⟩ := fz
      simp only [World.frozen?, hg, Bool.and_eq_false_iff, decide_eq_false_iff_not]
      simp only at h2
      omega
    have hst : (store ((⟨g, o, none⟩ : Addr).add i) v).run P w = .ok () (w.setRow g (cur.setIfInBounds (o + i) v)) := by
      rw [hadd, _root_.Go.run_store P w _ v _ (h1 v (by simp)), hcell]
      simp [hfro, setCell_eq_setRow w g (o + i) cur t fz v hg]
    have ih := run_storeCells_beyond P g o t fz rest (i + 1) (cur.setIfInBounds (o + i) v) (w.setRow g (cur.setIfInBounds (o + i) v)) (setRow_heap w g cur _ t _ hg) (by simpa using hfz) (by simp at hl ⊢; omega) (fun x hx => h1 x (by simp [hx]))
    simp only [storeCells, Sem.run_bind, hst, Result.andThen_ok, ih, setRow_setRow]
    congr 3
    have e := list_seg_step cur.toList (o + i) v rest (by simp at hl ⊢; omega)
    simpa [Array.toList_setIfInBounds, Nat.add_assoc] using e
/-- Appending a string. -/
theorem BRow.append {w : World} {t u ty : TypeId} (ht : Try.prog.underlying t = some (.slice 5)) (hu : Try.prog.underlying u = some .string)
    {v : Value} {l : L8} (h : BRow w v l) (s : ByteArray) (hb : l.length + s.size ≤ 140737488355328) :
    ∃ v' w', (Builtin.append_ #[t, u] ty #[v, .string s]).run Try.prog w = .ok v' w' ∧ BRow w' v' (l ++ s.data.toList) ∧ w.grownBy w' v.ownBlock ∧ (v'.ownBlock = v.ownBlock ∨ v'.ownBlock = some w.heap.size) := by
  obtain ⟨i0, hi, hz0, hz1, hz2⟩ := info5
  have hsl : s.data.toList.length = s.size := size_list s
  have hcell : cellB (l ++ s.data.toList) = cellB l ++ strCells s := by unfold cellB strCells; rw [List.map_append]
  have h63 : l.length + s.size ≤ maxLen := by unfold maxLen; omega
  rcases h with ⟨rfl, rfl⟩ | ⟨g, cap, cur, fz, rfl, e2, e2', e3, e4, e5, e6⟩
  · obtain ⟨v', w', hr, h2, h3, h4⟩ := run_append_own_string (P := Try.prog) w 0 t u ty 5 i0 ht hu hi hz0 hz1 hz2 (.slice none 0 0) 0 [] (World.ownsRow_nil w 0 _ 1) s (by simpa using h63) (by simpa using hb) (Nat.zero_le _)
    have hw := where_str ht hu hi hz0 hz1 hz2 (World.ownsRow_nil w 0 5 1) (by simpa using h63) (by simpa using hb) h4 hr
    refine ⟨v', w', hr, BRow.of_owns (B := 0) ?_, h3, hw⟩
    rw [List.nil_append, hsl]
    simpa [strCells_cellB] using h2
  · by_cases hroom : l.length + s.size ≤ cap
    · have hf := run_firstCells_string (P := Try.prog) w 1 s
      have hst := run_storeCells_beyond Try.prog g l.length 5 fz (strCells s) 0 cur w e2 e2' (by rw [strCells_length]; omega) (strCells_oneCell s)
      simp only [Nat.add_zero, strCells_length] at hst
      refine ⟨.slice (some ⟨g, 0, none⟩) (l.length + s.size) cap, w.setRow g (cur.toList.take l.length ++ strCells s ++ cur.toList.drop (l.length + s.size)).toArray, ?_, ?_, ?_, .inl rfl⟩
      · simp [Builtin.append_, run_underlying ht, run_underlying hu, sizeOf, typeInfo, hi, hz1, Builtin.lenOf, hroom, hf, Addr.add_lit, hst]
      · have hcs : cur.toList.length = cur.size := Array.length_toList
        have hsz : (cur.toList.take l.length ++ strCells s ++ cur.toList.drop (l.length + s.size)).toArray.size = cur.size := by
          simp only [List.size_toArray, List.length_append, List.length_take, List.length_drop, Array.length_toList, strCells_length]
          omega
        refine .inr ⟨g, cap, _, fz, by rw [List.length_append, hsl], setRow_heap w g cur _ _ _ e2, by rw [hsz]; exact e2', by rw [List.length_append, hsl]; exact hroom, e4, by rw [hsz]; exact e5, ?_⟩
        rw [hcell, List.length_append, hsl, e6]
        refine List.take_left' ?_
        rw [List.length_append, cellB_len, strCells_length]
      · exact ⟨rfl, rfl, rfl, by simp, fun k _ hk => setRow_other w g k _ (fun e => hk (by simp [Value.ownBlock, e]))⟩
    · have holds : ∀ j x, (cellB l)[j]? = some x → w.cell? ((⟨g, 0, none⟩ : Addr).add j) = some x := by
        intro j x hx
        have hj : j < l.length := by
          have := (List.getElem?_eq_some_iff.1 hx).1
          rw [cellB_len] at this; exact this
        have hc := BRow.cells (w := w) (g := g) (n := l.length) (cap := cap) (l := l) (.inr ⟨g, cap, cur, fz, rfl, e2, e2', e3, e4, e5, e6⟩) j hj
        rw [Addr.add_lit, Nat.zero_add, hc]
        unfold cellB at hx
        rw [List.getElem?_map, List.getElem?_eq_getElem hj] at hx
        exact hx
      have hr := run_append_grow_string (P := Try.prog) w t u ty 5 i0 (.int .u8 0) ht hu hi hz0 ⟨g, 0, none⟩ l.length cap (cellB l) (by rw [hz1, cellB_len, Nat.mul_one]) holds s (by omega) (by unfold maxLen at h63; omega) (by rw [hz2]; exact growslice_fits (by omega) (by omega))
      refine ⟨_, _, hr, ?_, ⟨rfl, rfl, rfl, by simp, fun k hk _ => (World.grownBy_alloc w.drew _ none).block k hk (by simp)⟩, .inr rfl⟩
      have hge := grownCap_ge w (l.length + s.size) cap 5
      refine .inr ⟨w.heap.size, _, _, (0, 0), by rw [List.length_append, hsl], heap_alloc_new w.drew _, beyond0 _, by rw [List.length_append, hsl]; exact hge, grownCap_le_maxLen w (l.length + s.size) cap 5 h63, ?_, ?_⟩
      · have hz1' : (Value.int IntKind.u8 0).cells.size = 1 := rfl
        simp only [Array.size_append, List.size_toArray, size_zeroCells, hz1', cellB_len, strCells_length]
        omega
      · simp only [Array.toList_append, List.append_assoc]
        rw [← List.append_assoc, hcell]
        refine List.take_left' ?_
        rw [List.length_append, cellB_len, strCells_length, List.length_append, hsl]
theorem wpList_append_brow {w : World} {ops : Array Oper} {rest : List Oper} {o : Oper} {a : Act} {Q : Exit → Act → World → Prop} (hgd : o.guard = none) (sl x : Operand) (t u : TypeId)
    (ho : o.op = .call { callee := .builtin .append, args := #[sl, x], argTypes := #[t, u] }) (ht : Try.prog.underlying t = some (.slice 5)) (hu : Try.prog.underlying u = some .string)
    (v : Value) (l : L8) (hs : a.eval sl = v) (hv : BRow w v l) (s : ByteArray) (hx : a.eval x = .string s) (hb : l.length + s.size ≤ 140737488355328)
    (h : ∀ v' w', BRow w' v' (l ++ s.data.toList) → w.grownBy w' v.ownBlock → (v'.ownBlock = v.ownBlock ∨ v'.ownBlock = some w.heap.size) → wpList Try.prog ops Q rest (a.put o.dst v') w') : wpList Try.prog ops Q (o :: rest) a w := by
  refine wpList_plain hgd fun K hK => ?_
  obtain ⟨v', w', hr, h2, h3, h4⟩ := hv.append (t := t) (u := u) (ty := o.type) ht hu s hb
  unfold Oper.wp execOp
  simp only [ho, resolve, invoke, builtin, Sem.run_bind, Sem.run_pure, Result.andThen_ok, List.map_toArray, List.map_cons, List.map_nil, hs, hx, hr]
  exact hK _ _ (h v' w' h2 h3 h4)
end Go.Am.Joi
