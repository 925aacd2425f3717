/-
  Cltu: a parser in memory. Own work.
-/
import Derived.Test.YtoeepogoogcbiaaDoorCltAB
import Derived.Laws.IdiomStrings
namespace Go.Am.Clt
open Go Go.Am Go.Am.Lib Go.Lib Go.Proofs Go.RowKit
set_option maxRecDepth 100000

theorem ownsRow_ne {w : World} {B e e' size size' : Nat} {v v' : Value} {n n' : Nat} {xs xs' : List Value} (h : w.ownsRow B e size v n xs) (h' : w.ownsRow B e' size' v' n' xs') (hne : e ≠ e') : v.ownBlock = none ∨ v.ownBlock ≠ v'.ownBlock := by
  rcases h.2 with ⟨h2, _⟩ | ⟨g, cap, cur, e1, _, e3, _⟩
  · left; rw [h2]; rfl
  · right
    rcases h'.2 with ⟨h2, _⟩ | ⟨g', cap', cur', f1, _, f3, _⟩
    · rw [e1, h2]; intro h; cases h
    · rw [e1, f1]; intro h
      have hg : g = g' := by injection h
      rw [hg, f3] at e3
      injection e3 with e3
      injection e3 with _ e3 _
      exact hne e3.symm
theorem ownsRow_neb {w : World} {B e size : Nat} {v : Value} {n : Nat} {xs : List Value} {b T : Nat} {cs : Array Value} {fr : Nat × Nat} (h : w.ownsRow B e size v n xs) (hb : w.heap[b]? = some (.cells cs T fr)) (hne : e ≠ T) : v.ownBlock ≠ some b := by
  rcases h.2 with ⟨h2, _⟩ | ⟨g, cap, cur, e1, _, e3, _⟩
  · rw [h2]; intro h; cases h
  · rw [e1]; intro h
    have hg : g = b := by injection h
    rw [hg, hb] at e3
    injection e3 with e3
    injection e3 with _ e3 _
    exact hne e3.symm
theorem ownsRow_nne {w : World} {B e size : Nat} {v : Value} {n : Nat} {xs : List Value} {b T : Nat} {cs : Array Value} {fr : Nat × Nat} (h : w.ownsRow B e size v n xs) (hb : w.heap[b]? = some (.cells cs T fr)) (hne : e ≠ T) : v.ownBlock = none ∨ v.ownBlock ≠ some b := Or.inr (ownsRow_neb h hb hne)

/-- Only block b and the blocks from B on are others. -/
structure FrB (B b : Nat) (w w' : World) : Prop where
  os : w'.os = w.os
  tape : w'.tape = w.tape
  output : w'.output = w.output
  size : w.heap.size ≤ w'.heap.size
  block : ∀ k, k < B → k ≠ b → w'.heap[k]? = w.heap[k]?
theorem FrB.refl (B b : Nat) (w : World) : FrB B b w w := ⟨rfl, rfl, rfl, Nat.le_refl _, fun _ _ _ => rfl⟩
theorem FrB.trans {B b : Nat} {w w1 w2 : World} (h : FrB B b w w1) (h2 : FrB B b w1 w2) : FrB B b w w2 :=
  ⟨h2.os.trans h.os, h2.tape.trans h.tape, h2.output.trans h.output, Nat.le_trans h.size h2.size, fun k hk hb => (h2.block k hk hb).trans (h.block k hk hb)⟩
theorem FrB.alloc {B b : Nat} {w w1 : World} (h : FrB B b w w1) (hB : B ≤ w1.heap.size) (o : Obj) : FrB B b w (w1.alloc o) :=
  ⟨h.os, h.tape, h.output, Nat.le_trans h.size (by show _ ≤ (w1.heap.push _).size; rw [Array.size_push]; omega), fun k hk hb => ((World.grownBy_alloc w1 o none).block k (Nat.lt_of_lt_of_le hk hB) (by simp)).trans (h.block k hk hb)⟩
theorem FrB.grown {B b : Nat} {w w1 w2 : World} {row : Option Nat} (h : FrB B b w w1) (hg : w1.grownBy w2 row) (hB : B ≤ w1.heap.size) (hr : ∀ k, row = some k → B ≤ k) : FrB B b w w2 :=
  ⟨hg.os.trans h.os, hg.tape.trans h.tape, hg.output.trans h.output, Nat.le_trans h.size hg.size, fun k hk hb => (hg.block k (Nat.lt_of_lt_of_le hk hB) (fun e => by have := hr k e.symm; omega)).trans (h.block k hk hb)⟩
theorem FrB.drew {B b : Nat} {w w' : World} (h : FrB B b w w') : FrB B b w w'.drew := ⟨h.os, h.tape, h.output, h.size, h.block⟩
theorem OnlyB.fr {B b : Nat} {w w' : World} (h : OnlyB b w w') : FrB B b w w' := ⟨h.os, h.tape, h.output, Nat.le_of_eq h.size.symm, fun k _ hk => h.rest k hk⟩
theorem fr_of {B B' b : Nat} {w w' : World} (h : Below B' w w') (hB : B ≤ B') : FrB B b w w' := ⟨h.os, h.tape, h.output, h.size, fun k hk _ => h.block k (Nat.lt_of_lt_of_le hk hB)⟩
theorem FrB.below {B b B0 : Nat} {w w' : World} (h : FrB B b w w') (h1 : B0 ≤ B) (h2 : B0 ≤ b) : Below B0 w w' := { os := h.os, tape := h.tape, output := h.output, size := h.size, block := fun k hk => h.block k (Nat.lt_of_lt_of_le hk h1) (by omega) }
theorem OnlyB.keepB {B b : Nat} {w w' : World} (h : OnlyB b w w') (hB : B ≤ w.heap.size) : B ≤ w'.heap.size := by rw [h.size]; exact hB
/-- A parser's block and its three rows. -/
structure PC (B b : Nat) (tk kn la v1 v2 bg v3 : Value) (d bl : ByteArray) (fs : List ByteArray) (w : World) : Prop where
  hB : B ≤ w.heap.size
  cell : w.heap[b]? = some (.cells #[tk, kn, la, v1, v2, bg, v3] 49 (0, 0))
  r1 : w.ownsRow B 5 1 v1 d.size (strCells d)
  r2 : w.ownsRow B 5 1 v2 bl.size (strCells bl)
  r3 : w.ownsRow B 9 1 v3 fs.length (fs.map .string)
  dis : ∀ k, v1.ownBlock = some k → v2.ownBlock ≠ some k
section
variable {B b : Nat} {tk kn la v1 v2 bg v3 : Value} {d bl : ByteArray} {fs : List ByteArray} {w w' : World}
theorem PC.lt (h : PC B b tk kn la v1 v2 bg v3 d bl fs w) : b < w.heap.size := by
  rcases Nat.lt_or_ge b w.heap.size with h' | h'
  · exact h'
  · have := h.cell; rw [Array.getElem?_eq_none h'] at this; cases this
theorem PC.keep (h : PC B b tk kn la v1 v2 bg v3 d bl fs w) (hs : w.heap.size ≤ w'.heap.size) (hk : ∀ k, (B ≤ k ∨ k = b) → k < w.heap.size → w'.heap[k]? = w.heap[k]?) : PC B b tk kn la v1 v2 bg v3 d bl fs w' :=
  { hB := Nat.le_trans h.hB hs, cell := (hk b (Or.inr rfl) h.lt).trans h.cell, r1 := ownsRow_keep h.r1 fun k hv => hk k (Or.inl (h.r1.lt k hv).1) (h.r1.lt k hv).2, r2 := ownsRow_keep h.r2 fun k hv => hk k (Or.inl (h.r2.lt k hv).1) (h.r2.lt k hv).2, r3 := ownsRow_keep h.r3 fun k hv => hk k (Or.inl (h.r3.lt k hv).1) (h.r3.lt k hv).2, dis := h.dis }
theorem PC.below (h : PC B b tk kn la v1 v2 bg v3 d bl fs w) (hb : Below w.heap.size w w') : PC B b tk kn la v1 v2 bg v3 d bl fs w' := h.keep hb.size fun k _ hk => hb.block k hk
/-- The parser's own cells are others. -/
theorem PC.cells {tk' kn' la' bg' : Value} (h : PC B b tk kn la v1 v2 bg v3 d bl fs w) (ho : OnlyB b w w') (hc : w'.heap[b]? = some (.cells #[tk', kn', la', v1, v2, bg', v3] 49 (0, 0))) : PC B b tk' kn' la' v1 v2 bg' v3 d bl fs w' :=
  { hB := ho.keepB h.hB, cell := hc, r1 := ownsRow_keep h.r1 fun k hv => ho.rest k fun e => ownsRow_neb h.r1 h.cell (by decide) (by rw [hv, e]), r2 := ownsRow_keep h.r2 fun k hv => ho.rest k fun e => ownsRow_neb h.r2 h.cell (by decide) (by rw [hv, e]), r3 := ownsRow_keep h.r3 fun k hv => ho.rest k fun e => ownsRow_neb h.r3 h.cell (by decide) (by rw [hv, e]), dis := h.dis }
/-- .. and data and block are nil. -/
theorem PC.cells_nil {tk' kn' la' bg' : Value} (h : PC B b tk kn la v1 v2 bg v3 d bl fs w) (ho : OnlyB b w w') (hc : w'.heap[b]? = some (.cells #[tk', kn', la', .slice none 0 0, .slice none 0 0, bg', v3] 49 (0, 0))) : PC B b tk' kn' la' (.slice none 0 0) (.slice none 0 0) bg' v3 ⟨#[]⟩ ⟨#[]⟩ fs w' :=
  { hB := ho.keepB h.hB, cell := hc, r1 := World.ownsRow_nil _ _ _ _, r2 := World.ownsRow_nil _ _ _ _, r3 := ownsRow_keep h.r3 fun k hv => ho.rest k fun e => ownsRow_neb h.r3 h.cell (by decide) (by rw [hv, e]), dis := fun k hk => by cases hk }
theorem grown_cell (h : PC B b tk kn la v1 v2 bg v3 d bl fs w) {row : Option Nat} (hg : w.grownBy w' row) (hr : row ≠ some b) : w'.heap[b]? = some (.cells #[tk, kn, la, v1, v2, bg, v3] 49 (0, 0)) :=
  (hg.block b h.lt (fun e => hr e.symm)).trans h.cell
/-- Block has grown. -/
theorem PC.grown2 (h : PC B b tk kn la v1 v2 bg v3 d bl fs w) {v' : Value} {bl' : ByteArray} (hr : w'.ownsRow B 5 1 v' bl'.size (strCells bl')) (hg : w.grownBy w' v2.ownBlock) (hw : v'.ownBlock = v2.ownBlock ∨ v'.ownBlock = some w.heap.size) :
    PC B b tk kn la v1 v' bg v3 d bl' fs (w'.setCell ⟨b, 4, none⟩ v') := by
  have hcb := grown_cell h hg (ownsRow_neb h.r2 h.cell (by decide))
  have ho : OnlyB b w' (w'.setCell ⟨b, 4, none⟩ v') := (OnlyB.refl b w').setCell 4 _
  have k1 : w'.ownsRow B 5 1 v1 d.size (strCells d) := h.r1.kept hg (by
    cases hq : v1.ownBlock with
    | none => exact Or.inl rfl
    | some k => exact Or.inr fun e => h.dis k hq e.symm)
  have k3 := h.r3.kept hg (ownsRow_ne h.r3 h.r2 (by decide))
  refine { hB := ho.keepB (Nat.le_trans h.hB hg.size), cell := set_at (o := 4) (v := v') hcb, r1 := ownsRow_keep k1 fun k hv => ho.rest k fun e => ownsRow_neb k1 hcb (by decide) (by rw [hv, e]), r2 := ownsRow_keep hr fun k hv => ho.rest k fun e => ownsRow_neb hr hcb (by decide) (by rw [hv, e]), r3 := ownsRow_keep k3 fun k hv => ho.rest k fun e => ownsRow_neb k3 hcb (by decide) (by rw [hv, e]), dis := ?_ }
  intro k hk e
  rcases hw with hw | hw
  · exact h.dis k hk (hw ▸ e)
  · rw [hw] at e
    have := (h.r1.lt k hk).2
    injection e with e
    omega
/-- Data has grown. -/
theorem PC.grown1 (h : PC B b tk kn la v1 v2 bg v3 d bl fs w) {v' : Value} {d' : ByteArray} (hr : w'.ownsRow B 5 1 v' d'.size (strCells d')) (hg : w.grownBy w' v1.ownBlock) (hw : v'.ownBlock = v1.ownBlock ∨ v'.ownBlock = some w.heap.size) :
    PC B b tk kn la v' v2 bg v3 d' bl fs (w'.setCell ⟨b, 3, none⟩ v') := by
  have hcb := grown_cell h hg (ownsRow_neb h.r1 h.cell (by decide))
  have ho : OnlyB b w' (w'.setCell ⟨b, 3, none⟩ v') := (OnlyB.refl b w').setCell 3 _
  have k2 : w'.ownsRow B 5 1 v2 bl.size (strCells bl) := h.r2.kept hg (by
    cases hq : v2.ownBlock with
    | none => exact Or.inl rfl
    | some k => exact Or.inr fun e => h.dis k e.symm hq)
  have k3 := h.r3.kept hg (ownsRow_ne h.r3 h.r1 (by decide))
  refine { hB := ho.keepB (Nat.le_trans h.hB hg.size), cell := set_at (o := 3) (v := v') hcb, r2 := ownsRow_keep k2 fun k hv => ho.rest k fun e => ownsRow_neb k2 hcb (by decide) (by rw [hv, e]), r1 := ownsRow_keep hr fun k hv => ho.rest k fun e => ownsRow_neb hr hcb (by decide) (by rw [hv, e]), r3 := ownsRow_keep k3 fun k hv => ho.rest k fun e => ownsRow_neb k3 hcb (by decide) (by rw [hv, e]), dis := ?_ }
  intro k hk e
  rcases hw with hw | hw
  · exact h.dis k (hw ▸ hk) e
  · rw [hw] at hk
    have := (h.r2.lt k e).2
    injection hk with hk
    omega
/-- Found has grown. -/
theorem PC.grown3 (h : PC B b tk kn la v1 v2 bg v3 d bl fs w) {v' : Value} {fs' : List ByteArray} (hr : w'.ownsRow B 9 1 v' fs'.length (fs'.map .string)) (hg : w.grownBy w' v3.ownBlock) :
    PC B b tk kn la v1 v2 bg v' d bl fs' (w'.setCell ⟨b, 6, none⟩ v') := by
  have hcb := grown_cell h hg (ownsRow_neb h.r3 h.cell (by decide))
  have ho : OnlyB b w' (w'.setCell ⟨b, 6, none⟩ v') := (OnlyB.refl b w').setCell 6 _
  have k1 := h.r1.kept hg (ownsRow_ne h.r1 h.r3 (by decide))
  have k2 := h.r2.kept hg (ownsRow_ne h.r2 h.r3 (by decide))
  exact { hB := ho.keepB (Nat.le_trans h.hB hg.size), cell := set_at (o := 6) (v := v') hcb, r1 := ownsRow_keep k1 fun k hv => ho.rest k fun e => ownsRow_neb k1 hcb (by decide) (by rw [hv, e]), r2 := ownsRow_keep k2 fun k hv => ho.rest k fun e => ownsRow_neb k2 hcb (by decide) (by rw [hv, e]), r3 := ownsRow_keep hr fun k hv => ho.rest k fun e => ownsRow_neb hr hcb (by decide) (by rw [hv, e]), dis := h.dis }
/-- Block is cut to nothing. -/
theorem PC.cut2 {ao : Option Addr} {n cap : Nat} (h : PC B b tk kn la v1 (.slice ao n cap) bg v3 d bl fs w) : PC B b tk kn la v1 (.slice ao 0 cap) bg v3 d ⟨#[]⟩ fs (w.setCell ⟨b, 4, none⟩ (.slice ao 0 cap)) := by
  have ho : OnlyB b w (w.setCell ⟨b, 4, none⟩ (.slice ao 0 cap)) := (OnlyB.refl b w).setCell 4 _
  have hr2 : w.ownsRow B 5 1 (.slice ao 0 cap) 0 [] := by
    obtain ⟨ao', cap', e⟩ := ownsRow_slice h.r2
    cases e
    exact ownsRow_empty h.r2
  exact { hB := ho.keepB h.hB, cell := set_at (o := 4) (v := .slice ao 0 cap) h.cell, r1 := ownsRow_keep h.r1 fun k hv => ho.rest k fun e => ownsRow_neb h.r1 h.cell (by decide) (by rw [hv, e]), r2 := ownsRow_keep hr2 fun k hv => ho.rest k fun e => ownsRow_neb hr2 h.cell (by decide) (by rw [hv, e]), r3 := ownsRow_keep h.r3 fun k hv => ho.rest k fun e => ownsRow_neb h.r3 h.cell (by decide) (by rw [hv, e]), dis := fun k hk e => h.dis k hk (by cases ao with | none => exact e | some a => exact e) }
end
/-- The text of a row of bytes. -/
theorem conv_row {w : World} {B : Nat} {v : Value} {s : ByteArray} (h : w.ownsRow B 5 1 v s.size (strCells s)) : (convert 47 9 v).run Tryd.prog w = .ok (.string s) w := by
  rcases h.2 with ⟨hv, hn⟩ | ⟨g, cap, cur, hv, _⟩
  · have hs : s = ⟨#[]⟩ := by
      apply ByteArray.ext
      exact Array.eq_empty_of_size_eq_zero hn
    rw [hv, run_convert_bytes_string w 47 9 5 none 0 0 Tryd.underlying47 rfl rfl, hs]
    simp [Conv.bytesToString]
    rfl
  · have hl : s.data.toList.length = s.size := size_list s
    have hq := run_convert_bytes_back (P := Tryd.prog) w 47 9 5 ⟨g, 0, none⟩ cap s.data.toList Tryd.underlying47 rfl rfl (fun j hj => h.cells (g := g) (by rw [hv]; rfl) j _ (by
      have hj' : j < s.data.size := by rw [← Array.length_toList]; exact hj
      simp only [strCells, List.getElem?_map, List.getElem?_eq_getElem hj, Option.map_some]))
    rw [hl] at hq
    rw [hv, hq]
theorem strCells_push (s : ByteArray) (x : UInt8) : strCells (s.push x) = strCells s ++ [.int .u8 x.toNat] := by
  simp [strCells, ByteArray.push]
theorem strCells_append (s t : ByteArray) : strCells (s ++ t) = strCells s ++ strCells t := by
  simp [strCells]
end Go.Am.Clt
