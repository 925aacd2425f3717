/-
  Cltu: a parser in memory. Own work.
-/
import Derived.Test.YtoeepogoogcbiaaDoorCltAB
import Derived.Laws.IdiomStrings
namespace Go.Am.Clt
open Go Go.Am Go.Am.Lib Go.Lib Go.Proofs Go.RowKit
set_option maxRecDepth 100000

theorem ownsRow_ne {w : World} {B e e' size size' : Nat} {v v' : Value} {n n' : Nat} {xs xs' : List Value} (h : w.ownsRow B e size v n xs) (h' : w.ownsRow B e' size' v' n' xs') (hne : e ≠ e') : v.ownBlock = none ∨ v.ownBlock ≠ v'.ownBlock := by
  rcases h.2 with ⟨h2, _⟩ | ⟨g, cap, cur, e1, _, e3, _⟩
  · left; rw [h2]; rfl
  · right
    rcases h'.2 with ⟨h2, _⟩ | ⟨g', cap', cur', f1, _, f3, _⟩
    · rw [e1, h2]; intro h; cases h
    · rw [e1, f1]; intro h
      have hg : g = g' := by injection h
      rw [hg, f3] at e3
      injection e3 with e3
      injection e3 with _ e3 _
      exact hne e3.symm
theorem ownsRow_neb {w : World} {B e size : Nat} {v : Value} {n : Nat} {xs : List Value} {b T : Nat} {cs : Array Value} {fr : Nat × Nat} (h : w.ownsRow B e size v n xs) (hb : w.heap[b]? = some (.cells cs T fr)) (hne : e ≠ T) : v.ownBlock ≠ some b := by
  rcases h.2 with ⟨h2, _⟩ | ⟨g, cap, cur, e1, _, e3, _⟩
  · rw [h2]; intro h; cases h
  · rw [e1]; intro h
    have hg : g = b := by injection h
    rw [hg, hb] at e3
    injection e3 with e3
    injection e3 with _ e3 _
    exact hne e3.symm
theorem ownsRow_nne {w : World} {B e size : Nat} {v : Value} {n : Nat} {xs : List Value} {b T : Nat} {cs : Array Value} {fr : Nat × Nat} (h : w.ownsRow B e size v n xs) (hb : w.heap[b]? = some (.cells cs T fr)) (hne : e ≠ T) : v.ownBlock = none ∨ v.ownBlock ≠ some b := Or.inr (ownsRow_neb h hb hne)

/-- Only the blocks in S are others. -/
structure FrS (S : Nat → Prop) (w w' : World) : Prop where
  os : w'.os = w.os
  tape : w'.tape = w.tape
  output : w'.output = w.output
  size : w.heap.size ≤ w'.heap.size
  block : ∀ k, ¬ S k → w'.heap[k]? = w.heap[k]?
theorem lt_of_not {S : Nat → Prop} {n k : Nat} (hS : ∀ k, n ≤ k → S k) (hk : ¬ S k) : k < n := by
  rcases Nat.lt_or_ge k n with h | h
  · exact h
  · exact absurd (hS k h) hk
theorem FrS.refl (S : Nat → Prop) (w : World) : FrS S w w := ⟨rfl, rfl, rfl, Nat.le_refl _, fun _ _ => rfl⟩
theorem FrS.trans {S : Nat → Prop} {w w1 w2 : World} (h : FrS S w w1) (h2 : FrS S w1 w2) : FrS S w w2 :=
  ⟨h2.os.trans h.os, h2.tape.trans h.tape, h2.output.trans h.output, Nat.le_trans h.size h2.size, fun k hk => (h2.block k hk).trans (h.block k hk)⟩
theorem FrS.alloc {S : Nat → Prop} {w w1 : World} (h : FrS S w w1) (hS : ∀ k, w1.heap.size ≤ k → S k) (o : Obj) : FrS S w (w1.alloc o) :=
  ⟨h.os, h.tape, h.output, Nat.le_trans h.size (by show _ ≤ (w1.heap.push _).size; rw [Array.size_push]; omega), fun k hk => ((World.grownBy_alloc w1 o none).block k (lt_of_not hS hk) (by simp)).trans (h.block k hk)⟩
theorem FrS.grown {S : Nat → Prop} {w w1 w2 : World} {row : Option Nat} (h : FrS S w w1) (hg : w1.grownBy w2 row) (hS : ∀ k, w1.heap.size ≤ k → S k) (hr : ∀ k, row = some k → S k) : FrS S w w2 :=
  ⟨hg.os.trans h.os, hg.tape.trans h.tape, hg.output.trans h.output, Nat.le_trans h.size hg.size, fun k hk => (hg.block k (lt_of_not hS hk) (fun e => hk (hr k e.symm))).trans (h.block k hk)⟩
theorem FrS.drew {S : Nat → Prop} {w w' : World} (h : FrS S w w') : FrS S w w'.drew := ⟨h.os, h.tape, h.output, h.size, h.block⟩
theorem OnlyB.fr {S : Nat → Prop} {b : Nat} {w w' : World} (h : OnlyB b w w') (hb : S b) : FrS S w w' := ⟨h.os, h.tape, h.output, Nat.le_of_eq h.size.symm, fun k hk => h.rest k fun e => hk (by rw [e]; exact hb)⟩
theorem fr_of {S : Nat → Prop} {w1 w2 : World} (h : Below w1.heap.size w1 w2) (hS : ∀ k, w1.heap.size ≤ k → S k) : FrS S w1 w2 := ⟨h.os, h.tape, h.output, h.size, fun k hk => h.block k (lt_of_not hS hk)⟩
theorem FrS.below {S : Nat → Prop} {B0 : Nat} {w w' : World} (h : FrS S w w') (h1 : ∀ k, k < B0 → ¬ S k) : Below B0 w w' := { os := h.os, tape := h.tape, output := h.output, size := h.size, block := fun k hk => h.block k (h1 k hk) }
theorem up_S {S : Nat → Prop} {w w' : World} (hS : ∀ k, w.heap.size ≤ k → S k) (h : w.heap.size ≤ w'.heap.size) : ∀ k, w'.heap.size ≤ k → S k := fun k hk => hS k (Nat.le_trans h hk)
/-- A parser's block and its three rows; S: what a call may change. -/
structure PC (S : Nat → Prop) (b : Nat) (tk kn la v1 v2 bg v3 : Value) (d bl : ByteArray) (fs : List ByteArray) (w : World) : Prop where
  hS : ∀ k, w.heap.size ≤ k → S k
  hb : S b
  cell : w.heap[b]? = some (.cells #[tk, kn, la, v1, v2, bg, v3] 49 (0, 0))
  r1 : w.ownsRow 0 5 1 v1 d.size (strCells d)
  r2 : w.ownsRow 0 5 1 v2 bl.size (strCells bl)
  r3 : w.ownsRow 0 9 1 v3 fs.length (fs.map .string)
  s1 : ∀ k, v1.ownBlock = some k → S k
  s2 : ∀ k, v2.ownBlock = some k → S k
  s3 : ∀ k, v3.ownBlock = some k → S k
  dis : ∀ k, v1.ownBlock = some k → v2.ownBlock ≠ some k
section
variable {S : Nat → Prop} {b : Nat} {tk kn la v1 v2 bg v3 : Value} {d bl : ByteArray} {fs : List ByteArray} {w w' : World}
theorem PC.lt (h : PC S b tk kn la v1 v2 bg v3 d bl fs w) : b < w.heap.size := by
  rcases Nat.lt_or_ge b w.heap.size with h' | h'
  · exact h'
  · have := h.cell; rw [Array.getElem?_eq_none h'] at this; cases this
theorem PC.keep (h : PC S b tk kn la v1 v2 bg v3 d bl fs w) (hs : w.heap.size ≤ w'.heap.size) (hk : ∀ k, S k → k < w.heap.size → w'.heap[k]? = w.heap[k]?) : PC S b tk kn la v1 v2 bg v3 d bl fs w' :=
  { hS := up_S h.hS hs, hb := h.hb, cell := (hk b h.hb h.lt).trans h.cell, r1 := ownsRow_keep h.r1 fun k hv => hk k (h.s1 k hv) (h.r1.lt k hv).2, r2 := ownsRow_keep h.r2 fun k hv => hk k (h.s2 k hv) (h.r2.lt k hv).2, r3 := ownsRow_keep h.r3 fun k hv => hk k (h.s3 k hv) (h.r3.lt k hv).2, s1 := h.s1, s2 := h.s2, s3 := h.s3, dis := h.dis }
theorem PC.below (h : PC S b tk kn la v1 v2 bg v3 d bl fs w) (hb : Below w.heap.size w w') : PC S b tk kn la v1 v2 bg v3 d bl fs w' := h.keep hb.size fun k _ hk => hb.block k hk
theorem PC.drew (h : PC S b tk kn la v1 v2 bg v3 d bl fs w) : PC S b tk kn la v1 v2 bg v3 d bl fs w.drew := ⟨h.hS, h.hb, h.cell, h.r1, h.r2, h.r3, h.s1, h.s2, h.s3, h.dis⟩
/-- The parser's own cells are others. -/
theorem PC.cells {tk' kn' la' bg' : Value} (h : PC S b tk kn la v1 v2 bg v3 d bl fs w) (ho : OnlyB b w w') (hc : w'.heap[b]? = some (.cells #[tk', kn', la', v1, v2, bg', v3] 49 (0, 0))) : PC S b tk' kn' la' v1 v2 bg' v3 d bl fs w' :=
  { hS := up_S h.hS (Nat.le_of_eq ho.size.symm), hb := h.hb, cell := hc, r1 := ownsRow_keep h.r1 fun k hv => ho.rest k fun e => ownsRow_neb h.r1 h.cell (by decide) (by rw [hv, e]), r2 := ownsRow_keep h.r2 fun k hv => ho.rest k fun e => ownsRow_neb h.r2 h.cell (by decide) (by rw [hv, e]), r3 := ownsRow_keep h.r3 fun k hv => ho.rest k fun e => ownsRow_neb h.r3 h.cell (by decide) (by rw [hv, e]), s1 := h.s1, s2 := h.s2, s3 := h.s3, dis := h.dis }
/-- .. and data and block are nil. -/
theorem PC.cells_nil {tk' kn' la' bg' : Value} (h : PC S b tk kn la v1 v2 bg v3 d bl fs w) (ho : OnlyB b w w') (hc : w'.heap[b]? = some (.cells #[tk', kn', la', .slice none 0 0, .slice none 0 0, bg', v3] 49 (0, 0))) : PC S b tk' kn' la' (.slice none 0 0) (.slice none 0 0) bg' v3 ⟨#[]⟩ ⟨#[]⟩ fs w' :=
  { hS := up_S h.hS (Nat.le_of_eq ho.size.symm), hb := h.hb, cell := hc, r1 := World.ownsRow_nil _ _ _ _, r2 := World.ownsRow_nil _ _ _ _, r3 := ownsRow_keep h.r3 fun k hv => ho.rest k fun e => ownsRow_neb h.r3 h.cell (by decide) (by rw [hv, e]), s1 := fun k hk => (by cases hk), s2 := fun k hk => (by cases hk), s3 := h.s3, dis := fun k hk => by cases hk }
theorem grown_cell (h : PC S b tk kn la v1 v2 bg v3 d bl fs w) {row : Option Nat} (hg : w.grownBy w' row) (hr : row ≠ some b) : w'.heap[b]? = some (.cells #[tk, kn, la, v1, v2, bg, v3] 49 (0, 0)) :=
  (hg.block b h.lt (fun e => hr e.symm)).trans h.cell
/-- A row that grew lies in S. -/
theorem in_S {v v' : Value} (hS : ∀ k, w.heap.size ≤ k → S k) (hs : ∀ k, v.ownBlock = some k → S k) (hw : v'.ownBlock = v.ownBlock ∨ v'.ownBlock = some w.heap.size) : ∀ k, v'.ownBlock = some k → S k := by
  intro k hk
  rcases hw with e | e
  · exact hs k (by rw [← e]; exact hk)
  · rw [e] at hk; injection hk with hk; exact hS k (by omega)
/-- Block has grown. -/
theorem PC.grown2 (h : PC S b tk kn la v1 v2 bg v3 d bl fs w) {v' : Value} {bl' : ByteArray} (hr : w'.ownsRow 0 5 1 v' bl'.size (strCells bl')) (hg : w.grownBy w' v2.ownBlock) (hw : v'.ownBlock = v2.ownBlock ∨ v'.ownBlock = some w.heap.size) :
    PC S b tk kn la v1 v' bg v3 d bl' fs (w'.setCell ⟨b, 4, none⟩ v') := by
  have hcb := grown_cell h hg (ownsRow_neb h.r2 h.cell (by decide))
  have ho : OnlyB b w' (w'.setCell ⟨b, 4, none⟩ v') := (OnlyB.refl b w').setCell 4 _
  have k1 : w'.ownsRow 0 5 1 v1 d.size (strCells d) := h.r1.kept hg (by
    cases hq : v1.ownBlock with
    | none => exact Or.inl rfl
    | some k => exact Or.inr fun e => h.dis k hq e.symm)
  have k3 := h.r3.kept hg (ownsRow_ne h.r3 h.r2 (by decide))
  refine { hS := up_S (up_S h.hS hg.size) (Nat.le_of_eq ho.size.symm), hb := h.hb, cell := set_at (o := 4) (v := v') hcb, r1 := ownsRow_keep k1 fun k hv => ho.rest k fun e => ownsRow_neb k1 hcb (by decide) (by rw [hv, e]), r2 := ownsRow_keep hr fun k hv => ho.rest k fun e => ownsRow_neb hr hcb (by decide) (by rw [hv, e]), r3 := ownsRow_keep k3 fun k hv => ho.rest k fun e => ownsRow_neb k3 hcb (by decide) (by rw [hv, e]), s1 := h.s1, s2 := in_S h.hS h.s2 hw, s3 := h.s3, dis := ?_ }
  intro k hk e
  rcases hw with hw | hw
  · exact h.dis k hk (hw ▸ e)
  · rw [hw] at e
    have := (h.r1.lt k hk).2
    injection e with e
    omega
/-- Data has grown. -/
theorem PC.grown1 (h : PC S b tk kn la v1 v2 bg v3 d bl fs w) {v' : Value} {d' : ByteArray} (hr : w'.ownsRow 0 5 1 v' d'.size (strCells d')) (hg : w.grownBy w' v1.ownBlock) (hw : v'.ownBlock = v1.ownBlock ∨ v'.ownBlock = some w.heap.size) :
    PC S b tk kn la v' v2 bg v3 d' bl fs (w'.setCell ⟨b, 3, none⟩ v') := by
  have hcb := grown_cell h hg (ownsRow_neb h.r1 h.cell (by decide))
  have ho : OnlyB b w' (w'.setCell ⟨b, 3, none⟩ v') := (OnlyB.refl b w').setCell 3 _
  have k2 : w'.ownsRow 0 5 1 v2 bl.size (strCells bl) := h.r2.kept hg (by
    cases hq : v2.ownBlock with
    | none => exact Or.inl rfl
    | some k => exact Or.inr fun e => h.dis k e.symm hq)
  have k3 := h.r3.kept hg (ownsRow_ne h.r3 h.r1 (by decide))
  refine { hS := up_S (up_S h.hS hg.size) (Nat.le_of_eq ho.size.symm), hb := h.hb, cell := set_at (o := 3) (v := v') hcb, r2 := ownsRow_keep k2 fun k hv => ho.rest k fun e => ownsRow_neb k2 hcb (by decide) (by rw [hv, e]), r1 := ownsRow_keep hr fun k hv => ho.rest k fun e => ownsRow_neb hr hcb (by decide) (by rw [hv, e]), r3 := ownsRow_keep k3 fun k hv => ho.rest k fun e => ownsRow_neb k3 hcb (by decide) (by rw [hv, e]), s1 := in_S h.hS h.s1 hw, s2 := h.s2, s3 := h.s3, dis := ?_ }
  intro k hk e
  rcases hw with hw | hw
  · exact h.dis k (hw ▸ hk) e
  · rw [hw] at hk
    have := (h.r2.lt k e).2
    injection hk with hk
    omega
/-- Found has grown. -/
theorem PC.grown3 (h : PC S b tk kn la v1 v2 bg v3 d bl fs w) {v' : Value} {fs' : List ByteArray} (hr : w'.ownsRow 0 9 1 v' fs'.length (fs'.map .string)) (hg : w.grownBy w' v3.ownBlock) (hs : ∀ k, v'.ownBlock = some k → S k) :
    PC S b tk kn la v1 v2 bg v' d bl fs' (w'.setCell ⟨b, 6, none⟩ v') := by
  have hcb := grown_cell h hg (ownsRow_neb h.r3 h.cell (by decide))
  have ho : OnlyB b w' (w'.setCell ⟨b, 6, none⟩ v') := (OnlyB.refl b w').setCell 6 _
  have k1 := h.r1.kept hg (ownsRow_ne h.r1 h.r3 (by decide))
  have k2 := h.r2.kept hg (ownsRow_ne h.r2 h.r3 (by decide))
  exact { hS := up_S (up_S h.hS hg.size) (Nat.le_of_eq ho.size.symm), hb := h.hb, cell := set_at (o := 6) (v := v') hcb, r1 := ownsRow_keep k1 fun k hv => ho.rest k fun e => ownsRow_neb k1 hcb (by decide) (by rw [hv, e]), r2 := ownsRow_keep k2 fun k hv => ho.rest k fun e => ownsRow_neb k2 hcb (by decide) (by rw [hv, e]), r3 := ownsRow_keep hr fun k hv => ho.rest k fun e => ownsRow_neb hr hcb (by decide) (by rw [hv, e]), s1 := h.s1, s2 := h.s2, s3 := hs, dis := h.dis }
/-- Block is cut to nothing. -/
theorem PC.cut2 {ao : Option Addr} {n cap : Nat} (h : PC S b tk kn la v1 (.slice ao n cap) bg v3 d bl fs w) : PC S b tk kn la v1 (.slice ao 0 cap) bg v3 d ⟨#[]⟩ fs (w.setCell ⟨b, 4, none⟩ (.slice ao 0 cap)) := by
  have ho : OnlyB b w (w.setCell ⟨b, 4, none⟩ (.slice ao 0 cap)) := (OnlyB.refl b w).setCell 4 _
  have hr2 : w.ownsRow 0 5 1 (.slice ao 0 cap) 0 [] := by
    obtain ⟨ao', cap', e⟩ := ownsRow_slice h.r2
    cases e
    exact ownsRow_empty h.r2
  exact { hS := up_S h.hS (Nat.le_of_eq ho.size.symm), hb := h.hb, cell := set_at (o := 4) (v := .slice ao 0 cap) h.cell, r1 := ownsRow_keep h.r1 fun k hv => ho.rest k fun e => ownsRow_neb h.r1 h.cell (by decide) (by rw [hv, e]), r2 := ownsRow_keep hr2 fun k hv => ho.rest k fun e => ownsRow_neb hr2 h.cell (by decide) (by rw [hv, e]), r3 := ownsRow_keep h.r3 fun k hv => ho.rest k fun e => ownsRow_neb h.r3 h.cell (by decide) (by rw [hv, e]), s1 := h.s1, s2 := fun k e => h.s2 k (by cases ao with | none => exact e | some a => exact e), s3 := h.s3, dis := fun k hk e => h.dis k hk (by cases ao with | none => exact e | some a => exact e) }
/-- What the parser holds, and new blocks. -/
def foot (b : Nat) (v1 v2 v3 : Value) (n k : Nat) : Prop := k = b ∨ v1.ownBlock = some k ∨ v2.ownBlock = some k ∨ v3.ownBlock = some k ∨ n ≤ k
/-- The parser in a later world, with as little as it needs. -/
theorem PC.shrink (h : PC S b tk kn la v1 v2 bg v3 d bl fs w) (hk : ∀ k, foot b v1 v2 v3 w.heap.size k → k < w.heap.size → w'.heap[k]? = w.heap[k]?) : PC (foot b v1 v2 v3 w'.heap.size) b tk kn la v1 v2 bg v3 d bl fs w' :=
  { hS := fun k hk => Or.inr (Or.inr (Or.inr (Or.inr hk))), hb := Or.inl rfl, cell := (hk b (Or.inl rfl) h.lt).trans h.cell, r1 := ownsRow_keep h.r1 fun k hv => hk k (Or.inr (Or.inl hv)) (h.r1.lt k hv).2, r2 := ownsRow_keep h.r2 fun k hv => hk k (Or.inr (Or.inr (Or.inl hv))) (h.r2.lt k hv).2, r3 := ownsRow_keep h.r3 fun k hv => hk k (Or.inr (Or.inr (Or.inr (Or.inl hv)))) (h.r3.lt k hv).2, s1 := fun k hv => Or.inr (Or.inl hv), s2 := fun k hv => Or.inr (Or.inr (Or.inl hv)), s3 := fun k hv => Or.inr (Or.inr (Or.inr (Or.inl hv))), dis := h.dis }
end
/-- The text of a row of bytes. -/
theorem conv_row {w : World} {B : Nat} {v : Value} {s : ByteArray} (h : w.ownsRow B 5 1 v s.size (strCells s)) : (convert 47 9 v).run Tryd.prog w = .ok (.string s) w := by
  rcases h.2 with ⟨hv, hn⟩ | ⟨g, cap, cur, hv, _⟩
  · have hs : s = ⟨#[]⟩ := by
      apply ByteArray.ext
      exact Array.eq_empty_of_size_eq_zero hn
    rw [hv, run_convert_bytes_string w 47 9 5 none 0 0 Tryd.underlying47 rfl rfl, hs]
    simp [Conv.bytesToString]
    rfl
  · have hl : s.data.toList.length = s.size := size_list s
    have hq := run_convert_bytes_back (P := Tryd.prog) w 47 9 5 ⟨g, 0, none⟩ cap s.data.toList Tryd.underlying47 rfl rfl (fun j hj => h.cells (g := g) (by rw [hv]; rfl) j _ (by
      have hj' : j < s.data.size := by rw [← Array.length_toList]; exact hj
      simp only [strCells, List.getElem?_map, List.getElem?_eq_getElem hj, Option.map_some]))
    rw [hl] at hq
    rw [hv, hq]
theorem strCells_push (s : ByteArray) (x : UInt8) : strCells (s.push x) = strCells s ++ [.int .u8 x.toNat] := by
  simp [strCells, ByteArray.push]
theorem strCells_append (s t : ByteArray) : strCells (s ++ t) = strCells s ++ strCells t := by
  simp [strCells]
end Go.Am.Clt
