/-
  Tmframe: the reference's filler in memory; its New, Clear, Waiting. Own work.
-/
import Derived.Test.YtkhlicfnfiopnaaTmfAD
import Derived.Test.YtkhlicfnfiopnaaOwnB
namespace Go.Am.Tmf
open Go Go.Am Go.Am.Lib Go.Lib Go.Proofs Go.RowKit
open Go.Am.Own
set_option maxRecDepth 100000

def strB (l : L8) : ByteArray := ⟨⟨l⟩⟩
def cellS (L : List L8) : List Value := L.map fun l => .string (strB l)
theorem cellS_len (L : List L8) : (cellS L).length = L.length := by unfold cellS; rw [List.length_map]
theorem strB_size (l : L8) : (strB l).size = l.length := rfl
/-- The reference's filler: its block and its row. -/
structure RC (S : Nat → Prop) (b : Nat) (v : Value) (y : RS) (w : World) : Prop where
  hS : ∀ k, w.heap.size ≤ k → S k
  hb : S b
  cell : w.heap[b]? = some (.cells #[intV y.size, v, .bool y.begun, .string (strB y.rest)] 85 (0, 0))
  r : w.ownsRow 0 9 1 v y.L.length (cellS y.L)
  s : ∀ k, v.ownBlock = some k → S k
section
variable {S : Nat → Prop} {b : Nat} {v : Value} {y : RS} {w w' : World}
theorem RC.lt (h : RC S b v y w) : b < w.heap.size := by
  rcases Nat.lt_or_ge b w.heap.size with h' | h'
  · exact h'
  · have := h.cell; rw [Array.getElem?_eq_none h'] at this; cases this
theorem RC.keep (h : RC S b v y w) (hs : w.heap.size ≤ w'.heap.size) (hk : ∀ k, S k → k < w.heap.size → w'.heap[k]? = w.heap[k]?) : RC S b v y w' :=
  { hS := up_S h.hS hs, hb := h.hb, cell := (hk b h.hb h.lt).trans h.cell, r := ownsRow_keep h.r fun k hv => hk k (h.s k hv) (h.r.lt k hv).2, s := h.s }
theorem RC.below (h : RC S b v y w) (hb : Below w.heap.size w w') : RC S b v y w' := h.keep hb.size fun k _ hk => hb.block k hk
theorem RC.drew (h : RC S b v y w) : RC S b v y w.drew := ⟨h.hS, h.hb, h.cell, h.r, h.s⟩
theorem RC.c0 (h : RC S b v y w) : w.cell? ⟨b, 0, none⟩ = some (intV y.size) := cell_of h.cell
theorem RC.c1 (h : RC S b v y w) : w.cell? ⟨b, 1, none⟩ = some v := cell_of h.cell
theorem RC.c2 (h : RC S b v y w) : w.cell? ⟨b, 2, none⟩ = some (.bool y.begun) := cell_of h.cell
theorem RC.c3 (h : RC S b v y w) : w.cell? ⟨b, 3, none⟩ = some (.string (strB y.rest)) := cell_of h.cell
theorem RC.fz (h : RC S b v y w) (o : Nat) : w.frozen? ⟨b, o, none⟩ = false := fz_of h.cell o
theorem RC.grown_cell (h : RC S b v y w) {row : Option Nat} (hg : w.grownBy w' row) (hr : row ≠ some b) : w'.heap[b]? = some (.cells #[intV y.size, v, .bool y.begun, .string (strB y.rest)] 85 (0, 0)) :=
  (hg.block b h.lt (fun e => hr e.symm)).trans h.cell
/-- A cell that is no row is another. -/
theorem RC.setB (h : RC S b v y w) (t : Bool) : RC S b v { y with begun := t } (w.setCell ⟨b, 2, none⟩ (.bool t)) := by
  have ho : OnlyB b w (w.setCell ⟨b, 2, none⟩ (.bool t)) := (OnlyB.refl b w).setCell 2 _
  exact { hS := up_S h.hS (Nat.le_of_eq ho.size.symm), hb := h.hb, cell := set_at (o := 2) (v := .bool t) h.cell, r := ownsRow_keep h.r fun k hv => ho.rest k fun e => ownsRow_neb h.r h.cell (by decide) (by rw [hv, e]), s := h.s }
theorem RC.setR (h : RC S b v y w) (l : L8) : RC S b v { y with rest := l } (w.setCell ⟨b, 3, none⟩ (.string (strB l))) := by
  have ho : OnlyB b w (w.setCell ⟨b, 3, none⟩ (.string (strB l))) := (OnlyB.refl b w).setCell 3 _
  exact { hS := up_S h.hS (Nat.le_of_eq ho.size.symm), hb := h.hb, cell := set_at (o := 3) (v := .string (strB l)) h.cell, r := ownsRow_keep h.r fun k hv => ho.rest k fun e => ownsRow_neb h.r h.cell (by decide) (by rw [hv, e]), s := h.s }
/-- The row is another. -/
theorem RC.setL (h : RC S b v y w) {v' : Value} {L' : List L8} (hr : w'.ownsRow 0 9 1 v' L'.length (cellS L')) (hs : w.heap.size ≤ w'.heap.size) (hcb : w'.heap[b]? = w.heap[b]?) (hv : ∀ k, v'.ownBlock = some k → S k) :
    RC S b v' { y with L := L' } (w'.setCell ⟨b, 1, none⟩ v') := by
  have hc := hcb.trans h.cell
  have ho : OnlyB b w' (w'.setCell ⟨b, 1, none⟩ v') := (OnlyB.refl b w').setCell 1 _
  exact { hS := up_S (up_S h.hS hs) (Nat.le_of_eq ho.size.symm), hb := h.hb, cell := set_at (o := 1) (v := v') hc, r := ownsRow_keep hr fun k hk => ho.rest k fun e => ownsRow_neb hr hc (by decide) (by rw [hk, e]), s := hv }
theorem RC.bne (h : RC S b v y w) : ∀ k, v.ownBlock = some k → k ≠ b := fun k hk e => ownsRow_neb h.r h.cell (by decide) (by rw [hk, e])
theorem RC.str (h : RC S b v y w) {g cap : Nat} (hv : v = .slice (some ⟨g, 0, none⟩) y.L.length cap) {i : Nat} {l : L8} (hi : y.L[i]? = some l) : w.cell? ⟨g, i, none⟩ = some (.string (strB l)) := by
  have := h.r.cells (g := g) (by rw [hv]; rfl) i (.string (strB l)) (by unfold cellS; rw [List.getElem?_map, hi]; rfl)
  rw [Addr.add_lit, Nat.zero_add] at this
  exact this
end
def RAt (S : Nat → Prop) (b : Nat) (y : RS) (w : World) : Prop := ∃ v, RC S b v y w
def rs0 (n : Nat) : RS := ⟨n, [], false, []⟩
theorem rnew_at (n : Int) (h0 : 32 ≤ n) (h1 : n ≤ 200) (w : World) : Calls Try.prog 23 #[.int .i64 n] w fun e w' => e = .returned (.tuple #[.pointer (some ⟨w.heap.size, 0, none⟩), .int .i64 0]) ∧ RAt (fun k => w.heap.size ≤ k) w.heap.size (rs0 n.toNat) w' ∧ Below w.heap.size w w' := by
  go_enter Try.func23, Try.ntmps23
  go_wp2
  go_ret2
  refine ⟨rfl, ⟨.slice none 0 0, ?_⟩, (Below.refl _ w).alloc (Nat.le_refl _) _⟩
  have hn : intV n.toNat = .int .i64 n := by unfold intV; rw [Int.toNat_of_nonneg (by omega)]
  exact { hS := fun k hk => (by rw [alloc_size] at hk; show w.heap.size ≤ k; omega), hb := Nat.le_refl w.heap.size, cell := (by show _ = some (Obj.cells #[intV n.toNat, _, _, _] _ _); rw [hn]; exact heap_alloc_new w _), r := World.ownsRow_nil _ _ _ _, s := fun k hk => (by cases hk) }
theorem rnew_no (n : Int) (h : n < 32 ∨ 200 < n) (w : World) : Calls Try.prog 23 #[.int .i64 n] w fun e w' => e = .returned (.tuple #[.pointer none, .int .i64 2]) ∧ w = w' := by
  rcases h with h | h
  · go_enter Try.func23, Try.ntmps23
    go_wp2
    go_ret2
    exact ⟨rfl, rfl⟩
  · have h' : ¬ n < 32 := by omega
    go_enter Try.func23, Try.ntmps23
    go_wp2
    go_ret2
    exact ⟨rfl, rfl⟩
theorem rclear_calls {S : Nat → Prop} {b : Nat} {v : Value} {y : RS} {w : World} (h : RC S b v y w) :
    Calls Try.prog 26 #[.pointer (some ⟨b, 0, none⟩)] w fun e w' => e = .returned (.tuple #[]) ∧ RAt S b (rs0 y.size) w' ∧ FrS S w w' := by
  have c1 := h.c1
  have c2 := h.c2
  have c3 := h.c3
  have f1 := h.fz 1
  have f2 := h.fz 2
  have f3 := h.fz 3
  have h1 := h.setL (w' := w) (v' := .slice none 0 0) (L' := []) (World.ownsRow_nil _ _ _ _) (Nat.le_refl _) rfl (fun k hk => by cases hk)
  have h2 := (h1.setB false).setR []
  have b2 : OnlyB b w (((w.setCell ⟨b, 1, none⟩ (.slice none 0 0)).setCell ⟨b, 2, none⟩ (.bool false)).setCell ⟨b, 3, none⟩ (.string (strB []))) := (((OnlyB.refl b w).setCell 1 _).setCell 2 _).setCell 3 _
  go_enter Try.func26, Try.ntmps26
  go_wp2
  go_end0
  exact ⟨rfl, ⟨_, h2⟩, b2.fr h.hb⟩
end Go.Am.Tmf
