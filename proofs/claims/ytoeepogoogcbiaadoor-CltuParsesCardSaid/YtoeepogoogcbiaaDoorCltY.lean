/-
  Cltu: the parser: its small methods, walked the kit's way. Own work.
-/
import Derived.Test.YtoeepogoogcbiaaDoorCltX2
import Derived.Laws.EntriesVeiled
namespace Go.Am.Clt
open Go Go.Am Go.Am.Lib Go.Proofs Go.RowKit
set_option maxRecDepth 100000

/-- Only block b is another one. -/
structure OnlyB (b : Nat) (w w' : World) : Prop where
  os : w'.os = w.os
  tape : w'.tape = w.tape
  output : w'.output = w.output
  size : w'.heap.size = w.heap.size
  rest : ∀ k, k ≠ b → w'.heap[k]? = w.heap[k]?
theorem OnlyB.refl (b : Nat) (w : World) : OnlyB b w w := ⟨rfl, rfl, rfl, rfl, fun _ _ => rfl⟩
theorem OnlyB.setCell {b : Nat} {w w' : World} (h : OnlyB b w w') (o : Nat) (v : Value) : OnlyB b w (w'.setCell ⟨b, o, none⟩ v) := by
  refine ⟨h.os, h.tape, h.output, ?_, fun k hk => ?_⟩
  · show (w'.heap.modify b _).size = _
    rw [Array.size_modify]; exact h.size
  · show (w'.heap.modify b _)[k]? = _
    rw [Array.getElem?_modify, if_neg (fun e => hk e.symm)]; exact h.rest k hk
theorem cell_of {w : World} {b o : Nat} {cs : Array Value} {t : TypeId} {fr : Nat × Nat} (h : w.heap[b]? = some (.cells cs t fr)) : w.cell? ⟨b, o, none⟩ = cs[o]? := by
  unfold World.cell?; rw [h]; rfl
theorem set_at {w : World} {b o : Nat} {cs : Array Value} {t : TypeId} {fr : Nat × Nat} {v : Value} (h : w.heap[b]? = some (.cells cs t fr)) : (w.setCell ⟨b, o, none⟩ v).heap[b]? = some (.cells (cs.setIfInBounds o v) t fr) := by
  show (w.heap.modify b _)[b]? = _
  rw [Array.getElem?_modify, if_pos rfl, h]; rfl
def F42 : Value := .func (.func 42) #[] #[]
def F49 : Value := .func (.func 49) #[] #[]

set_option maxHeartbeats 1600000 in
theorem search_walk (b : Nat) (w : World) (tk kn la v1 v2 bg v3 : Value) (hb : w.heap[b]? = some (.cells #[tk, kn, la, v1, v2, bg, v3] 49 (0, 0))) :
    Calls Tryd.prog 34 #[.pointer (some ⟨b, 0, none⟩)] w fun e w' => e = .returned (.tuple #[]) ∧ OnlyB b w w' ∧
      w'.heap[b]? = some (.cells #[F42, .bool false, la, .slice none 0 0, .slice none 0 0, .bool false, v3] 49 (0, 0)) := by
  have c0 : w.cell? ⟨b, 0, none⟩ = some tk := cell_of hb
  have c1 : w.cell? ⟨b, 1, none⟩ = some kn := cell_of hb
  have c3 : w.cell? ⟨b, 3, none⟩ = some v1 := cell_of hb
  have c4 : w.cell? ⟨b, 4, none⟩ = some v2 := cell_of hb
  have c5 : w.cell? ⟨b, 5, none⟩ = some bg := cell_of hb
  have fz : ∀ o, w.frozen? ⟨b, o, none⟩ = false := by
    intro o; unfold World.frozen?; rw [hb]; simp
  go_enter Tryd.func34, Tryd.ntmps34
  go_wp2
  go_end0
  exact ⟨rfl, ((((((OnlyB.refl b w).setCell 5 _).setCell 1 _).setCell 3 _).setCell 4 _).setCell 0 _), set_at (set_at (set_at (set_at (set_at hb))))⟩
set_option maxHeartbeats 1600000 in
theorem begin_walk (b : Nat) (w : World) (tk kn la v1 v2 bg v3 : Value) (hb : w.heap[b]? = some (.cells #[tk, kn, la, v1, v2, bg, v3] 49 (0, 0))) :
    Calls Tryd.prog 43 #[.pointer (some ⟨b, 0, none⟩)] w fun e w' => e = .returned (.tuple #[]) ∧ OnlyB b w w' ∧
      w'.heap[b]? = some (.cells #[F49, kn, la, v1, v2, .bool true, v3] 49 (0, 0)) := by
  have c0 : w.cell? ⟨b, 0, none⟩ = some tk := cell_of hb
  have c5 : w.cell? ⟨b, 5, none⟩ = some bg := cell_of hb
  have fz : ∀ o, w.frozen? ⟨b, o, none⟩ = false := by
    intro o; unfold World.frozen?; rw [hb]; simp
  go_enter Tryd.func43, Tryd.ntmps43
  go_wp2
  go_end0
  exact ⟨rfl, (((OnlyB.refl b w).setCell 5 _).setCell 0 _), set_at (set_at hb)⟩
theorem eq_nf (w : World) : (binOp BinOp.eql 46 .nilFunc .nilFunc).run Tryd.prog w = .ok (.bool true) w := by kernel_rfl
theorem eq_fn (w : World) (f : FuncId) : (binOp BinOp.eql 46 (.func (.func f) #[] #[]) .nilFunc).run Tryd.prog w = .ok (.bool false) w := by kernel_rfl
set_option maxHeartbeats 1600000 in
theorem none_walk (b : Nat) (w : World) (f : FuncId) (hb : w.cell? ⟨b, 0, none⟩ = some (.func (.func f) #[] #[])) :
    Calls Tryd.prog 35 #[.pointer (some ⟨b, 0, none⟩)] w fun e w' => e = .returned (.bool false) ∧ w' = w := by
  have hq := eq_fn w f
  go_enter Tryd.func35, Tryd.ntmps35
  go_wp2
  go_ret
  exact ⟨rfl, rfl⟩
set_option maxHeartbeats 1600000 in
theorem none_zero (b : Nat) (w : World) (hb : w.cell? ⟨b, 0, none⟩ = some .nilFunc) :
    Calls Tryd.prog 35 #[.pointer (some ⟨b, 0, none⟩)] w fun e w' => e = .returned (.bool true) ∧ w' = w := by
  have hq := eq_nf w
  go_enter Tryd.func35, Tryd.ntmps35
  go_wp2
  go_ret
  exact ⟨rfl, rfl⟩
set_option maxHeartbeats 1600000 in
theorem none_nil (w : World) :
    Calls Tryd.prog 35 #[.pointer none] w fun e w' => e = .returned (.bool true) ∧ w' = w := by
  go_enter Tryd.func35, Tryd.ntmps35
  go_wp2
  go_ret
  exact ⟨rfl, rfl⟩
theorem OnlyB.below {b B : Nat} {w w' : World} (h : OnlyB b w w') (hB : B ≤ b) : Below B w w' :=
  { os := h.os, tape := h.tape, output := h.output, size := Nat.le_of_eq h.size.symm, block := fun k hk => h.rest k (by omega) }
set_option maxHeartbeats 1600000 in
theorem new_walk (w : World) :
    Calls Tryd.prog 18 #[] w fun e w' => e = .returned (.pointer (some ⟨w.heap.size, 0, none⟩)) ∧ Below w.heap.size w w' ∧ w'.heap.size = w.heap.size + 1 ∧
      w'.heap[w.heap.size]? = some (.cells #[F42, .bool false, .int .u8 0, .slice none 0 0, .slice none 0 0, .bool false, .slice none 0 0] 49 (0, 0)) := by
  have hb : (w.alloc (.cells #[.nilFunc, .bool false, .int .u8 0, .slice none 0 0, .slice none 0 0, .bool false, .slice none 0 0] 49)).heap[w.heap.size]? = some (.cells #[.nilFunc, .bool false, .int .u8 0, .slice none 0 0, .slice none 0 0, .bool false, .slice none 0 0] 49 (0, 0)) := by
    show (w.heap.push _)[w.heap.size]? = _
    rw [Array.getElem?_push_size]
  have b0 : Below w.heap.size w (w.alloc (.cells #[.nilFunc, .bool false, .int .u8 0, .slice none 0 0, .slice none 0 0, .bool false, .slice none 0 0] 49)) := (Below.refl _ w).alloc (Nat.le_refl _) _
  have hs : (w.alloc (.cells #[.nilFunc, .bool false, .int .u8 0, .slice none 0 0, .slice none 0 0, .bool false, .slice none 0 0] 49)).heap.size = w.heap.size + 1 := Array.size_push _
  go_enter Tryd.func18, Tryd.ntmps18
  go_wp2_with (go_at_call 34; refine (search_walk w.heap.size _ _ _ _ _ _ _ _ hb).mono ?_)
  rintro e W1 ⟨rfl, h1, h2⟩
  go_wp2
  go_ret
  exact ⟨rfl, b0.trans (h1.below (Nat.le_refl _)), h1.size.trans hs, h2⟩
set_option maxHeartbeats 1600000 in
theorem locked_walk (b : Nat) (w : World) (f : FuncId) (kn la v1 v2 v3 : Value) (bg : Bool) (hb : w.heap[b]? = some (.cells #[.func (.func f) #[] #[], kn, la, v1, v2, .bool bg, v3] 49 (0, 0))) :
    Calls Tryd.prog 20 #[.pointer (some ⟨b, 0, none⟩)] w fun e w' => e = .returned (.bool bg) ∧ w' = w := by
  have c5 : w.cell? ⟨b, 5, none⟩ = some (.bool bg) := cell_of hb
  go_enter Tryd.func20, Tryd.ntmps20
  go_wp2_with (go_at_call 35; refine (none_walk b w f (cell_of hb)).mono ?_)
  rintro e W1 ⟨rfl, rfl⟩
  go_wp2
  go_ret
  exact ⟨rfl, rfl⟩
end Go.Am.Clt
