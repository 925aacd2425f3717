/-
  Tmframe: calls on a filler that is none. Own work.
-/
import Derived.Test.YtkhlicfnfiopnaaTmfQ2
namespace Go.Am.Tmf
open Go Go.Am Go.Am.Lib Go.Lib Go.Proofs Go.RowKit
open Go.Am.Own
set_option maxRecDepth 100000

def NoneAt (v : Value) (w : World) : Prop := Calls Try.prog 40 #[v] w fun e w' => e = .returned (.bool true) ∧ w = w'
theorem none_wait {ao : Option Addr} {w : World} (h : NoneAt (.pointer ao) w) : Calls Try.prog 19 #[.pointer ao] w fun e w' => e = .returned (.int .i64 0) ∧ w = w' := by
  go_enter Try.func19, Try.ntmps19
  go_wp2_with (go_at_call 40; refine Calls.mono h ?_; rintro e W1 ⟨rfl, rfl⟩)
  go_ret
  exact ⟨rfl, rfl⟩
theorem none_add {ao : Option Addr} {w : World} (p : ByteArray) (h : NoneAt (.pointer ao) w) : Calls Try.prog 18 #[.pointer ao, .string p] w fun e w' => e = .returned (.int .i64 1) ∧ w = w' := by
  go_enter Try.func18, Try.ntmps18
  go_wp2_with (go_at_call 40; refine Calls.mono h ?_; rintro e W1 ⟨rfl, rfl⟩)
  go_ret
  exact ⟨rfl, rfl⟩
theorem none_next {ao : Option Addr} {w : World} (h : ∀ w', Below w.heap.size w w' → NoneAt (.pointer ao) w') : Calls Try.prog 20 #[.pointer ao] w fun e w' => e = .returned (.tuple #[.string ⟨#[]⟩, .int .i64 0, .bool false]) ∧ Below w.heap.size w w' := by
  obtain ⟨F, hF⟩ : ∃ F, w.heap.size = F := ⟨_, rfl⟩
  have b1 := (Below.refl w.heap.size w).alloc (Nat.le_refl _) (.cells #[.int .i64 0] 3)
  have hwc := none_wait (h _ b1)
  have cF : (w.alloc (.cells #[.int .i64 0] 3)).heap[F]? = some (.cells #[.int .i64 0] 3 (0, 0)) := by rw [← hF]; exact heap_alloc_new w _
  have eF : (w.alloc (.cells #[.int .i64 0] 3)).cell? ⟨F, 0, none⟩ = some (.int .i64 0) := cell_of cF
  have fF : (w.alloc (.cells #[.int .i64 0] 3)).frozen? ⟨F, 0, none⟩ = false := fz_of cF 0
  have hof : OnlyB F (w.alloc (.cells #[.int .i64 0] 3)) ((w.alloc (.cells #[.int .i64 0] 3)).setCell ⟨F, 0, none⟩ (.int .i64 0)) := (OnlyB.refl F _).setCell 0 _
  have cF3 : ((w.alloc (.cells #[.int .i64 0] 3)).setCell ⟨F, 0, none⟩ (.int .i64 0)).cell? ⟨F, 0, none⟩ = some (.int .i64 0) := cell_of (set_at (o := 0) (v := .int .i64 0) cF)
  have b3 : Below w.heap.size w ((w.alloc (.cells #[.int .i64 0] 3)).setCell ⟨F, 0, none⟩ (.int .i64 0)) :=
    { os := hof.os.trans b1.os, tape := hof.tape.trans b1.tape, output := hof.output.trans b1.output, size := by rw [hof.size]; exact b1.size, block := fun k hk => (hof.rest k (by omega)).trans (b1.block k hk) }
  obtain ⟨W1, hW1⟩ : ∃ W, w.alloc (.cells #[.int .i64 0] 3) = W := ⟨_, rfl⟩
  rw [hF] at b3 ⊢
  rw [hW1] at hwc eF fF cF3 b3
  clear h b1 cF hof
  go_enter Try.func20, Try.ntmps20
  go_wp2_with (go_at_call 19; refine Calls.mono (by first | exact hwc | (rw [hW1]; exact hwc)) ?_; rintro e W2 ⟨rfl, rfl⟩)
  exact bodyPost_ret (v := .tuple #[.string ⟨#[]⟩, .int .i64 0, .bool false]) (by simp [results, Try.results20, go_sem, cF3]) rfl ⟨rfl, b3⟩
theorem none_at_nil (w : World) : NoneAt (.pointer none) w := none_nil w
theorem none_at_zero {b : Nat} {w : World} (hc : w.cell? ⟨b, 2, none⟩ = some (.int .i64 0)) : NoneAt (.pointer (some ⟨b, 0, none⟩)) w := none_zero b w hc
end Go.Am.Tmf
