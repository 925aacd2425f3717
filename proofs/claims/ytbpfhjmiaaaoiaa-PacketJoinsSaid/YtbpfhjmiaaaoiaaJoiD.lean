/-
  Joiner: the small methods; Feed of a packet that adds nothing. Own work.
-/
import Derived.Test.YtbpfhjmiaaaoiaaJoiC
import Derived.Lib.Hide
import Derived.WalkKit
import Derived.WalkSpells
import Derived.StillTailTactics
import Derived.Deep.RegionLaw
import Derived.Deep.AppendLies
import Derived.Shelf.RegionOpen
import Derived.Deep.RegionWith
namespace Go.Am.Joi
open Go Go.Am Go.Am.Lib Go.Lib Go.Proofs Go.RowKit
open Go.Am.Own
open Go.Am.Pkt (G0 none_ok)
set_option maxRecDepth 100000

theorem gok0 (w : World) : GOk G0 w := fun _ _ h => by cases h
theorem flat_calls {f : FuncId} {s : Spec} (hs : SpecOk Try.prog G0 f s) (w : World) {args : List Value} (ha : flatL args = true) {v : Value} (hv : flat v = true) (h : s args [] fun u h => u = v ∧ h = []) :
    Calls Try.prog f ⟨args⟩ w fun e w' => e = .returned v ∧ Below w.heap.size w w' := calls_flat hs (gok0 w) (fun _ _ => rfl) (Nat.le_refl _) ha hv h
theorem valid_calls (c : Bool) (a f n : Int) (d : ByteArray) (w : World) : Calls Try.prog 13 #[.agg #[.bool c, .int .i64 a, .int .i64 f, .int .i64 n, .string d]] w fun e w' => e = .returned (.bool (Pkt.validB a f n d)) ∧ Below w.heap.size w w' :=
  flat_calls Pkt.okVal w (args := [Pkt.pkV c a f n d]) rfl (v := .bool (Pkt.validB a f n d)) rfl ⟨rfl, rfl⟩
theorem none_nil (w : World) : Calls Try.prog 34 #[.pointer none] w fun e w' => e = .returned (.bool true) ∧ w = w' := by
  go_enter Try.func34, Try.ntmps34
  go_wp2
  go_ret
  exact ⟨rfl, rfl⟩
theorem none_zero (b : Nat) (w : World) (hc : w.cell? ⟨b, 0, none⟩ = some (.map none)) : Calls Try.prog 34 #[.pointer (some ⟨b, 0, none⟩)] w fun e w' => e = .returned (.bool true) ∧ w = w' := by
  have q := fun (w : World) (r : Option Nat) => run_eql_map_nil (P := Try.prog) w _ _ _ r Try.underlying36
  go_enter Try.func34, Try.ntmps34
  go_wp2
  go_ret
  exact ⟨rfl, rfl⟩
theorem none_calls (b mb : Nat) (w : World) (hc : w.cell? ⟨b, 0, none⟩ = some (.map (some mb))) : Calls Try.prog 34 #[.pointer (some ⟨b, 0, none⟩)] w fun e w' => e = .returned (.bool false) ∧ w = w' := by
  have q := fun (w : World) (r : Option Nat) => run_eql_map_nil (P := Try.prog) w _ _ _ r Try.underlying36
  go_enter Try.func34, Try.ntmps34
  go_wp2
  go_ret
  exact ⟨rfl, rfl⟩
end Go.Am.Joi
