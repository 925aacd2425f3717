/-
  Cltu: the parser that searches, walked the kit's way. Own work.
-/
import Derived.Test.YtoeepogoogcbiaaDoorCltY
namespace Go.Am.Clt
open Go Go.Am Go.Am.Lib Go.Proofs Go.RowKit
set_option maxRecDepth 100000

/-- The bits in which two bytes are not the start. -/
def wrongV (l x : Nat) : Int := bits BinOp.or IntKind.u16 (IntKind.u16.wrap (IntKind.u16.wrap (bits BinOp.xor IntKind.u8 ((l : Nat) : Int) 235) * 256)) (IntKind.u16.wrap (bits BinOp.xor IntKind.u8 ((x : Nat) : Int) 144))
def nearV (l x : Nat) : Bool := decide (bits BinOp.and IntKind.u16 (wrongV l x) (IntKind.u16.wrap (wrongV l x - 1)) = 0)
theorem OnlyB.drew {b : Nat} {w w' : World} (h : OnlyB b w w') : OnlyB b w w'.drew := ⟨h.os, h.tape, h.output, h.size, h.rest⟩
theorem OnlyB.of_drew {b : Nat} {w w' : World} (h : OnlyB b w.drew w') : OnlyB b w w' := ⟨h.os, h.tape, h.output, h.size, h.rest⟩
set_option maxHeartbeats 1600000 in
theorem search1_no (b : Nat) (w : World) (tk : Value) (kn : Bool) (l x : Nat) (v1 v2 bg v3 : Value) (hn : (kn && nearV l x) = false)
    (g0 : w.cell? ⟨0, 0, none⟩ = some (.int .u8 235)) (g1 : w.cell? ⟨0, 1, none⟩ = some (.int .u8 144))
    (hb : w.heap[b]? = some (.cells #[tk, .bool kn, .int .u8 (l : Nat), v1, v2, bg, v3] 49 (0, 0))) :
    Calls Tryd.prog 42 #[.pointer (some ⟨b, 0, none⟩), .int .u8 (x : Nat)] w fun e w' => e = .returned (.tuple #[]) ∧ OnlyB b w w' ∧
      w'.heap[b]? = some (.cells #[tk, .bool true, .int .u8 (x : Nat), v1, v2, bg, v3] 49 (0, 0)) := by
  have c1 : w.cell? ⟨b, 1, none⟩ = some (.bool kn) := cell_of hb
  have c2 : w.cell? ⟨b, 2, none⟩ = some (.int .u8 (l : Nat)) := cell_of hb
  have fz : ∀ o, w.frozen? ⟨b, o, none⟩ = false := by
    intro o; unfold World.frozen?; rw [hb]; simp
  have hV : bits BinOp.or IntKind.u16 (IntKind.u16.wrap (IntKind.u16.wrap (bits BinOp.xor IntKind.u8 ((l : Nat) : Int) 235) * 256)) (IntKind.u16.wrap (bits BinOp.xor IntKind.u8 ((x : Nat) : Int) 144)) = wrongV l x := rfl
  go_enter Tryd.func42, Tryd.ntmps42
  go_wp2
  go_region
  cases kn with
  | false =>
    go_wp2
    go_end0
    exact ⟨rfl, ((OnlyB.refl b w).drew.setCell 1 _).setCell 2 _, set_at (set_at hb)⟩
  | true =>
    have hq : ¬ bits BinOp.and IntKind.u16 (wrongV l x) (IntKind.u16.wrap (wrongV l x - 1)) = 0 := by
      have := hn
      unfold nearV at this
      simpa using this
    go_wp2
    go_end0
    exact ⟨rfl, ((OnlyB.refl b w).drew.setCell 1 _).setCell 2 _, set_at (set_at hb)⟩
set_option maxHeartbeats 1600000 in
theorem search1_yes (b : Nat) (w : World) (tk : Value) (l x : Nat) (v1 v2 bg v3 : Value) (hn : nearV l x = true)
    (g0 : w.cell? ⟨0, 0, none⟩ = some (.int .u8 235)) (g1 : w.cell? ⟨0, 1, none⟩ = some (.int .u8 144))
    (hb : w.heap[b]? = some (.cells #[tk, .bool true, .int .u8 (l : Nat), v1, v2, bg, v3] 49 (0, 0))) :
    Calls Tryd.prog 42 #[.pointer (some ⟨b, 0, none⟩), .int .u8 (x : Nat)] w fun e w' => e = .returned (.tuple #[]) ∧ OnlyB b w w' ∧
      w'.heap[b]? = some (.cells #[F49, .bool true, .int .u8 (l : Nat), v1, v2, .bool true, v3] 49 (0, 0)) := by
  have c1 : w.cell? ⟨b, 1, none⟩ = some (.bool true) := cell_of hb
  have c2 : w.cell? ⟨b, 2, none⟩ = some (.int .u8 (l : Nat)) := cell_of hb
  have hV : bits BinOp.or IntKind.u16 (IntKind.u16.wrap (IntKind.u16.wrap (bits BinOp.xor IntKind.u8 ((l : Nat) : Int) 235) * 256)) (IntKind.u16.wrap (bits BinOp.xor IntKind.u8 ((x : Nat) : Int) 144)) = wrongV l x := rfl
  have hq : bits BinOp.and IntKind.u16 (wrongV l x) (IntKind.u16.wrap (wrongV l x - 1)) = 0 := by
    have := hn
    unfold nearV at this
    simpa using this
  go_enter Tryd.func42, Tryd.ntmps42
  go_wp2
  go_region
  go_wp2_with (go_at_call 43; refine (begin_walk b w.drew _ _ _ _ _ _ _ hb).mono ?_)
  rintro e W1 ⟨rfl, h1, h2⟩
  go_wp2
  refine bodyPost_ret (results_none rfl _ _ _) rfl ?_
  exact ⟨rfl, h1.of_drew, h2⟩
end Go.Am.Clt
