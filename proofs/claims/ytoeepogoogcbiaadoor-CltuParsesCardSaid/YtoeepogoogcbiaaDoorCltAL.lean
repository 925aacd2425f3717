/-
  Cltu: CltuBlocks, CltuPuts. Own work.
-/
import Derived.Test.YtoeepogoogcbiaaDoorCltAK
import Derived.Test.YtoeepogoogcbiaaDoorCltX2
namespace Go.Am.Clt
open Go Go.Am Go.Am.Lib Go.Lib Go.Proofs Go.RowKit
set_option maxRecDepth 100000

section
variable {W0 : World} (hG : GOk G0 W0) {w : World} (hold : ∀ n, n < W0.heap.size → w.heap[n]? = W0.heap[n]?) (hsz : W0.heap.size ≤ w.heap.size)
include hG hold hsz
/-- A summary that knows no address, as a contract from a world on. -/
theorem from_spec {f : FuncId} {s : Spec} (hs : SpecOk Tryd.prog G0 f s) {args : List Value} (ha : flatL args = true) {v : Value} (hv : flat v = true) (h : s args [] fun u h => u = v ∧ h = []) :
    ∀ wx : World, Below w.heap.size w wx → Calls Tryd.prog f ⟨args⟩ wx fun e w' => e = .returned v ∧ Below w.heap.size w w' := by
  intro wx hb
  exact (calls_flat hs hG (old_below hsz hold hb) (Nat.le_trans hsz hb.size) ha hv h).mono fun e w' ⟨h1, h2⟩ => ⟨h1, hb.trans (h2.mono hb.size)⟩
theorem shown_from : ∀ wx : World, Below w.heap.size w wx → Calls Tryd.prog 9 #[] wx fun e w' => e = .returned (.bool true) ∧ Below w.heap.size w w' := by
  intro wx hb
  exact (shown_walk hG wx (old_below hsz hold hb) (Nat.le_trans hsz hb.size)).mono fun e w' ⟨h1, h2⟩ => ⟨h1, hb.trans (h2.mono hb.size)⟩
set_option maxHeartbeats 1600000 in
theorem blocks_walk (s t : ByteArray) (hs : s.size < 2 ^ 62) (ht : t.size < 2 ^ 62) :
    Calls Tryd.prog 3 #[.string s, .string t] w fun e w' => e = .returned (.bool true) ∧ Below w.heap.size w w' := by
  have cS := shown_from hG hold hsz
  have c1 := from_spec hG hold hsz (okBlk tabC_ok) (args := [.string s]) rfl (v := .tuple ⟨[.string (blkR s), .int .i64 (blkE s)]⟩) rfl ⟨hs, rfl, rfl⟩
  have c2 := from_spec hG hold hsz okRBk (args := [.string s]) rfl (v := .tuple ⟨[.string (blkR s), .int .i64 (blkE s)]⟩) rfl ⟨hs, rfl, rfl⟩
  have c3 := from_spec hG hold hsz (okChk tabC_ok) (args := [.string t]) rfl (v := .tuple ⟨[.string (chkS t), .int .i64 (chkW t), .int .i64 (chkE t)]⟩) rfl ⟨ht, rfl, rfl⟩
  have c4 := from_spec hG hold hsz okRCk (args := [.string t]) rfl (v := .tuple ⟨[.string (chkS t), .int .i64 (chkW t), .int .i64 (chkE t)]⟩) rfl ⟨ht, rfl, rfl⟩
  have hw : ¬ 9223372036854775807 < ((s.size : Nat) : Int) + ((t.size : Nat) : Int) := by omega
  have hw2 : IntKind.i64.wrap (((s.size : Nat) : Int) + ((t.size : Nat) : Int)) = ((s.size : Nat) : Int) + ((t.size : Nat) : Int) := by
    exact wrap_i64 (by omega) (by omega)
  go_enter Tryd.func3, Tryd.ntmps3
  go_wp2_with (go_at_call 9; refine (cS _ (Below.refl _ _)).mono ?_)
  first | rintro e W1 rfl b1 | rintro e W1 ⟨rfl, b1⟩
  by_cases hl : 5000 < ((s.size : Nat) : Int) + ((t.size : Nat) : Int)
  · go_wp2
    go_ret
    exact ⟨rfl, b1⟩
  · go_wp2_with (go_at_call 10; refine (c1 _ b1).mono ?_)
    first | rintro e W2 rfl b2 | rintro e W2 ⟨rfl, b2⟩
    go_wp2_with (go_at_call 11; refine (c2 _ b2).mono ?_)
    first | rintro e W3 rfl b3 | rintro e W3 ⟨rfl, b3⟩
    go_wp2_with (go_at_call 12; refine (c3 _ b3).mono ?_)
    first | rintro e W4 rfl b4 | rintro e W4 ⟨rfl, b4⟩
    go_wp2_with (go_at_call 13; refine (c4 _ b4).mono ?_)
    first | rintro e W5 rfl b5 | rintro e W5 ⟨rfl, b5⟩
    go_wp2
    go_ret
    exact ⟨rfl, b5⟩
set_option maxHeartbeats 1600000 in
theorem puts_walk (s : ByteArray) (hs : s.size < 2 ^ 62) :
    Calls Tryd.prog 4 #[.string s] w fun e w' => e = .returned (.bool true) ∧ Below w.heap.size w w' := by
  have cS := shown_from hG hold hsz
  have c1 := from_spec hG hold hsz okPut (args := [.string s]) rfl (v := .tuple ⟨[.string (putR s), .int .i64 (putE s)]⟩) rfl ⟨hs, rfl, rfl⟩
  have c2 := from_spec hG hold hsz okRPut (args := [.string s]) rfl (v := .tuple ⟨[.string (putR s), .int .i64 (putE s)]⟩) rfl ⟨hs, rfl, rfl⟩
  go_enter Tryd.func4, Tryd.ntmps4
  go_wp2_with (go_at_call 9; refine (cS _ (Below.refl _ _)).mono ?_)
  first | rintro e W1 rfl b1 | rintro e W1 ⟨rfl, b1⟩
  by_cases hl : 2000 < ((s.size : Nat) : Int)
  · go_wp2
    go_ret
    exact ⟨rfl, b1⟩
  · go_wp2_with (go_at_call 14; refine (c1 _ b1).mono ?_)
    first | rintro e W2 rfl b2 | rintro e W2 ⟨rfl, b2⟩
    go_wp2_with (go_at_call 15; refine (c2 _ b2).mono ?_)
    first | rintro e W3 rfl b3 | rintro e W3 ⟨rfl, b3⟩
    go_wp2
    go_ret
    exact ⟨rfl, b3⟩
end
end Go.Am.Clt
