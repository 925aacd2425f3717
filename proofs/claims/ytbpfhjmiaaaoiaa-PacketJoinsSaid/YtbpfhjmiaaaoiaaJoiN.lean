/-
  Joiner: PacketMessage, walked. Own work.
-/
import Derived.Test.YtbpfhjmiaaaoiaaJoiM
namespace Go.Am.Joi
open Go Go.Am Go.Am.Lib Go.Lib Go.Proofs Go.RowKit
open Go.Am.Own
open Go.Am.Pkt (G0 manyP flP rowP badS sSplit okSplit)
set_option maxRecDepth 100000

/-- Packets, as a law is handed them. -/
def PksIn (w : World) (ao : Option Addr) (n : Nat) : Prop :=
  ∀ i, i < n → ∃ (x : Addr) (c : Bool) (a f k : Int) (d : ByteArray), ao = some x ∧ w.cell? (x.add (i * 5)) = some (.bool c) ∧ w.cell? ⟨(x.add (i * 5)).block, (x.add (i * 5)).off + 1, none⟩ = some (.int .i64 a) ∧ w.cell? ⟨(x.add (i * 5)).block, (x.add (i * 5)).off + 2, none⟩ = some (.int .i64 f) ∧
    w.cell? ⟨(x.add (i * 5)).block, (x.add (i * 5)).off + 3, none⟩ = some (.int .i64 k) ∧ w.cell? ⟨(x.add (i * 5)).block, (x.add (i * 5)).off + 4, none⟩ = some (.string d) ∧ (x.add (i * 5)).block < w.heap.size
theorem split_bad (c : Bool) (a n m : Int) (s : ByteArray) (h : badS a n m s = true) (w : World) : Calls Try.prog 20 #[.bool c, .int .i64 a, .int .i64 n, .string s, .int .i64 m] w fun e w' => e = .returned (.tuple #[.slice none 0 0, .int .i64 2]) ∧ Below w.heap.size w w' :=
  flat_calls okSplit w (args := [.bool c, .int .i64 a, .int .i64 n, .string s, .int .i64 m]) rfl (v := .tuple ⟨[.slice none 0 0, .int .i64 2]⟩) rfl (by show cond (badS a n m s) _ _; rw [h]; exact ⟨rfl, rfl⟩)
theorem split_long (c : Bool) (a n m : Int) (s : ByteArray) (h : badS a n m s = false) (hl : s.size > 16384) (w : World) : Calls Try.prog 20 #[.bool c, .int .i64 a, .int .i64 n, .string s, .int .i64 m] w fun e w' => e = .returned (.tuple #[.slice none 0 0, .int .i64 3]) ∧ Below w.heap.size w w' :=
  flat_calls okSplit w (args := [.bool c, .int .i64 a, .int .i64 n, .string s, .int .i64 m]) rfl (v := .tuple ⟨[.slice none 0 0, .int .i64 3]⟩) rfl (by show cond (badS a n m s) _ _; rw [h, cond_false, decide_eq_true hl]; exact ⟨rfl, rfl⟩)
abbrev cutV (c : Bool) (a n m : Int) (s : ByteArray) : Value := .agg #[.bool c, .int .i64 a, .int .i64 n, .int .i64 m, .string s]
abbrev cutO (c : Bool) (a n m : Int) (s : ByteArray) : Obj := .cells #[.bool c, .int .i64 a, .int .i64 n, .int .i64 m, .string s] 46 (0, 0)
set_option maxHeartbeats 3200000 in
theorem message_early {W0 : World} (c : Bool) (a n m : Int) (s : ByteArray) (ao : Option Addr) (no cap : Nat) (h : 20000 < s.size ∨ 100 < no) :
    Calls Try.prog 5 #[cutV c a n m s, .slice ao no cap] W0 fun e w' => e = .returned (.bool true) ∧ Below W0.heap.size W0 w' := by
  have b0 := (Below.refl W0.heap.size W0).alloc (Nat.le_refl _) (cutO c a n m s)
  obtain ⟨W1, hW1⟩ : ∃ W, W0.alloc (cutO c a n m s) = W := ⟨_, rfl⟩
  have c1 : W1.heap[W0.heap.size]? = some (cutO c a n m s) := by rw [← hW1]; exact heap_alloc_new W0 _
  have sz : W1.heap.size = W0.heap.size + 1 := by rw [← hW1, alloc_size]
  rw [hW1] at b0
  obtain ⟨q, hq⟩ : ∃ q, W0.heap.size = q := ⟨_, rfl⟩
  have hS := shown_calls W1
  rcases Nat.lt_or_ge 20000 s.size with h1 | h1
  · have h1' : (20000 : Int) < ((s.size : Nat) : Int) := by omega
    go_enter Try.func5, Try.ntmps5
    go_wp2_with (go_at_call 10; refine hS.mono ?_; rintro e W2 ⟨rfl, b2⟩; have dd : W2.heap[q]? = some (cutO c a n m s) := (by rw [← hq]; exact (b2.block _ (by omega)).trans c1); have d1 : W2.cell? ⟨q, 4, none⟩ = some (.string s) := cell_of dd; have g2 := b0.trans (b2.mono (by omega)))
    go_ret
    exact ⟨rfl, g2⟩
  · have h1' : ¬ (20000 : Int) < ((s.size : Nat) : Int) := by omega
    have h2' : (100 : Int) < ((no : Nat) : Int) := by omega
    go_enter Try.func5, Try.ntmps5
    go_wp2_with (go_at_call 10; refine hS.mono ?_; rintro e W2 ⟨rfl, b2⟩; have dd : W2.heap[q]? = some (cutO c a n m s) := (by rw [← hq]; exact (b2.block _ (by omega)).trans c1); have d1 : W2.cell? ⟨q, 4, none⟩ = some (.string s) := cell_of dd; have g2 := b0.trans (b2.mono (by omega)))
    go_ret
    exact ⟨rfl, g2⟩
set_option maxHeartbeats 3200000 in
theorem message_no {W0 : World} (c : Bool) (a n m : Int) (s : ByteArray) (ao : Option Addr) (no cap : Nat) (h1 : s.size ≤ 20000) (h2 : no ≤ 100) (er : Int) (her : (er != 0) = true)
    (hC : ∀ w, Calls Try.prog 20 #[.bool c, .int .i64 a, .int .i64 n, .string s, .int .i64 m] w fun e w' => e = .returned (.tuple #[.slice none 0 0, .int .i64 er]) ∧ Below w.heap.size w w') :
    Calls Try.prog 5 #[cutV c a n m s, .slice ao no cap] W0 fun e w' => e = .returned (.bool true) ∧ Below W0.heap.size W0 w' := by
  have b0 := (Below.refl W0.heap.size W0).alloc (Nat.le_refl _) (cutO c a n m s)
  obtain ⟨W1, hW1⟩ : ∃ W, W0.alloc (cutO c a n m s) = W := ⟨_, rfl⟩
  have c1 : W1.heap[W0.heap.size]? = some (cutO c a n m s) := by rw [← hW1]; exact heap_alloc_new W0 _
  have sz : W1.heap.size = W0.heap.size + 1 := by rw [← hW1, alloc_size]
  rw [hW1] at b0
  obtain ⟨q, hq⟩ : ∃ q, W0.heap.size = q := ⟨_, rfl⟩
  have hS := shown_calls W1
  have HC := Lib.hid hC
  have h1' : ¬ (20000 : Int) < ((s.size : Nat) : Int) := by omega
  have h2' : ¬ (100 : Int) < ((no : Nat) : Int) := by omega
  clear hC
  go_enter Try.func5, Try.ntmps5
  go_wp2_with (go_at_call 10; refine hS.mono ?_; rintro e W2 ⟨rfl, b2⟩; have dd : W2.heap[q]? = some (cutO c a n m s) := (by rw [← hq]; exact (b2.block _ (by omega)).trans c1); have d0 : W2.cell? ⟨q, 0, none⟩ = some (.bool c) := cell_of dd; have d1 : W2.cell? ⟨q, 1, none⟩ = some (.int .i64 a) := cell_of dd; have d2 : W2.cell? ⟨q, 2, none⟩ = some (.int .i64 n) := cell_of dd; have d3 : W2.cell? ⟨q, 3, none⟩ = some (.int .i64 m) := cell_of dd; have d4 : W2.cell? ⟨q, 4, none⟩ = some (.string s) := cell_of dd; have g2 := b0.trans (b2.mono (by omega)))
  go_wp2_with (go_at_call 20; refine (HC.out _).mono ?_; rintro e W3 ⟨rfl, b3⟩; have g3 := g2.trans (b3.mono g2.size))
  go_ret
  exact ⟨rfl, g3⟩
def iOf : Value → Nat
  | .int _ x => x.toNat
  | _ => 0
end Go.Am.Joi
