/-
  Cltu: the reference's Block: its loop. Own work.
-/
import Derived.Test.YtoeepogoogcbiaaDoorCltF
namespace Go.Am.Clt
open Go Go.Am Go.Am.Lib Go.Proofs
set_option maxRecDepth 100000

/-! ### the reference's Block -/
theorem take_all {α : Type} {L : List α} {n : Nat} (h : L.length = n) : List.take n (List.drop 0 L) = L := by rw [List.drop_zero, List.take_of_length_le (Nat.le_of_eq h)]
theorem bitV_app (a b : List Nat) : List.append (bitV a) (bitV b) = bitV (a ++ b) := by unfold bitV; rw [List.map_append]; rfl
theorem bitV_one {x : Int} {b : Nat} (h : x = ((b : Nat) : Int)) : [Value.int .i64 x] = bitV [b] := by subst h; rfl
theorem gB5 (s : ByteArray) (u : Value) (v : Int) (F : Env → AHeap → Prop) :
    gcE cRBk.gc (keepE (cRBk.live 5) [(0, .string s), (4, .slice (some ⟨1, 0, some 0⟩) 1 2), (5, .int .i64 v)]) [.cells true [u] 3 false, .cells true [u] 3 false] F =
      F [(0, .string s), (4, .slice (some ⟨0, 0, some 0⟩) 1 2), (5, .int .i64 v)] [.cells true [u] 3 false] := by
  kernel_rfl
theorem gB5' (s : ByteArray) (L : List Value) (v : Int) (F : Env → AHeap → Prop) :
    gcE cRBk.gc (keepE (cRBk.live 5) [(0, .string s), (4, .slice (some ⟨0, 0, some 0⟩) 1 2), (5, .int .i64 v)]) [.cells true L 3 false] F =
      F [(0, .string s), (4, .slice (some ⟨0, 0, some 0⟩) 1 2), (5, .int .i64 v)] [.cells true L 3 false] := by
  kernel_rfl
theorem bits_one (s : ByteArray) : bitV [bitN s (Int.toNat 0)] = bitV (bitsL s 1) := rfl
attribute [local irreducible] bitsL bitsC bitV
theorem loopB5 : ∀ e h k, TB5 e h k → ∃ m, loopN cRBk (codeOf Tryd.f11) 0 5 m e h k := by
  intro e h k hT
  unfold TB5 at hT
  split at hT
  · rename_i s i
    obtain ⟨hs, hi, hk⟩ := hT
    obtain ⟨N, hN⟩ : ∃ N : Nat, N = 55 := ⟨55, rfl⟩
    refine ⟨N + 1 + 1, ?_⟩
    have key : ∀ n j : Nat, ∀ mv : Bool, n + j = 56 → 0 < j → (mv = true ∨ j = 1) → loopN cRBk (codeOf Tryd.f11) 0 5 (n + 1) [(0, .string s), (4, .slice (some ⟨0, 0, some 0⟩) j 2), (5, .int .i64 ((j : Nat) : Int))] [.cells true (bitV (bitsL s j)) 3 mv] k := by
      intro n
      induction n with
      | zero =>
        intro j mv hj h0 hm
        obtain rfl : mv = true := by rcases hm with h | h; exact h; omega
        have e : 56 = j := by omega
        rw [e] at hk
        rw [loopN_succ]
        show tB5 s j (bitV (bitsL s j)) true (j : Nat) _
        rw [tB5_eq, dF (by omega)]
        exact hk
      | succ n ih =>
        intro j mv hj h0 hm
        rw [loopN_succ]
        show tB5 s j (bitV (bitsL s j)) mv (j : Nat) _
        rw [tB5_eq, dT (by omega)]
        refine ⟨by omega, by omega, by show ((j : Nat) : Int) / 8 < _; omega, ?_⟩
        intro x1 h1
        rw [Int.toNat_natCast] at h1
        rw [bitV_len, bitsL_len, dT2 (by omega) (by omega), Nat.mul_one, take_all (by rw [bitV_len, bitsL_len]), bitV_one h1, bitV_app, ← bitsL_succ]
        intro x2 h2
        rw [iAdd_i64 (by omega) (by omega)] at h2
        obtain rfl : x2 = ((j + 1 : Nat) : Int) := by omega
        have hn := ih (j + 1) true (by omega) (by omega) (Or.inl rfl)
        rw [loopN_succ] at hn ⊢
        change tB5 s (j + 1) (bitV (bitsL s (j + 1))) true ((j + 1 : Nat) : Int) _ at hn
        show tB5 s (j + 1) (bitV (bitsL s (j + 1))) true ((j + 1 : Nat) : Int) _
        exact hn
    have hn := key N 1 false (by omega) (by omega) (Or.inr rfl)
    rw [loopN_succ]
    show tB5n s i _
    rw [tB5n_eq, dT (by omega)]
    refine ⟨by omega, by omega, by show i / 8 < _; omega, ?_⟩
    intro x1 h1 x2 h2
    rw [hi, iAdd_i64 (by omega) (by omega)] at h2
    rw [hi] at h1
    obtain rfl : x2 = ((1 : Nat) : Int) := by omega
    rw [loopN_succ, gB5'] at hn
    rw [loopN_succ, gB5, bitV_one h1, bits_one]
    exact hn
  · exact hT.elim
end Go.Am.Clt
