/-
  Channels: the law of shares: its shares are drawn. Own work.
-/
import Derived.Test.YtlgpalokjckdcaaChaSf
import Derived.Test.YtlgpalokjckdcaaChaGL
namespace Go.Am.Cha
open Go Go.Am Go.Am.Lib Go.Lib Go.Proofs Go.RowKit
open Go.Am.Own
set_option maxRecDepth 100000
attribute [local go_sem] Oper.semAt_some

theorem pick_calls (n m : Int) (h0 : 0 < m) (h1 : m < 2 ^ 62) (w : World) : Calls Try.prog 17 #[.int .i64 n, .int .i64 m] w fun e w' => e = .returned (.int .i64 (n % m)) ∧ Below w.heap.size w w' :=
  Tmf.flat_calls Tmf.okPck w (args := [.int .i64 n, .int .i64 m]) rfl (v := .int .i64 (n % m)) rfl ⟨h0, h1, fun x hx => by rw [hx]; exact ⟨rfl, rfl⟩⟩
/-- The shares that the law draws. -/
def drawQ (P : Nat → Int) (k : Nat) : Int := 1 + P k % 6
theorem drawQ_le (P : Nat → Int) (k : Nat) : 1 ≤ drawQ P k ∧ drawQ P k ≤ 6 := by unfold drawQ; omega
def partQ (P : Nat → Int) (j k : Nat) : Int := if k < j then drawQ P k else 0
def sumQ (P : Nat → Int) : Nat → Int
  | 0 => 0
  | j + 1 => sumQ P j + drawQ P j
theorem sumQ_le (P : Nat → Int) : ∀ j, 0 ≤ sumQ P j ∧ sumQ P j ≤ 6 * j
  | 0 => ⟨Int.le_refl _, Int.le_refl _⟩
  | j + 1 => by
    have h1 := sumQ_le P j
    have h2 := drawQ_le P j
    show 0 ≤ sumQ P j + drawQ P j ∧ sumQ P j + drawQ P j ≤ 6 * ((j + 1 : Nat) : Int)
    omega
theorem part_set (P : Nat → Int) {j : Nat} (h : j < 8) : (arr8 (partQ P j)).setIfInBounds j (.int .i64 (drawQ P j)) = arr8 (partQ P (j + 1)) := by
  match j, h with
  | 0, _ | 1, _ | 2, _ | 3, _ | 4, _ | 5, _ | 6, _ | 7, _ => rfl
end Go.Am.Cha
