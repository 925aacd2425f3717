/-
 Cltu: the code's remainders. Own work; plain mathematics.
-/
import Derived.Test.YtlgpalokjckdcaaAmY
namespace Go.Am.Clt
open Go Go.Am Go.Am.Lib
set_option maxRecDepth 100000

/-! ### the register -/
/-- One more bit, and the division by the polynomial. -/
def step (r b : Nat) : Nat := if 2 * r + b < 128 then 2 * r + b else (2 * r + b) ^^^ 197
/-- The same for what is multiplied by x^7. -/
def stepC (r b : Nat) : Nat := (2 * r % 128) ^^^ (if (r / 64 + b) % 2 = 1 then 69 else 0)
def fold (l : List Nat) (r : Nat) : Nat := l.foldl step r
def z7 (r : Nat) : Nat := fold [0, 0, 0, 0, 0, 0, 0] r
attribute [irreducible] step stepC z7

/-! ### it is linear -/
theorem xor4 (a b c d : Nat) : (a ^^^ b) ^^^ (c ^^^ d) = (a ^^^ c) ^^^ (b ^^^ d) := by
 rw [Nat.xor_assoc, Nat.xor_assoc, ← Nat.xor_assoc b c d, Nat.xor_comm b c, Nat.xor_assoc c b d]

/-! ### bytes -/

/-! ### the powers of x -/
end Go.Am.Clt
