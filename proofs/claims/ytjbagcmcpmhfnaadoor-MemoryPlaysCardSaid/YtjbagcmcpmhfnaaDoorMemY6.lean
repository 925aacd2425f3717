/-
  Memory: MemoryPlays's parts: the comparison. Own work.
-/
import Derived.Test.YtjbagcmcpmhfnaaDoorMemY
namespace Go.Am.Mem
open Go Go.Am Go.Am.Ham Go.Proofs
set_option maxRecDepth 100000

theorem bAl_eq (m : Mem) (tb ty ty2 ty3 ty4 : TypeId) (v1 v2 v3 v4 v5 : Bool) (K : Value → AHeap → Prop) : bAl m tb ty ty2 ty3 ty4 v1 v2 v3 v4 v5 K =
    (∀ x1 : Int, x1 = ((m.n : Nat) : Int) → ∀ x2 : Int, x2 = m.safe → ∀ x3 : Int, x3 = ((m.n : Nat) : Int) →
      cond (!(decide (x1 = x3))) (K (.bool false) (bothH m tb ty ty2 ty3 ty4 v1 v2 v3 v4 v5))
      (cond (!(decide (x2 = m.safe))) (K (.bool false) (bothH m tb ty ty2 ty3 ty4 v1 v2 v3 v4 v5))
      (cond (!(decide (m.fx = m.fx) && (decide (m.lo = m.lo) && (decide (m.st = m.st) && true)))) (K (.bool false) (bothH m tb ty ty2 ty3 ty4 v1 v2 v3 v4 v5))
      (cond (!(decide (m.bl = m.bl))) (K (.bool false) (bothH m tb ty ty2 ty3 ty4 v1 v2 v3 v4 v5))
      (m = m ∧ OkM m ∧ x1 = ((m.n : Nat) : Int) ∧ (0 : Int) = 0 ∧ K (.bool true) (bothH m tb ty ty2 ty3 ty4 v1 v2 v3 v4 v5)))))) := by
  kernel_rfl
end Go.Am.Mem
