/-
  Memory: MemoryPlays's parts: what is great. Own work.
-/
import Derived.Test.YtjbagcmcpmhfnaaDoorMemY
namespace Go.Am.Mem
open Go Go.Am Go.Am.Ham Go.Proofs
set_option maxRecDepth 100000

theorem tGr_eq (vs : List Value) (t : TypeId) (l c : Nat) (w i : Int) (k : AExit → Env → AHeap → Prop) : tGr vs t l c w i k = (∀ x1 : Int, ((x1 = ((l : Nat) : Int)) → (cond (decide ((i < x1))) (cond ((decide (((0 : Int) ≤ i))) && (decide ((i < ((l : Nat) : Int))))) (cond (decide ((((cond (Nat.beq ((Int.toNat i) * (5 : Nat) : Nat) 0) (4 : Nat) (((Int.toNat i) * (5 : Nat) : Nat) + (4 : Nat) : Nat)) + (1 : Nat) : Nat) ≤ (List.length vs)))) (cond (isStr (List.getD vs (cond (Nat.beq ((Int.toNat i) * (5 : Nat) : Nat) 0) (4 : Nat) (((Int.toNat i) * (5 : Nat) : Nat) + (4 : Nat) : Nat)) Go.undef)) (∀ x2 : Int, ((x2 = (((ByteArray.size (strOf (List.getD vs (cond (Nat.beq ((Int.toNat i) * (5 : Nat) : Nat) 0) (4 : Nat) (((Int.toNat i) * (5 : Nat) : Nat) + (4 : Nat) : Nat)) Go.undef))) : Nat) : Int)) → (cond (decide ((x2 > (2000 : Int)))) (k AExit.ret [(Prod.mk 4 (Value.bool Bool.true))] [(AObj.ro vs t)]) (∀ x3 : Int, ((x3 = (iAdd IntKind.i64 i (1 : Int))) → (k AExit.normal [(Prod.mk 0 (Value.slice (Option.some (Addr.mk 0 0 (Option.some 0))) l c)), (Prod.mk 1 (Value.int IntKind.i64 w)), (Prod.mk 5 (Value.int IntKind.i64 x3))] [(AObj.ro vs t)])))))) False) False) False) (k (AExit.exit 0) [(Prod.mk 0 (Value.slice (Option.some (Addr.mk 0 0 (Option.some 0))) l c)), (Prod.mk 1 (Value.int IntKind.i64 w)), (Prod.mk 5 (Value.int IntKind.i64 i)), (Prod.mk 9 (Value.bool Bool.false))] [(AObj.ro vs t)])))) := by
  kernel_rfl
theorem bGr_eq (vs : List Value) (t : TypeId) (l c : Nat) (w : Int) (K : Value → AHeap → Prop) : bGr vs t l c w K = ((OkA vs l) ∧ ((Lim l) ∧ (((0 : Int) = (0 : Int)) ∧ ((K (Value.bool Bool.true) [(AObj.ro vs t)]) ∧ (∀ x1 : Int, ((x1 = ((l : Nat) : Int)) → (cond (decide ((x1 > (100 : Int)))) (K (Value.bool Bool.true) [(AObj.ro vs t)]) (cond (decide ((w > (200 : Int)))) (K (Value.bool (decide ((w ≤ (16384 : Int))))) [(AObj.ro vs t)]) (K (Value.bool Bool.false) [(AObj.ro vs t)]))))))))) := by
  kernel_rfl
theorem bGrN_eq (w : Int) (K : Value → AHeap → Prop) : bGrN w K = (∀ x1 : Int, ((x1 = (0 : Int)) → (cond (decide (((0 : Int) < x1))) False (∀ x2 : Int, ((x2 = (0 : Int)) → (cond (decide ((x2 > (100 : Int)))) (K (Value.bool Bool.true) []) (cond (decide ((w > (200 : Int)))) (K (Value.bool (decide ((w ≤ (16384 : Int))))) []) (K (Value.bool Bool.false) [])))))))) := by
  kernel_rfl
end Go.Am.Mem
