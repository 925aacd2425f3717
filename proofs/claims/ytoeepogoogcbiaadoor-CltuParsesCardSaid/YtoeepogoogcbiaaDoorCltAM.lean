/-
  Cltu: a number in a range, a string with one bit inverted. Own work.
-/
import Derived.Test.YtoeepogoogcbiaaDoorCltH
namespace Go.Am.Clt
open Go Go.Am Go.Am.Lib Go.Proofs
set_option maxRecDepth 100000

noncomputable def cPck : FCfg := mkG Tryd.prog G0 [] 15 [(0, [0, 1]), (1, [1, 5]), (2, [1, 5, 10]), (3, [5]), (4, [4])] [] [] [] [] [] 40 0
noncomputable def bPck (n m : Int) (K : Value → AHeap → Prop) : Prop := bodyK cPck (codeOf Tryd.f16) Tryd.f16.results.toList [.int .i64 n, .int .i64 m] [] K
def sPck : Spec := fun args h K => match args, h with
  | [.int .i64 n, .int .i64 m], [] => 0 < m ∧ m < 2 ^ 62 ∧ ∀ x, x = n % m → K (.int .i64 x) []
  | _, _ => False
def tabP : List (Nat × Spec) := [(16, sPck)]
noncomputable def cFlk : FCfg := { mkG Tryd.prog G0 tabP 33 [(0, [0, 1]), (1, [0, 1, 8]), (2, [4]), (3, [1, 5]), (4, [5, 6]), (5, [5]), (6, [4])] [] [] [] [] [] 40 0 with hold := lookL [(5, [])] }
noncomputable def bFlk (s : ByteArray) (n : Int) (K : Value → AHeap → Prop) : Prop := bodyK cFlk (codeOf Tryd.f17) Tryd.f17.results.toList [.string s, .int .i64 n] [] K
theorem bPck_eq (n m : Int) (K : Value → AHeap → Prop) : bPck n m K = (cond (!(decide ((m = (0 : Int))))) (∀ x1 : Int, ((x1 = (Int.tmod n m)) → (cond (decide ((x1 < (0 : Int)))) (∀ x2 : Int, ((x2 = (iAdd IntKind.i64 x1 m)) → (K (Value.int IntKind.i64 x2) []))) (K (Value.int IntKind.i64 x1) [])))) False) := by
  kernel_rfl
theorem bFlk_eq (s : ByteArray) (n : Int) (K : Value → AHeap → Prop) : bFlk s n K = (cond (eqLB ((s).data).toList []) (K (Value.string s) []) (∀ x1 : Int, ((x1 = (((ByteArray.size s) : Nat) : Int)) → (∀ x2 : Int, ((x2 = (iMul IntKind.i64 (8 : Int) x1)) → (((0 : Int) < x2) ∧ ((x2 < (4611686018427387904 : Int)) ∧ (∀ x3 : Int, ((x3 = (Int.emod n x2)) → (∀ x4 : Int, ((x4 = x3) → (∀ x5 : Int, ((x5 = (IntKind.wrap IntKind.i64 (Int.tdiv x4 (8 : Int)))) → (∀ x6 : Int, ((x6 = (IntKind.wrap IntKind.i64 (Int.tdiv x4 (8 : Int)))) → (cond ((decide (((0 : Int) ≤ x6))) && (decide ((x6 < (((ByteArray.size s) : Nat) : Int))))) (∀ x7 : Int, ((x7 = (Int.tmod x4 (8 : Int))) → (∀ x8 : Int, ((x8 = (iSub IntKind.i64 (7 : Int) x7)) → (cond (decide (((0 : Int) ≤ x8))) (∀ x9 : Int, ((x9 = (iMul IntKind.u8 (1 : Int) ((2 : Int) ^ (ite ((Int.toNat x8) ≤ (8 : Nat)) (Int.toNat x8) (8 : Nat)) : Int))) → (cond (decide ((((Int.toNat x6) + (1 : Nat) : Nat) ≤ (List.length (bytesV s))))) (cond (isInt IntKind.u8 (List.getD (bytesV s) (Int.toNat x6) Go.undef)) (∀ x10 : Int, ((x10 = (iXor IntKind.u8 (intOf (List.getD (bytesV s) (Int.toNat x6) Go.undef)) x9)) → (cond ((decide (((0 : Int) ≤ x5))) && (decide ((x5 < (((ByteArray.size s) : Nat) : Int))))) (cond (decide ((((Int.toNat x5) + (1 : Nat) : Nat) ≤ (List.length (bytesV s))))) (cond (decide (((0 + ((ByteArray.size s) * (1 : Nat) : Nat) : Nat) ≤ (List.length (List.set (bytesV s) (Int.toNat x5) (Value.int IntKind.u8 x10)))))) (cond (List.all (List.take ((ByteArray.size s) * (1 : Nat) : Nat) (List.drop 0 (List.set (bytesV s) (Int.toNat x5) (Value.int IntKind.u8 x10)))) (isInt IntKind.u8)) (∀ x11 : ByteArray, ((x11 = (bytesOf (List.take ((ByteArray.size s) * (1 : Nat) : Nat) (List.drop 0 (List.set (bytesV s) (Int.toNat x5) (Value.int IntKind.u8 x10)))))) → (K (Value.string x11) []))) False) False) False) False))) False) False))) False))))) False)))))))))))))))) := by
  kernel_rfl
end Go.Am.Clt
