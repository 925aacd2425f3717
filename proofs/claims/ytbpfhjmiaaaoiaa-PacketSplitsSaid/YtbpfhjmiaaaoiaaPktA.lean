/-
  Packet: Valid, Put, Clone: what the functions' texts compute. Own work.
-/
import Derived.Test.YtbpfhjmiaaaoiaaAmY
import Derived.Test.YtbpfhjmiaaaoiaaProg
import Derived.KernelRfl
namespace Go.Am.Pkt
open Go Go.Am Go.Proofs
set_option maxRecDepth 100000

def G0 (_ : Nat) : Option (List Value) := none
def codeOf (f : Func) : Code := match f.body with | some c => c | none => .skip
theorem mixed : Try.prog.follows .mixedOrders = true := by kernel_rfl
theorem none_ok : AllOk Try.prog G0 [] := trivial

theorem dT {p : Prop} [Decidable p] (h : p) {A B : Prop} : cond (decide p) A B = A := by rw [decide_eq_true h, cond_true]
theorem dF {p : Prop} [Decidable p] (h : ¬ p) {A B : Prop} : cond (decide p) A B = B := by rw [decide_eq_false h, cond_false]
theorem dnT {p : Prop} [Decidable p] (h : p) {A B : Prop} : cond (!decide p) A B = B := by rw [decide_eq_true h, Bool.not_true, cond_false]
theorem dnF {p : Prop} [Decidable p] (h : ¬ p) {A B : Prop} : cond (!decide p) A B = A := by rw [decide_eq_false h, Bool.not_false, cond_true]
theorem dT2 {p q : Prop} [Decidable p] [Decidable q] (hp : p) (hq : q) {A B : Prop} : cond (decide p && decide q) A B = A := by rw [decide_eq_true hp, decide_eq_true hq, Bool.and_self, cond_true]

/-! ### strings.Clone -/
noncomputable def cSlc : FCfg := mkG Try.prog G0 [] 18 [(0, [0]), (1, [0, 6]), (2, [2]), (3, [0, 3]), (4, [3]), (5, [2])] [] [] [] [] [] 40 0
noncomputable def bSlc (s : ByteArray) (K : Value → AHeap → Prop) : Prop := bodyK cSlc (codeOf Try.f41) Try.f41.results.toList [.string s] [] K
/-! ### a packet -/
def pkV (c : Bool) (a f n : Int) (d : ByteArray) : Value := .agg ⟨[.bool c, .int .i64 a, .int .i64 f, .int .i64 n, .string d]⟩
noncomputable def cVal : FCfg := mkG Try.prog G0 [] 30 [(0, [1]), (1, [1, 3]), (2, [1, 3]), (3, [1, 3]), (4, [1, 3]), (5, [2]), (6, [1, 16]), (7, [1, 16]), (8, [1, 16]), (9, [16]), (10, [2]), (11, [2])] [] [] [] [] [] 40 0
noncomputable def bVal (c : Bool) (a f n : Int) (d : ByteArray) (K : Value → AHeap → Prop) : Prop := bodyK cVal (codeOf Try.f13) Try.f13.results.toList [pkV c a f n d] [] K
noncomputable def cRVal : FCfg := mkG Try.prog G0 [] 43 [(0, [1]), (1, [2])] [] [] [] [] [] 40 0
noncomputable def bRVal (c : Bool) (a f n : Int) (d : ByteArray) (K : Value → AHeap → Prop) : Prop := bodyK cRVal (codeOf Try.f14) Try.f14.results.toList [pkV c a f n d] [] K
noncomputable def iWords : FCfg := { mkG Try.prog G0 [] 22 [(0, [0]), (1, [0, 3]), (2, [3, 6, 7, 8]), (3, [3, 6, 7, 8, 9]), (4, [3, 5, 6, 7, 8]), (5, [3, 6, 7, 8]), (6, [3, 6, 7, 8]), (7, [2])] [(3, [3, 6, 7, 8])] [(3, [3])] [] [] [] 40 1 with shut := fun _ => 0 }
noncomputable def bWords (a b c : Int) (cc : Nat) (mv : Bool) (K : Value → AHeap → Prop) : Prop := bodyK iWords (codeOf Try.f39) Try.f39.results.toList [.slice (some ⟨0, 0, some 0⟩) 3 cc] [.cells true [.int .i64 a, .int .i64 b, .int .i64 c] 3 mv] K
def six (a b c : Int) : List Value := [.int .u8 (IntKind.u8.wrap (Int.fdiv a 256)), .int .u8 (IntKind.u8.wrap a), .int .u8 (IntKind.u8.wrap (Int.fdiv b 256)), .int .u8 (IntKind.u8.wrap b), .int .u8 (IntKind.u8.wrap (Int.fdiv c 256)), .int .u8 (IntKind.u8.wrap c)]
def sWords : Spec := fun args h K => match args, h with
  | [.slice (some ⟨0, 0, some 0⟩) 3 _], [.cells true [.int .i64 a, .int .i64 b, .int .i64 c] 3 mv] => K (.slice (some ⟨1, 0, some 0⟩) 6 2) [.cells true [.int .i64 a, .int .i64 b, .int .i64 c] 3 mv, .cells true (six a b c) 5 true]
  | _, _ => False
def tWords : List (Nat × Spec) := [(39, sWords)]
noncomputable def cEnc : FCfg := { mkG Try.prog G0 tWords 27 [(0, [1]), (1, [1, 3]), (2, [1, 3, 7]), (3, [1, 3]), (4, [2])] [] [] [] [] [] 40 0 with hold := lookL [(4, [0])] }
noncomputable def bEnc (c : Bool) (a f n : Int) (d : ByteArray) (K : Value → AHeap → Prop) : Prop := bodyK cEnc (codeOf Try.f32) Try.f32.results.toList [pkV c a f n d] [] K
noncomputable def cTwo : FCfg := mkG Try.prog G0 [] 11 [(0, [0]), (1, [2])] [] [] [] [] [] 40 0
noncomputable def bTwo (n : Int) (K : Value → AHeap → Prop) : Prop := bodyK cTwo (codeOf Try.f40) Try.f40.results.toList [.int .i64 n] [] K
theorem bWords_eq (a b c : Int) (cc : Nat) (mv : Bool) (K : Value → AHeap → Prop) : bWords a b c cc mv K = (K (Value.slice (Option.some (Addr.mk (1 : Nat) 0 (Option.some 0))) (6 : Nat) (2 : Nat)) [(AObj.cells Bool.true [(Value.int IntKind.i64 a), (Value.int IntKind.i64 b), (Value.int IntKind.i64 c)] (3 : Nat) mv), (AObj.cells Bool.true [(Value.int IntKind.u8 (IntKind.wrap IntKind.u8 (Int.fdiv a (256 : Int)))), (Value.int IntKind.u8 (IntKind.wrap IntKind.u8 a)), (Value.int IntKind.u8 (IntKind.wrap IntKind.u8 (Int.fdiv b (256 : Int)))), (Value.int IntKind.u8 (IntKind.wrap IntKind.u8 b)), (Value.int IntKind.u8 (IntKind.wrap IntKind.u8 (Int.fdiv c (256 : Int)))), (Value.int IntKind.u8 (IntKind.wrap IntKind.u8 c))] (5 : Nat) Bool.true)]) := by
  kernel_rfl
theorem bSlc_eq (s : ByteArray) (K : Value → AHeap → Prop) : bSlc s K = (∀ x1 : Int, ((x1 = (((ByteArray.size s) : Nat) : Int)) → (cond (decide ((x1 = (0 : Int)))) (K (Value.string (ByteArray.mk (Array.mk []))) []) (∀ x2 : Int, ((x2 = (((ByteArray.size s) : Nat) : Int)) → (cond (((((((decide (((0 : Int) ≤ x2))) && (decide ((x2 ≤ x2)))) && (decide ((x2 ≤ (9223372036854775807 : Int))))) && (decide ((((1 : Int) * x2 : Int) ≤ (281474976710656 : Int))))) && Bool.true) && Bool.true) && Bool.true) (cond (decide (((0 + ((Int.toNat x2) * (1 : Nat) : Nat) : Nat) ≤ (List.length (List.replicate (Int.toNat x2) (Value.int IntKind.u8 (0 : Int))))))) (∀ x3 : Int, ((x3 = (((ite ((ByteArray.size s) ≤ (Int.toNat x2)) (ByteArray.size s) (Int.toNat x2)) : Nat) : Int)) → (cond (decide (((0 : Int) < (((Int.toNat x2) : Nat) : Int)))) (∀ x4 : Int, ((x4 = (((Int.toNat x2) : Nat) : Int)) → (cond (((decide (((0 : Int) < x4))) && (decide ((x4 ≤ (9223372036854775807 : Int))))) && (decide (((0 + (Int.toNat x4) : Nat) ≤ (List.length (setCells (List.replicate (Int.toNat x2) (Value.int IntKind.u8 (0 : Int))) 0 (List.take ((ite ((ByteArray.size s) ≤ (Int.toNat x2)) (ByteArray.size s) (Int.toNat x2)) * (1 : Nat) : Nat) (bytesV s)))))))) (cond (u8B (List.take (Int.toNat x4) (List.drop 0 (setCells (List.replicate (Int.toNat x2) (Value.int IntKind.u8 (0 : Int))) 0 (List.take ((ite ((ByteArray.size s) ≤ (Int.toNat x2)) (ByteArray.size s) (Int.toNat x2)) * (1 : Nat) : Nat) (bytesV s)))))) (∀ x5 : ByteArray, ((x5 = (bytesOf (List.take (Int.toNat x4) (List.drop 0 (setCells (List.replicate (Int.toNat x2) (Value.int IntKind.u8 (0 : Int))) 0 (List.take ((ite ((ByteArray.size s) ≤ (Int.toNat x2)) (ByteArray.size s) (Int.toNat x2)) * (1 : Nat) : Nat) (bytesV s))))))) → (K (Value.string x5) []))) False) False))) False))) False) False)))))) := by
  kernel_rfl
theorem bVal_eq (c : Bool) (a f n : Int) (d : ByteArray) (K : Value → AHeap → Prop) : bVal c a f n d K = (cond (decide ((a < (0 : Int)))) (K (Value.bool Bool.false) []) (cond (decide ((a > (2047 : Int)))) (K (Value.bool Bool.false) []) (cond (decide ((f < (0 : Int)))) (K (Value.bool Bool.false) []) (cond (decide ((f > (3 : Int)))) (K (Value.bool Bool.false) []) (cond (decide ((n < (0 : Int)))) (K (Value.bool Bool.false) []) (cond (decide ((n > (16383 : Int)))) (K (Value.bool Bool.false) []) (cond (strEq d (ByteArray.mk (Array.mk []))) (K (Value.bool Bool.false) []) (∀ x1 : Int, ((x1 = (((ByteArray.size d) : Nat) : Int)) → (cond (decide ((x1 > (1024 : Int)))) (K (Value.bool Bool.false) []) (K (Value.bool Bool.true) []))))))))))) := by
  kernel_rfl
theorem bRVal_eq (c : Bool) (a f n : Int) (d : ByteArray) (K : Value → AHeap → Prop) : bRVal c a f n d K = (cond (decide ((a ≥ (0 : Int)))) (cond (decide ((a ≤ (2047 : Int)))) (cond (decide ((f ≥ (0 : Int)))) (cond (decide ((f ≤ (3 : Int)))) (cond (decide ((n ≥ (0 : Int)))) (cond (decide ((n ≤ (16383 : Int)))) (∀ x1 : Int, ((x1 = (((ByteArray.size d) : Nat) : Int)) → (cond (decide ((x1 ≥ (1 : Int)))) (∀ x2 : Int, ((x2 = (((ByteArray.size d) : Nat) : Int)) → (K (Value.bool (decide ((x2 ≤ (1024 : Int))))) []))) (K (Value.bool Bool.false) [])))) (K (Value.bool Bool.false) [])) (K (Value.bool Bool.false) [])) (K (Value.bool Bool.false) [])) (K (Value.bool Bool.false) [])) (K (Value.bool Bool.false) [])) (K (Value.bool Bool.false) [])) := by
  kernel_rfl
theorem bEnc_eq (c : Bool) (a f n : Int) (d : ByteArray) (K : Value → AHeap → Prop) : bEnc c a f n d K = (cond c (∀ x7 : Int, ((x7 = (iOr IntKind.i64 a (4096 : Int))) → (∀ x8 : Int, ((x8 = (iMul IntKind.i64 f (16384 : Int))) → (∀ x9 : Int, ((x9 = (iOr IntKind.i64 x8 n)) → (∀ x10 : Int, ((x10 = (((ByteArray.size d) : Nat) : Int)) → (∀ x11 : Int, ((x11 = (iSub IntKind.i64 x10 (1 : Int))) → (∀ x12 : ByteArray, ((x12 = (bytesOf [(Value.int IntKind.u8 (IntKind.wrap IntKind.u8 (Int.fdiv x7 (256 : Int)))), (Value.int IntKind.u8 (IntKind.wrap IntKind.u8 x7)), (Value.int IntKind.u8 (IntKind.wrap IntKind.u8 (Int.fdiv x9 (256 : Int)))), (Value.int IntKind.u8 (IntKind.wrap IntKind.u8 x9)), (Value.int IntKind.u8 (IntKind.wrap IntKind.u8 (Int.fdiv x11 (256 : Int)))), (Value.int IntKind.u8 (IntKind.wrap IntKind.u8 x11))])) → (cond (decide ((((((ByteArray.size x12) + (ByteArray.size d) : Nat) : Nat) : Int) ≤ (9223372036854775807 : Int)))) (∀ x13 : ByteArray, ((x13 = (ByteArray.append x12 d)) → (K (Value.string x13) []))) False))))))))))))) (∀ x1 : Int, ((x1 = (iMul IntKind.i64 f (16384 : Int))) → (∀ x2 : Int, ((x2 = (iOr IntKind.i64 x1 n)) → (∀ x3 : Int, ((x3 = (((ByteArray.size d) : Nat) : Int)) → (∀ x4 : Int, ((x4 = (iSub IntKind.i64 x3 (1 : Int))) → (∀ x5 : ByteArray, ((x5 = (bytesOf [(Value.int IntKind.u8 (IntKind.wrap IntKind.u8 (Int.fdiv a (256 : Int)))), (Value.int IntKind.u8 (IntKind.wrap IntKind.u8 a)), (Value.int IntKind.u8 (IntKind.wrap IntKind.u8 (Int.fdiv x2 (256 : Int)))), (Value.int IntKind.u8 (IntKind.wrap IntKind.u8 x2)), (Value.int IntKind.u8 (IntKind.wrap IntKind.u8 (Int.fdiv x4 (256 : Int)))), (Value.int IntKind.u8 (IntKind.wrap IntKind.u8 x4))])) → (cond (decide ((((((ByteArray.size x5) + (ByteArray.size d) : Nat) : Nat) : Int) ≤ (9223372036854775807 : Int)))) (∀ x6 : ByteArray, ((x6 = (ByteArray.append x5 d)) → (K (Value.string x6) []))) False)))))))))))) := by
  kernel_rfl
theorem bTwo_eq (n : Int) (K : Value → AHeap → Prop) : bTwo n K = (∀ x1 : Int, ((x1 = (IntKind.wrap IntKind.i64 (Int.tdiv n (256 : Int)))) → (∀ x2 : Int, ((x2 = (IntKind.wrap IntKind.u8 x1)) → (∀ x3 : Int, ((x3 = (Int.tmod n (256 : Int))) → (∀ x4 : Int, ((x4 = (IntKind.wrap IntKind.u8 x3)) → (∀ x5 : ByteArray, ((x5 = (bytesOf [(Value.int IntKind.u8 x2), (Value.int IntKind.u8 x4)])) → (K (Value.string x5) []))))))))))) := by
  kernel_rfl
end Go.Am.Pkt
