/-
  Hamming: what the functions' texts compute (the walk). Own work.
-/
import Derived.Test.YtjbagcmcpmhfnaaDoorAm18
import Derived.Test.YtjbagcmcpmhfnaaDoorProg
import Derived.KernelRfl
namespace Go.Am.Ham
open Go Go.Am Go.Proofs
set_option maxRecDepth 100000

def tzTab : List Nat := [0,1,56,2,57,49,28,3,61,58,42,50,38,29,17,4,62,47,59,36,45,43,51,22,53,39,33,30,24,18,12,5,63,55,48,27,60,41,37,16,46,35,44,21,52,32,23,11,54,26,40,15,34,20,31,10,25,14,19,9,13,8,7,6]
def tzVals : List Value := tzTab.map fun n => .int .u8 (n : Nat)
def G0 (g : Nat) : Option (List Value) := match g with | 0 => some tzVals | _ => none
noncomputable def cfg (tbl : List (Nat × Spec)) (N : Nat) (sl : List Nat) : FCfg := mkF Tryd.prog G0 tbl N (fun _ => false) (fun _ => none) (upto N 0) 100 sl
def codeOf (f : Func) : Code := match f.body with | some c => c | none => .skip

/-! ### bits.TrailingZeros64 -/
noncomputable def x27 (c : Int) : Int := sealI (Int.fdiv (iMul .u64 (sealI (iAnd .u64 c (iSub .u64 0 c))) 285870213051353865) (2 ^ 58))
noncomputable def v27 (c : Int) : Value := tzVals.getD (x27 c).toNat undef
theorem body27 (c : Int) (K : Value → AHeap → Prop) : bodyK (cfg [] 14 [8, 10]) (codeOf Tryd.f141) Tryd.f141.results.toList [.int .u64 c] [] K =
  cond (decide (c = 0)) (K (.int .i64 64) [])
    (cond (decide (0 ≤ x27 c) && decide (x27 c < (64 : Nat)))
      (cond (Nat.beq 1 1 && decide ((x27 c).toNat + 1 ≤ tzVals.length))
        (cond (isInt .u8 (v27 c))
          (K (.int .i64 (IntKind.i64.wrap (intOf (v27 c)))) []) False) False) False) := by
  kernel_rfl
theorem body22 (c : Int) (K : Value → AHeap → Prop) : bodyK (cfg [] 29 []) (codeOf Tryd.f111) Tryd.f111.results.toList [.int .i64 c] [] K =
  cond (decide (c = 0)) (K (.bool true) []) (cond (decide (c = 1)) (K (.bool true) []) (cond (decide (c = 2)) (K (.bool true) []) (cond (decide (c = 4)) (K (.bool true) []) (cond (decide (c = 8)) (K (.bool true) []) (cond (decide (c = 16)) (K (.bool true) []) (K (.bool (decide (c = 32))) [])))))) := by
  kernel_rfl
theorem body26 (c i : Int) (K : Value → AHeap → Prop) : bodyK (cfg [] 11 []) (codeOf Tryd.f112) Tryd.f112.results.toList [.int .u64 c, .int .i64 i] [] K =
  cond (decide (0 ≤ IntKind.u64.wrap i)) (K (.int .i64 (IntKind.i64.wrap (Int.tmod (Int.fdiv c (2 ^ min (IntKind.u64.wrap i).toNat 64)) 2))) []) False := by
  kernel_rfl

/-! ### bits.OnesCount64 -/
noncomputable def p1 (c : Int) : Int := sealI (iAdd .u64 (iAnd .u64 (Int.fdiv c 2) 6148914691236517205) (iAnd .u64 c 6148914691236517205))
noncomputable def p2 (c : Int) : Int := sealI (iAdd .u64 (iAnd .u64 (Int.fdiv c 4) 3689348814741910323) (iAnd .u64 c 3689348814741910323))
noncomputable def p3 (c : Int) : Int := sealI (iAnd .u64 (iAdd .u64 (Int.fdiv c 16) c) 1085102592571150095)
noncomputable def p4 (k : Int) (c : Int) : Int := sealI (iAdd .u64 c (Int.fdiv c k))
theorem body23 (c : Int) (K : Value → AHeap → Prop) : bodyK (cfg [] 35 [0]) (codeOf Tryd.f130) Tryd.f130.results.toList [.int .u64 c] [] K =
  K (.int .i64 (iAnd .i64 (IntKind.i64.wrap (p4 4294967296 (p4 65536 (p4 256 (p3 (p2 (p1 c))))))) 127)) [] := by
  kernel_rfl

/-! ### bits.Len64 -/
def lenTab : List UInt8 := [0, 1] ++ (List.replicate 2 2 ++ (List.replicate 4 3 ++ (List.replicate 8 4 ++ (List.replicate 16 5 ++ (List.replicate 32 6 ++ (List.replicate 64 7 ++ List.replicate 128 8))))))
noncomputable def l4 (K : Value → AHeap → Prop) (x a : Int) : Prop :=
  cond (decide (0 ≤ IntKind.u8.wrap x) && decide (IntKind.u8.wrap x < (256 : Nat))) (K (.int .i64 (iAdd .i64 a (IntKind.i64.wrap (sealI (lenTab.getD (IntKind.u8.wrap x).toNat 0).toNat)))) []) False
noncomputable def l3 (K : Value → AHeap → Prop) (x a : Int) : Prop := cond (decide (x ≥ 256)) (l4 K (Int.fdiv x 256) (a + 8)) (l4 K x a)
noncomputable def l2 (K : Value → AHeap → Prop) (x a : Int) : Prop := cond (decide (x ≥ 65536)) (l3 K (Int.fdiv x 65536) (a + 16)) (l3 K x a)
theorem body16 (c : Int) (K : Value → AHeap → Prop) : bodyK (cfg [] 25 [22]) (codeOf Tryd.f131) Tryd.f131.results.toList [.int .u64 c] [] K =
  cond (decide (c ≥ 4294967296)) (l2 K (Int.fdiv c 4294967296) 32) (l2 K c 0) := by
  kernel_rfl
/-! ### the closure of hamming.syndrome -/
theorem body25 (i x : Int) (ty : TypeId) (mv : Bool) (K : Value → AHeap → Prop) : bodyK (cfg [] 6 [5]) (codeOf Tryd.f139) Tryd.f139.results.toList [.int .i64 i, .pointer (some ⟨0, 0, some 0⟩)] [.cells true [.int .i64 x] ty mv] K =
  K (.tuple #[]) [.cells true [.int .i64 (sealI (iXor .i64 x i))] ty mv] := by
  kernel_rfl
end Go.Am.Ham
