/-
  Hamming: places, syndrome, word, Place. Own work.
-/
import Derived.Test.YtjbagcmcpmhfnaaDoorHamD
namespace Go.Am.Ham
open Go Go.Am Go.Proofs
set_option maxRecDepth 100000

def plT : List Nat := [3, 5, 6, 7, 9, 10, 11, 12, 13, 14, 15, 17, 18, 19, 20, 21, 22, 23, 24, 25, 26, 27, 28, 29, 30, 31, 33, 34, 35, 36, 37, 38]
def plV : List Value := plT.map fun (n : Nat) => .int .i64 (n : Int)
def s21 : Spec := fun args h K => match args, h with
  | [], [] => K (.agg ⟨plV⟩) []
  | _, _ => False
theorem body21 (K : Value → AHeap → Prop) : bodyK (cfg [] 2 []) (codeOf Tryd.f128) Tryd.f128.results.toList [] [] K = K (.agg ⟨plV⟩) [] := by
  kernel_rfl
theorem ok21 : SpecOk Tryd.prog G0 128 s21 :=
  okOf (tbl := []) (N := 2) (sl := []) trivial Tryd.func128 (by kernel_rfl) (by kernel_rfl) (by
    intro args h K hk
    unfold s21 at hk
    split at hk
    · exact (body21 K).mpr hk
    · exact hk.elim)

def tblE : List (Nat × Spec) := [(128, s21), (130, s23), (138, s24)]
theorem tblE_ok : AllOk Tryd.prog G0 tblE := ⟨ok21, ok23, ok24, trivial⟩
noncomputable def cfgE (N : Nat) (held : Nat → Bool) (sl : List Nat) : FCfg := mkF Tryd.prog G0 tblE N held (fun _ => none) (upto N 0) 100 sl
theorem body17 (c : Int) (K : Value → AHeap → Prop) : bodyK (cfgE 12 (fun i => Nat.beq i 3) []) (codeOf Tryd.f129) Tryd.f129.results.toList [.int .u64 c] [] K =
  (((0 : Int) ≤ c) ∧ ((c < 18446744073709551616) ∧ (((0 : Int) ≤ (0 : Int)) ∧ (((0 : Int) < (64 : Int)) ∧ (((0 : Int) ≤ c) ∧ ((c < 18446744073709551616) ∧
    (K (.tuple ⟨[.int .i64 ((0 ^^^ onesX (Int.toNat c) : Nat) : Int), .int .i64 (iAnd .i64 ((pcN (Int.toNat c) : Nat) : Int) 1)]⟩) []))))))) := by
  kernel_rfl
end Go.Am.Ham
