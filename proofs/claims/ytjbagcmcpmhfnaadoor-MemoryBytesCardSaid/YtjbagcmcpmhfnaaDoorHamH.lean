/-
  Hamming: word and Encode, of the code and of the reference: what their texts compute. Own work.
-/
import Derived.Test.YtjbagcmcpmhfnaaDoorHamG
import Derived.Test.YtjbagcmcpmhfnaaDoorHamE2
namespace Go.Am.Ham
open Go Go.Am Go.Proofs
set_option maxRecDepth 100000

def tbl20 : List (Nat × Spec) := [(73, s12), (112, s26), (74, s19)]
theorem tbl20_ok : AllOk Tryd.prog G0 tbl20 := ⟨ok12, ok26, ok19, trivial⟩
noncomputable def r20 (K : Value → AHeap → Prop) (c : Int) : Nat → Int → Prop
  | 0, x => K (.int .u32 x) []
  | i + 1, x => (-1 : Int) ≤ ((i : Nat) : Int) ∧ ((i : Nat) : Int) ≤ 1000 ∧ 0 ≤ c ∧ c < 2 ^ 64 ∧ (0 : Int) ≤ ((plT.getD i 0 : Nat) : Int) ∧ ((plT.getD i 0 : Nat) : Int) < 64 ∧
    r20 K c i (sealI (iAdd .u32 (iMul .u32 x 2) (IntKind.u32.wrap ((c.toNat / 2 ^ (plT.getD i 0) % 2 : Nat) : Int))))
theorem body20 (c : Int) (K : Value → AHeap → Prop) : bodyK (cfg tbl20 24 [3]) (codeOf Tryd.f133) Tryd.f133.results.toList [.int .u64 c] [] K = r20 K c 32 (sealI 0) := by
  kernel_rfl
end Go.Am.Ham
