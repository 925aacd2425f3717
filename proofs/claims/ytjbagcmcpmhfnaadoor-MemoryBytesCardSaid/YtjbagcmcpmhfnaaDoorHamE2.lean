import Derived.Test.YtjbagcmcpmhfnaaDoorHamE
namespace Go.Am.Ham
open Go Go.Am Go.Proofs
set_option maxRecDepth 100000
noncomputable def w18 (c : Int) : List Nat → Nat → Int → Int
  | [], _, x => x
  | p :: r, i, x => w18 c r (i + 1) (sealI (iOr .u32 x (IntKind.u32.wrap (IntKind.u32.wrap (iAnd .u64 (Int.fdiv c (2 ^ p)) 1) * 2 ^ i))))
theorem body18 (c : Int) (K : Value → AHeap → Prop) : bodyK (cfgE 22 (fun _ => false) [3]) (codeOf Tryd.f132) Tryd.f132.results.toList [.int .u64 c] [] K =
  K (.int .u32 (w18 c plT 0 (sealI 0))) [] := by
  kernel_rfl
end Go.Am.Ham
