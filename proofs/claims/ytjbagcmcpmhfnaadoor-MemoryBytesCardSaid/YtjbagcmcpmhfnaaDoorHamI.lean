/-
  Hamming: Encode, of the code and of the reference: what their texts compute. Own work.
-/
import Derived.Test.YtjbagcmcpmhfnaaDoorHamH
namespace Go.Am.Ham
open Go Go.Am Go.Proofs
set_option maxRecDepth 100000

def s17 : Spec := fun args h K => match args, h with
  | [.int .u64 c], [] => 0 ≤ c ∧ c < 2 ^ 64 ∧ K (.tuple #[.int .i64 ((onesX c.toNat : Nat) : Int), .int .i64 ((pcN c.toNat % 2 : Nat) : Int)]) []
  | _, _ => False
theorem pcN_lt (n : Nat) : pcN n < 128 := by
  unfold pcN
  have h : q4 4294967296 (q4 65536 (q4 256 (q3 (q2 (q1 n))))) &&& 127 ≤ 127 := Nat.and_le_right
  omega
theorem and_one (n : Nat) : n &&& 1 = n % 2 := by simp
theorem ok17 : SpecOk Tryd.prog G0 129 s17 :=
  spec_of_body (tbl := tblE) (N := 12) (held := fun i => Nat.beq i 3) (loops := fun _ => none) (keep := upto 12 0) (fuel := 100) (sl := []) mixed tblE_ok Tryd.func129
    (by kernel_rfl : Tryd.f129.body = some (codeOf Tryd.f129)) (by kernel_rfl) (fun _ _ _ => loopsOk_none (fun _ => rfl) _) (by
      intro args h K hk
      unfold s17 at hk
      split at hk
      · rename_i c
        show bodyK (cfgE 12 (fun i => Nat.beq i 3) []) (codeOf Tryd.f129) Tryd.f129.results.toList [.int .u64 c] [] K
        have h0 := hk.1
        have h1 := hk.2.1
        replace hk := hk.2.2
        have hp := pcN_lt c.toNat
        rw [body17, Nat.zero_xor, show (1 : Int) = ((1 : Nat) : Int) from rfl, iAnd_cast .i64 (by rw [cap_i64]; omega) (by rw [cap_i64]; omega), and_one]
        exact ⟨h0, h1, by omega, by omega, h0, h1, hk⟩
      · exact hk.elim)

end Go.Am.Ham
