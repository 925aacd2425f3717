/-
  Joiner: PacketMessage of any arguments. Own work.
-/
import Derived.Test.YtbpfhjmiaaaoiaaJoiN2
namespace Go.Am.Joi
open Go Go.Am Go.Am.Lib Go.Lib Go.Proofs Go.RowKit
open Go.Am.Pkt (badS)
theorem message_walk {W0 : World} (c : Bool) (a n m : Int) (s : ByteArray) (ao : Option Addr) (no cap : Nat) (hps : PksIn W0 ao no) :
    Calls Try.prog 5 #[cutV c a n m s, .slice ao no cap] W0 fun e w' => e = .returned (.bool true) ∧ Below W0.heap.size W0 w' := by
  by_cases he : 20000 < s.size ∨ 100 < no
  · exact message_early c a n m s ao no cap he
  have h1 : s.size ≤ 20000 := by omega
  have h2 : no ≤ 100 := by omega
  cases hb : badS a n m s with
  | true => exact message_no c a n m s ao no cap h1 h2 2 rfl (split_bad c a n m s hb)
  | false =>
    by_cases hl : s.size > 16384
    · exact message_no c a n m s ao no cap h1 h2 3 rfl (split_long c a n m s hb hl)
    · unfold badS at hb
      have hb' := of_decide_eq_false hb
      obtain ⟨a', rfl⟩ : ∃ k : Nat, a = (k : Int) := ⟨a.toNat, by omega⟩
      obtain ⟨n', rfl⟩ : ∃ k : Nat, n = (k : Int) := ⟨n.toNat, by omega⟩
      obtain ⟨m', rfl⟩ : ∃ k : Nat, m = (k : Int) := ⟨m.toNat, by omega⟩
      exact message_yes c ao no cap hps h2 (by omega) (by omega) (by omega) (by omega) (by omega) (by omega)
end Go.Am.Joi
