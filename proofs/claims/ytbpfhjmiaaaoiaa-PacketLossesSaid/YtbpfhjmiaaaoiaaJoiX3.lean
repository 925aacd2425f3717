/-
  Joiner: PacketLosses returns true. Own work.
-/
import Derived.Test.YtbpfhjmiaaaoiaaJoiX2
namespace Go.Am.Joi
open Go Go.Am Go.Am.Lib Go.Lib Go.Proofs Go.RowKit
theorem losses_walk {W0 : World} (ao : Option Addr) (n cap : Nat) (F : Nat → ByteArray) (hs : StrsIn W0 ao n F) (z : Int) (lo : Option Addr) (nl cl : Nat) (hb : BoolsIn W0 lo nl) :
    Calls Try.prog 6 #[.slice ao n cap, .int .i64 z, .slice lo nl cl] W0 fun e w' => e = .returned (.bool true) ∧ Below W0.heap.size W0 w' := by
  rcases Nat.lt_or_ge 30 n with h | h
  · exact losses_many ao n cap z lo nl cl h
  · rcases Nat.lt_or_ge 6000 (sumS F n) with h6 | h6
    · exact losses_long ao n cap z lo nl cl h fun w hB => by
        have c := long_calls ao n cap F (hs.keep hB)
        rw [decide_eq_true h6] at c
        exact c
    · exact losses_main ao n cap F hs z lo nl cl hb h h6
end Go.Am.Joi
