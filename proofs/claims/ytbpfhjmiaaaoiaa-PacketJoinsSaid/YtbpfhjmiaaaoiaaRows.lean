/-
  No cell of these rows narrows 'for every input' (looked for: loops, veiled, ifaces, maps, wideKeys, modest, calm, conditions, laid).
  DERIVED. THE GIVEN ROWS OF THIS SEAT. 7 by the template 'for every input the law returns true; each argument reads behind the call as it read before'; 0 by the template 'total and deterministic' (their statements: YtbpfhjmiaaaoiaaTotals.lean).
  GIVEN WITH THE SEED: the statements are not yours to turn. If you find one false, say at which input.
  Laid BY PROGRAM, IN A SANDBOX (cutbox-rows.mjs): the forced cells as the released guide's own fill.sh prints them over the translation c059291405885bc0… (all of the seat's roots in one cut). By AI agents, Wed Nov 11 2026. No macro, syntax, notation, axiom, sorry.
-/
import Derived.Test.YtbpfhjmiaaaoiaaChecked
import GoSem.Claim
import GoSem.ClaimJoined
import GoSem.ClaimMapViews
import Derived.JoinedTies
import Derived.KernelRfl
namespace Go.Proofs.Ytbpfhjmiaaaoiaa
/- THE CELL 'sum', in the pinned program and in every row, IS THE sha256 OF THE DUMP (.gsa) THAT YtbpfhjmiaaaoiaaProg.lean LOADS. Nothing in Lean hashes anything: it is a label: what it is worth is what the hold of that sum in a sandbox is worth. -/
noncomputable def Try.pinned : Pinned := { name := "ytbpfhjmiaaaoiaa", sum := "c059291405885bc0b80cfeb6d0ee97d80d839e67cd6491eb92ce0d1f1095b06c", checked := Try.checked }
namespace Rows
def none {H : Type} : Left H := { results := [], args := [] }

/-- 'perigeelaw09.PacketPuts': WHATEVER THE INPUT: true; the input reads as it did. -/
def packetPutsSpec : ChangeSpec := { name := "packetPuts", fn := fun _ => fun
  | [d] => { results := [.lit (.bool true)], args := [d] }
  | _ => none }
def packetPutsRow : OpenClaim := { program := "ytbpfhjmiaaaoiaa", sum := "c059291405885bc0b80cfeb6d0ee97d80d839e67cd6491eb92ce0d1f1095b06c", func := "perigee/perigeelaw09.PacketPuts", spec := "packetPuts", unfollowed := true, recurses := true, apart := false }
def PacketPutsSaid : Prop := packetPutsRow.holds Try.pinned (OpenSpec.ofChange packetPutsSpec)

/-- ITS FALSE NEIGHBOUR: 'it returns false'. Refute it at one input. -/
def packetPutsWrong : ChangeSpec := { name := "packetPuts", fn := fun _ => fun
  | [d] => { results := [.lit (.bool false)], args := [d] }
  | _ => none }
def PacketPutsWrongFalsely : Prop := packetPutsRow.holds Try.pinned (OpenSpec.ofChange packetPutsWrong)

/-- 'perigeelaw09.PacketJoins': WHATEVER THE INPUT: true; the input reads as it did. -/
def packetJoinsSpec : ChangeSpec := { name := "packetJoins", fn := fun _ => fun
  | [d] => { results := [.lit (.bool true)], args := [d] }
  | _ => none }
def packetJoinsRow : OpenClaim := { program := "ytbpfhjmiaaaoiaa", sum := "c059291405885bc0b80cfeb6d0ee97d80d839e67cd6491eb92ce0d1f1095b06c", func := "perigee/perigeelaw09.PacketJoins", spec := "packetJoins", unfollowed := true, recurses := true, apart := false }
def PacketJoinsSaid : Prop := packetJoinsRow.holds Try.pinned (OpenSpec.ofChange packetJoinsSpec)

/-- ITS FALSE NEIGHBOUR: 'it returns false'. Refute it at one input. -/
def packetJoinsWrong : ChangeSpec := { name := "packetJoins", fn := fun _ => fun
  | [d] => { results := [.lit (.bool false)], args := [d] }
  | _ => none }
def PacketJoinsWrongFalsely : Prop := packetJoinsRow.holds Try.pinned (OpenSpec.ofChange packetJoinsWrong)

/-- 'perigeelaw09.PacketMessage': WHATEVER THE INPUT: true; the input reads as it did. -/
def packetMessageSpec : ChangeSpec := { name := "packetMessage", fn := fun _ => fun
  | [d1, d2] => { results := [.lit (.bool true)], args := [d1, d2] }
  | _ => none }
def packetMessageRow : OpenClaim := { program := "ytbpfhjmiaaaoiaa", sum := "c059291405885bc0b80cfeb6d0ee97d80d839e67cd6491eb92ce0d1f1095b06c", func := "perigee/perigeelaw09.PacketMessage", spec := "packetMessage", unfollowed := true, recurses := true, apart := false }
def PacketMessageSaid : Prop := packetMessageRow.holds Try.pinned (OpenSpec.ofChange packetMessageSpec)

/-- ITS FALSE NEIGHBOUR: 'it returns false'. Refute it at one input. -/
def packetMessageWrong : ChangeSpec := { name := "packetMessage", fn := fun _ => fun
  | [d1, d2] => { results := [.lit (.bool false)], args := [d1, d2] }
  | _ => none }
def PacketMessageWrongFalsely : Prop := packetMessageRow.holds Try.pinned (OpenSpec.ofChange packetMessageWrong)

/-- 'perigeelaw09.PacketLosses': WHATEVER THE INPUT: true; the input reads as it did. -/
def packetLossesSpec : ChangeSpec := { name := "packetLosses", fn := fun _ => fun
  | [d1, d2, d3] => { results := [.lit (.bool true)], args := [d1, d2, d3] }
  | _ => none }
def packetLossesRow : OpenClaim := { program := "ytbpfhjmiaaaoiaa", sum := "c059291405885bc0b80cfeb6d0ee97d80d839e67cd6491eb92ce0d1f1095b06c", func := "perigee/perigeelaw09.PacketLosses", spec := "packetLosses", unfollowed := true, recurses := true, apart := false }
def PacketLossesSaid : Prop := packetLossesRow.holds Try.pinned (OpenSpec.ofChange packetLossesSpec)

/-- ITS FALSE NEIGHBOUR: 'it returns false'. Refute it at one input. -/
def packetLossesWrong : ChangeSpec := { name := "packetLosses", fn := fun _ => fun
  | [d1, d2, d3] => { results := [.lit (.bool false)], args := [d1, d2, d3] }
  | _ => none }
def PacketLossesWrongFalsely : Prop := packetLossesRow.holds Try.pinned (OpenSpec.ofChange packetLossesWrong)

/-- 'perigeelaw09.PacketSplits': WHATEVER THE INPUT: true; the input reads as it did. -/
def packetSplitsSpec : ChangeSpec := { name := "packetSplits", fn := fun _ => fun
  | [d1, d2] => { results := [.lit (.bool true)], args := [d1, d2] }
  | _ => none }
def packetSplitsRow : OpenClaim := { program := "ytbpfhjmiaaaoiaa", sum := "c059291405885bc0b80cfeb6d0ee97d80d839e67cd6491eb92ce0d1f1095b06c", func := "perigee/perigeelaw09.PacketSplits", spec := "packetSplits", unfollowed := true, recurses := true, apart := false }
def PacketSplitsSaid : Prop := packetSplitsRow.holds Try.pinned (OpenSpec.ofChange packetSplitsSpec)

/-- ITS FALSE NEIGHBOUR: 'it returns false'. Refute it at one input. -/
def packetSplitsWrong : ChangeSpec := { name := "packetSplits", fn := fun _ => fun
  | [d1, d2] => { results := [.lit (.bool false)], args := [d1, d2] }
  | _ => none }
def PacketSplitsWrongFalsely : Prop := packetSplitsRow.holds Try.pinned (OpenSpec.ofChange packetSplitsWrong)

/-- 'perigeelaw09.PacketTakes': WHATEVER THE INPUT: true; the input reads as it did. -/
def packetTakesSpec : ChangeSpec := { name := "packetTakes", fn := fun _ => fun
  | [d] => { results := [.lit (.bool true)], args := [d] }
  | _ => none }
def packetTakesRow : OpenClaim := { program := "ytbpfhjmiaaaoiaa", sum := "c059291405885bc0b80cfeb6d0ee97d80d839e67cd6491eb92ce0d1f1095b06c", func := "perigee/perigeelaw09.PacketTakes", spec := "packetTakes", unfollowed := true, recurses := true, apart := false }
def PacketTakesSaid : Prop := packetTakesRow.holds Try.pinned (OpenSpec.ofChange packetTakesSpec)

/-- ITS FALSE NEIGHBOUR: 'it returns false'. Refute it at one input. -/
def packetTakesWrong : ChangeSpec := { name := "packetTakes", fn := fun _ => fun
  | [d] => { results := [.lit (.bool false)], args := [d] }
  | _ => none }
def PacketTakesWrongFalsely : Prop := packetTakesRow.holds Try.pinned (OpenSpec.ofChange packetTakesWrong)

/-- 'perigeelaw09.PacketBack': WHATEVER THE INPUT: true; the input reads as it did. -/
def packetBackSpec : ChangeSpec := { name := "packetBack", fn := fun _ => fun
  | [d1, d2, d3] => { results := [.lit (.bool true)], args := [d1, d2, d3] }
  | _ => none }
def packetBackRow : OpenClaim := { program := "ytbpfhjmiaaaoiaa", sum := "c059291405885bc0b80cfeb6d0ee97d80d839e67cd6491eb92ce0d1f1095b06c", func := "perigee/perigeelaw09.PacketBack", spec := "packetBack", unfollowed := true, recurses := true, apart := false }
def PacketBackSaid : Prop := packetBackRow.holds Try.pinned (OpenSpec.ofChange packetBackSpec)

/-- ITS FALSE NEIGHBOUR: 'it returns false'. Refute it at one input. -/
def packetBackWrong : ChangeSpec := { name := "packetBack", fn := fun _ => fun
  | [d1, d2, d3] => { results := [.lit (.bool false)], args := [d1, d2, d3] }
  | _ => none }
def PacketBackWrongFalsely : Prop := packetBackRow.holds Try.pinned (OpenSpec.ofChange packetBackWrong)

/- THE SECOND FORM. 'bulk': how many values and letters a reading holds, each counted each time it is reached (what is shared counts as often as it is met; a slice's spare places count too). A statement '..UptoSaid' is the law's where the arguments, and the package variables that the reading takes, are together of bulk at most 1048576: NARROWER than '..Said'. Prove '..Said' where nothing that the law and all that it calls make is longer than what came in: it says more and counts as full. Else prove '..UptoSaid'. A law counts once. -/
mutual
def uptoBulk {H : Type} : DataW H → Nat
  | .lit (.string bytes) => bytes.length + 1
  | .lit _ => 1
  | .nil => 1
  | .ptr d => uptoBulk d + 1
  | .slice elems spare => uptoBulkAll elems + uptoBulkAll spare + 1
  | .agg parts => uptoBulkAll parts + 1
  | .iface _ d => uptoBulk d + 1
  | .map entries => uptoBulkEntries entries + 1
  | .held _ => 1
def uptoBulkAll {H : Type} : List (DataW H) → Nat
  | [] => 0
  | d :: r => uptoBulk d + uptoBulkAll r
def uptoBulkEntries {H : Type} : List (Lit × DataW H) → Nat
  | [] => 0
  | x :: r => uptoBulkEntry x + uptoBulkEntries r
def uptoBulkEntry {H : Type} : Lit × DataW H → Nat
  | (.string bytes, d) => bytes.length + uptoBulk d + 1
  | (_, d) => uptoBulk d + 1
 end
def uptoSmall : (H : Type) → List (DataW H) → Bool := fun _ ds => decide (uptoBulkAll ds ≤ 1048576)
def OpenSpec.upto (s : _root_.Go.ChangeSpec) : _root_.Go.OpenSpec := { _root_.Go.OpenSpec.ofChange s with cond := some uptoSmall }

/-- 'perigeelaw09.PacketPuts', WHERE WHAT IT READS IS OF BULK AT MOST 1048576: true; the input reads as it did. -/
def packetPutsUptoRow : OpenClaim := { program := "ytbpfhjmiaaaoiaa", sum := "c059291405885bc0b80cfeb6d0ee97d80d839e67cd6491eb92ce0d1f1095b06c", func := "perigee/perigeelaw09.PacketPuts", spec := "packetPuts", unfollowed := true, recurses := true, apart := false, narrowed := true }
def PacketPutsUptoSaid : Prop := packetPutsUptoRow.holds Try.pinned (OpenSpec.upto packetPutsSpec)

/-- 'perigeelaw09.PacketJoins', WHERE WHAT IT READS IS OF BULK AT MOST 1048576: true; the input reads as it did. -/
def packetJoinsUptoRow : OpenClaim := { program := "ytbpfhjmiaaaoiaa", sum := "c059291405885bc0b80cfeb6d0ee97d80d839e67cd6491eb92ce0d1f1095b06c", func := "perigee/perigeelaw09.PacketJoins", spec := "packetJoins", unfollowed := true, recurses := true, apart := false, narrowed := true }
def PacketJoinsUptoSaid : Prop := packetJoinsUptoRow.holds Try.pinned (OpenSpec.upto packetJoinsSpec)

/-- 'perigeelaw09.PacketMessage', WHERE WHAT IT READS IS OF BULK AT MOST 1048576: true; the input reads as it did. -/
def packetMessageUptoRow : OpenClaim := { program := "ytbpfhjmiaaaoiaa", sum := "c059291405885bc0b80cfeb6d0ee97d80d839e67cd6491eb92ce0d1f1095b06c", func := "perigee/perigeelaw09.PacketMessage", spec := "packetMessage", unfollowed := true, recurses := true, apart := false, narrowed := true }
def PacketMessageUptoSaid : Prop := packetMessageUptoRow.holds Try.pinned (OpenSpec.upto packetMessageSpec)

/-- 'perigeelaw09.PacketLosses', WHERE WHAT IT READS IS OF BULK AT MOST 1048576: true; the input reads as it did. -/
def packetLossesUptoRow : OpenClaim := { program := "ytbpfhjmiaaaoiaa", sum := "c059291405885bc0b80cfeb6d0ee97d80d839e67cd6491eb92ce0d1f1095b06c", func := "perigee/perigeelaw09.PacketLosses", spec := "packetLosses", unfollowed := true, recurses := true, apart := false, narrowed := true }
def PacketLossesUptoSaid : Prop := packetLossesUptoRow.holds Try.pinned (OpenSpec.upto packetLossesSpec)

/-- 'perigeelaw09.PacketSplits', WHERE WHAT IT READS IS OF BULK AT MOST 1048576: true; the input reads as it did. -/
def packetSplitsUptoRow : OpenClaim := { program := "ytbpfhjmiaaaoiaa", sum := "c059291405885bc0b80cfeb6d0ee97d80d839e67cd6491eb92ce0d1f1095b06c", func := "perigee/perigeelaw09.PacketSplits", spec := "packetSplits", unfollowed := true, recurses := true, apart := false, narrowed := true }
def PacketSplitsUptoSaid : Prop := packetSplitsUptoRow.holds Try.pinned (OpenSpec.upto packetSplitsSpec)

/-- 'perigeelaw09.PacketTakes', WHERE WHAT IT READS IS OF BULK AT MOST 1048576: true; the input reads as it did. -/
def packetTakesUptoRow : OpenClaim := { program := "ytbpfhjmiaaaoiaa", sum := "c059291405885bc0b80cfeb6d0ee97d80d839e67cd6491eb92ce0d1f1095b06c", func := "perigee/perigeelaw09.PacketTakes", spec := "packetTakes", unfollowed := true, recurses := true, apart := false, narrowed := true }
def PacketTakesUptoSaid : Prop := packetTakesUptoRow.holds Try.pinned (OpenSpec.upto packetTakesSpec)

/-- 'perigeelaw09.PacketBack', WHERE WHAT IT READS IS OF BULK AT MOST 1048576: true; the input reads as it did. -/
def packetBackUptoRow : OpenClaim := { program := "ytbpfhjmiaaaoiaa", sum := "c059291405885bc0b80cfeb6d0ee97d80d839e67cd6491eb92ce0d1f1095b06c", func := "perigee/perigeelaw09.PacketBack", spec := "packetBack", unfollowed := true, recurses := true, apart := false, narrowed := true }
def PacketBackUptoSaid : Prop := packetBackUptoRow.holds Try.pinned (OpenSpec.upto packetBackSpec)

end Rows
end Go.Proofs.Ytbpfhjmiaaaoiaa
