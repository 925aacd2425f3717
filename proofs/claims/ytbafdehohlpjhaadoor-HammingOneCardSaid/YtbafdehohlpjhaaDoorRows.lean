/-
  NARROWER THAN 'FOR EVERY INPUT', by the rows' own cells (each row's printed sentence says how): HammingCodes: laid · HammingClean: laid · HammingOne: laid · HammingTwo: laid · HammingDistance: laid · HammingNear: laid.
  DERIVED. THE GIVEN ROWS OF THIS SEAT. 6 by the template 'for every input the law returns true; each argument reads behind the call as it read before'; 0 by the template 'total and deterministic' (their statements: YtbafdehohlpjhaaDoorTotals.lean).
  GIVEN WITH THE SEED: the statements are not yours to turn. If you find one false, say at which input.
  Laid BY PROGRAM, IN A SANDBOX (cutbox-rows.mjs): the forced cells as the released guide's own fill.sh prints them over the translation 1ffe96f42e31b00a… (all of the seat's roots in one cut). By AI agents, Wed Nov 11 2026. No macro, syntax, notation, axiom, sorry.
-/
import Derived.Test.YtbafdehohlpjhaaDoorChecked
import GoSem.Claim
import GoSem.ClaimJoined
import GoSem.ClaimMapViews
import Derived.JoinedTies
import Derived.KernelRfl
namespace Go.Proofs.YtbafdehohlpjhaaDoor
/- THE CELL 'sum', in the pinned program and in every row, IS THE sha256 OF THE DUMP (.gsa) THAT YtbafdehohlpjhaaDoorProg.lean LOADS. Nothing in Lean hashes anything: it is a label: what it is worth is what the hold of that sum in a sandbox is worth. -/
noncomputable def Tryd.pinned : Pinned := { name := "ytbafdehohlpjhaadoor", sum := "1ffe96f42e31b00abebb2416165db1ccd2a1c36369296fe6a3dc70f2ecbad512", checked := Tryd.checked }
namespace Rows
def none {H : Type} : Left H := { results := [], args := [] }

/- WHAT THE LISTED PACKAGE-LEVEL VARIABLES READ AS WHEN THE CALL BEGINS. Each datum BY PROGRAM (the guide's laid-datum.mjs) off the statement by which the dump's own 'gosem.cut.vars' lays the variable. In a bare row this is a premise. The card (YtbafdehohlpjhaaDoorCards.lean) ties it to the program's text. -/
def laid_math_bits_deBruijn64tab {H : Type} : DataW H := .agg [.lit (.int .u8 0), .lit (.int .u8 1), .lit (.int .u8 56), .lit (.int .u8 2), .lit (.int .u8 57), .lit (.int .u8 49), .lit (.int .u8 28), .lit (.int .u8 3), .lit (.int .u8 61), .lit (.int .u8 58), .lit (.int .u8 42), .lit (.int .u8 50), .lit (.int .u8 38), .lit (.int .u8 29), .lit (.int .u8 17), .lit (.int .u8 4), .lit (.int .u8 62), .lit (.int .u8 47), .lit (.int .u8 59), .lit (.int .u8 36), .lit (.int .u8 45), .lit (.int .u8 43), .lit (.int .u8 51), .lit (.int .u8 22), .lit (.int .u8 53), .lit (.int .u8 39), .lit (.int .u8 33), .lit (.int .u8 30), .lit (.int .u8 24), .lit (.int .u8 18), .lit (.int .u8 12), .lit (.int .u8 5), .lit (.int .u8 63), .lit (.int .u8 55), .lit (.int .u8 48), .lit (.int .u8 27), .lit (.int .u8 60), .lit (.int .u8 41), .lit (.int .u8 37), .lit (.int .u8 16), .lit (.int .u8 46), .lit (.int .u8 35), .lit (.int .u8 44), .lit (.int .u8 21), .lit (.int .u8 52), .lit (.int .u8 32), .lit (.int .u8 23), .lit (.int .u8 11), .lit (.int .u8 54), .lit (.int .u8 26), .lit (.int .u8 40), .lit (.int .u8 15), .lit (.int .u8 34), .lit (.int .u8 20), .lit (.int .u8 31), .lit (.int .u8 10), .lit (.int .u8 25), .lit (.int .u8 14), .lit (.int .u8 19), .lit (.int .u8 9), .lit (.int .u8 13), .lit (.int .u8 8), .lit (.int .u8 7), .lit (.int .u8 6)]

/-- 'perigeelaw29.HammingCodes': WHATEVER THE INPUT: true; the input reads as it did. -/
def hammingCodesSpec : ChangeSpec := { name := "hammingCodes", fn := fun _ => fun
  | [d1, d2, d3] => { results := [.lit (.bool true)], args := [d1, d2, d3] }
  | _ => none }
def hammingCodesRow : OpenClaim := { program := "ytbafdehohlpjhaadoor", sum := "1ffe96f42e31b00abebb2416165db1ccd2a1c36369296fe6a3dc70f2ecbad512", func := "perigee/perigeelaw29.HammingCodes", spec := "hammingCodes", unfollowed := true, recurses := true, named := ["math/bits.deBruijn64tab"], apart := false, laid := [("math/bits.deBruijn64tab", laid_math_bits_deBruijn64tab)] }
def HammingCodesSaid : Prop := hammingCodesRow.holds Tryd.pinned (OpenSpec.ofChange hammingCodesSpec)

/-- ITS FALSE NEIGHBOUR: 'it returns false'. Refute it at one input. -/
def hammingCodesWrong : ChangeSpec := { name := "hammingCodes", fn := fun _ => fun
  | [d1, d2, d3] => { results := [.lit (.bool false)], args := [d1, d2, d3] }
  | _ => none }
def HammingCodesWrongFalsely : Prop := hammingCodesRow.holds Tryd.pinned (OpenSpec.ofChange hammingCodesWrong)

/-- 'perigeelaw29.HammingClean': WHATEVER THE INPUT: true; the input reads as it did. -/
def hammingCleanSpec : ChangeSpec := { name := "hammingClean", fn := fun _ => fun
  | [d] => { results := [.lit (.bool true)], args := [d] }
  | _ => none }
def hammingCleanRow : OpenClaim := { program := "ytbafdehohlpjhaadoor", sum := "1ffe96f42e31b00abebb2416165db1ccd2a1c36369296fe6a3dc70f2ecbad512", func := "perigee/perigeelaw29.HammingClean", spec := "hammingClean", unfollowed := true, recurses := true, named := ["math/bits.deBruijn64tab"], apart := false, laid := [("math/bits.deBruijn64tab", laid_math_bits_deBruijn64tab)] }
def HammingCleanSaid : Prop := hammingCleanRow.holds Tryd.pinned (OpenSpec.ofChange hammingCleanSpec)

/-- ITS FALSE NEIGHBOUR: 'it returns false'. Refute it at one input. -/
def hammingCleanWrong : ChangeSpec := { name := "hammingClean", fn := fun _ => fun
  | [d] => { results := [.lit (.bool false)], args := [d] }
  | _ => none }
def HammingCleanWrongFalsely : Prop := hammingCleanRow.holds Tryd.pinned (OpenSpec.ofChange hammingCleanWrong)

/-- 'perigeelaw29.HammingOne': WHATEVER THE INPUT: true; the input reads as it did. -/
def hammingOneSpec : ChangeSpec := { name := "hammingOne", fn := fun _ => fun
  | [d] => { results := [.lit (.bool true)], args := [d] }
  | _ => none }
def hammingOneRow : OpenClaim := { program := "ytbafdehohlpjhaadoor", sum := "1ffe96f42e31b00abebb2416165db1ccd2a1c36369296fe6a3dc70f2ecbad512", func := "perigee/perigeelaw29.HammingOne", spec := "hammingOne", unfollowed := true, recurses := true, named := ["math/bits.deBruijn64tab"], apart := false, laid := [("math/bits.deBruijn64tab", laid_math_bits_deBruijn64tab)] }
def HammingOneSaid : Prop := hammingOneRow.holds Tryd.pinned (OpenSpec.ofChange hammingOneSpec)

/-- ITS FALSE NEIGHBOUR: 'it returns false'. Refute it at one input. -/
def hammingOneWrong : ChangeSpec := { name := "hammingOne", fn := fun _ => fun
  | [d] => { results := [.lit (.bool false)], args := [d] }
  | _ => none }
def HammingOneWrongFalsely : Prop := hammingOneRow.holds Tryd.pinned (OpenSpec.ofChange hammingOneWrong)

/-- 'perigeelaw29.HammingTwo': WHATEVER THE INPUT: true; the input reads as it did. -/
def hammingTwoSpec : ChangeSpec := { name := "hammingTwo", fn := fun _ => fun
  | [d] => { results := [.lit (.bool true)], args := [d] }
  | _ => none }
def hammingTwoRow : OpenClaim := { program := "ytbafdehohlpjhaadoor", sum := "1ffe96f42e31b00abebb2416165db1ccd2a1c36369296fe6a3dc70f2ecbad512", func := "perigee/perigeelaw29.HammingTwo", spec := "hammingTwo", unfollowed := true, recurses := true, named := ["math/bits.deBruijn64tab"], apart := false, laid := [("math/bits.deBruijn64tab", laid_math_bits_deBruijn64tab)] }
def HammingTwoSaid : Prop := hammingTwoRow.holds Tryd.pinned (OpenSpec.ofChange hammingTwoSpec)

/-- ITS FALSE NEIGHBOUR: 'it returns false'. Refute it at one input. -/
def hammingTwoWrong : ChangeSpec := { name := "hammingTwo", fn := fun _ => fun
  | [d] => { results := [.lit (.bool false)], args := [d] }
  | _ => none }
def HammingTwoWrongFalsely : Prop := hammingTwoRow.holds Tryd.pinned (OpenSpec.ofChange hammingTwoWrong)

/-- 'perigeelaw29.HammingDistance': WHATEVER THE INPUT: true; the input reads as it did. -/
def hammingDistanceSpec : ChangeSpec := { name := "hammingDistance", fn := fun _ => fun
  | [d1, d2] => { results := [.lit (.bool true)], args := [d1, d2] }
  | _ => none }
def hammingDistanceRow : OpenClaim := { program := "ytbafdehohlpjhaadoor", sum := "1ffe96f42e31b00abebb2416165db1ccd2a1c36369296fe6a3dc70f2ecbad512", func := "perigee/perigeelaw29.HammingDistance", spec := "hammingDistance", unfollowed := true, recurses := true, named := ["math/bits.deBruijn64tab"], apart := false, laid := [("math/bits.deBruijn64tab", laid_math_bits_deBruijn64tab)] }
def HammingDistanceSaid : Prop := hammingDistanceRow.holds Tryd.pinned (OpenSpec.ofChange hammingDistanceSpec)

/-- ITS FALSE NEIGHBOUR: 'it returns false'. Refute it at one input. -/
def hammingDistanceWrong : ChangeSpec := { name := "hammingDistance", fn := fun _ => fun
  | [d1, d2] => { results := [.lit (.bool false)], args := [d1, d2] }
  | _ => none }
def HammingDistanceWrongFalsely : Prop := hammingDistanceRow.holds Tryd.pinned (OpenSpec.ofChange hammingDistanceWrong)

/-- 'perigeelaw29.HammingNear': WHATEVER THE INPUT: true; the input reads as it did. -/
def hammingNearSpec : ChangeSpec := { name := "hammingNear", fn := fun _ => fun
  | [d] => { results := [.lit (.bool true)], args := [d] }
  | _ => none }
def hammingNearRow : OpenClaim := { program := "ytbafdehohlpjhaadoor", sum := "1ffe96f42e31b00abebb2416165db1ccd2a1c36369296fe6a3dc70f2ecbad512", func := "perigee/perigeelaw29.HammingNear", spec := "hammingNear", unfollowed := true, recurses := true, named := ["math/bits.deBruijn64tab"], apart := false, laid := [("math/bits.deBruijn64tab", laid_math_bits_deBruijn64tab)] }
def HammingNearSaid : Prop := hammingNearRow.holds Tryd.pinned (OpenSpec.ofChange hammingNearSpec)

/-- ITS FALSE NEIGHBOUR: 'it returns false'. Refute it at one input. -/
def hammingNearWrong : ChangeSpec := { name := "hammingNear", fn := fun _ => fun
  | [d] => { results := [.lit (.bool false)], args := [d] }
  | _ => none }
def HammingNearWrongFalsely : Prop := hammingNearRow.holds Tryd.pinned (OpenSpec.ofChange hammingNearWrong)

/- THE SECOND FORM. 'bulk': how many values and letters a reading holds, each counted each time it is reached (what is shared counts as often as it is met; a slice's spare places count too). A statement '..UptoSaid' is the law's where the arguments, and the package variables that the reading takes, are together of bulk at most 1048576: NARROWER than '..Said'. Prove '..Said' where nothing that the law and all that it calls make is longer than what came in: it says more and counts as full. Else prove '..UptoSaid'. A law counts once. -/
mutual
def uptoBulk {H : Type} : DataW H → Nat
  | .lit (.string bytes) => bytes.length + 1
  | .lit _ => 1
  | .nil => 1
  | .ptr d => uptoBulk d + 1
  | .slice elems spare => uptoBulkAll elems + uptoBulkAll spare + 1
  | .agg parts => uptoBulkAll parts + 1
  | .iface _ d => uptoBulk d + 1
  | .map entries => uptoBulkEntries entries + 1
  | .held _ => 1
def uptoBulkAll {H : Type} : List (DataW H) → Nat
  | [] => 0
  | d :: r => uptoBulk d + uptoBulkAll r
def uptoBulkEntries {H : Type} : List (Lit × DataW H) → Nat
  | [] => 0
  | x :: r => uptoBulkEntry x + uptoBulkEntries r
def uptoBulkEntry {H : Type} : Lit × DataW H → Nat
  | (.string bytes, d) => bytes.length + uptoBulk d + 1
  | (_, d) => uptoBulk d + 1
 end
def uptoSmall : (H : Type) → List (DataW H) → Bool := fun _ ds => decide (uptoBulkAll ds ≤ 1048576)
def OpenSpec.upto (s : _root_.Go.ChangeSpec) : _root_.Go.OpenSpec := { _root_.Go.OpenSpec.ofChange s with cond := some uptoSmall }

/-- 'perigeelaw29.HammingCodes', WHERE WHAT IT READS IS OF BULK AT MOST 1048576: true; the input reads as it did. -/
def hammingCodesUptoRow : OpenClaim := { program := "ytbafdehohlpjhaadoor", sum := "1ffe96f42e31b00abebb2416165db1ccd2a1c36369296fe6a3dc70f2ecbad512", func := "perigee/perigeelaw29.HammingCodes", spec := "hammingCodes", unfollowed := true, recurses := true, named := ["math/bits.deBruijn64tab"], apart := false, laid := [("math/bits.deBruijn64tab", laid_math_bits_deBruijn64tab)], narrowed := true }
def HammingCodesUptoSaid : Prop := hammingCodesUptoRow.holds Tryd.pinned (OpenSpec.upto hammingCodesSpec)

/-- 'perigeelaw29.HammingClean', WHERE WHAT IT READS IS OF BULK AT MOST 1048576: true; the input reads as it did. -/
def hammingCleanUptoRow : OpenClaim := { program := "ytbafdehohlpjhaadoor", sum := "1ffe96f42e31b00abebb2416165db1ccd2a1c36369296fe6a3dc70f2ecbad512", func := "perigee/perigeelaw29.HammingClean", spec := "hammingClean", unfollowed := true, recurses := true, named := ["math/bits.deBruijn64tab"], apart := false, laid := [("math/bits.deBruijn64tab", laid_math_bits_deBruijn64tab)], narrowed := true }
def HammingCleanUptoSaid : Prop := hammingCleanUptoRow.holds Tryd.pinned (OpenSpec.upto hammingCleanSpec)

/-- 'perigeelaw29.HammingOne', WHERE WHAT IT READS IS OF BULK AT MOST 1048576: true; the input reads as it did. -/
def hammingOneUptoRow : OpenClaim := { program := "ytbafdehohlpjhaadoor", sum := "1ffe96f42e31b00abebb2416165db1ccd2a1c36369296fe6a3dc70f2ecbad512", func := "perigee/perigeelaw29.HammingOne", spec := "hammingOne", unfollowed := true, recurses := true, named := ["math/bits.deBruijn64tab"], apart := false, laid := [("math/bits.deBruijn64tab", laid_math_bits_deBruijn64tab)], narrowed := true }
def HammingOneUptoSaid : Prop := hammingOneUptoRow.holds Tryd.pinned (OpenSpec.upto hammingOneSpec)

/-- 'perigeelaw29.HammingTwo', WHERE WHAT IT READS IS OF BULK AT MOST 1048576: true; the input reads as it did. -/
def hammingTwoUptoRow : OpenClaim := { program := "ytbafdehohlpjhaadoor", sum := "1ffe96f42e31b00abebb2416165db1ccd2a1c36369296fe6a3dc70f2ecbad512", func := "perigee/perigeelaw29.HammingTwo", spec := "hammingTwo", unfollowed := true, recurses := true, named := ["math/bits.deBruijn64tab"], apart := false, laid := [("math/bits.deBruijn64tab", laid_math_bits_deBruijn64tab)], narrowed := true }
def HammingTwoUptoSaid : Prop := hammingTwoUptoRow.holds Tryd.pinned (OpenSpec.upto hammingTwoSpec)

/-- 'perigeelaw29.HammingDistance', WHERE WHAT IT READS IS OF BULK AT MOST 1048576: true; the input reads as it did. -/
def hammingDistanceUptoRow : OpenClaim := { program := "ytbafdehohlpjhaadoor", sum := "1ffe96f42e31b00abebb2416165db1ccd2a1c36369296fe6a3dc70f2ecbad512", func := "perigee/perigeelaw29.HammingDistance", spec := "hammingDistance", unfollowed := true, recurses := true, named := ["math/bits.deBruijn64tab"], apart := false, laid := [("math/bits.deBruijn64tab", laid_math_bits_deBruijn64tab)], narrowed := true }
def HammingDistanceUptoSaid : Prop := hammingDistanceUptoRow.holds Tryd.pinned (OpenSpec.upto hammingDistanceSpec)

/-- 'perigeelaw29.HammingNear', WHERE WHAT IT READS IS OF BULK AT MOST 1048576: true; the input reads as it did. -/
def hammingNearUptoRow : OpenClaim := { program := "ytbafdehohlpjhaadoor", sum := "1ffe96f42e31b00abebb2416165db1ccd2a1c36369296fe6a3dc70f2ecbad512", func := "perigee/perigeelaw29.HammingNear", spec := "hammingNear", unfollowed := true, recurses := true, named := ["math/bits.deBruijn64tab"], apart := false, laid := [("math/bits.deBruijn64tab", laid_math_bits_deBruijn64tab)], narrowed := true }
def HammingNearUptoSaid : Prop := hammingNearUptoRow.holds Tryd.pinned (OpenSpec.upto hammingNearSpec)

end Rows
end Go.Proofs.YtbafdehohlpjhaaDoor
