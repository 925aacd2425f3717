/-
  NARROWER THAN 'FOR EVERY INPUT', by the rows' own cells (each row's printed sentence says how): CltuBlocks: laid · CltuPuts: laid · CltuFixes: laid · CltuUnits: laid · CltuPortions: laid · CltuParses: laid.
  DERIVED. THE GIVEN ROWS OF THIS SEAT. 6 by the template 'for every input the law returns true; each argument reads behind the call as it read before'; 0 by the template 'total and deterministic' (their statements: YtoeepogoogcbiaaDoorTotals.lean).
  GIVEN WITH THE SEED: the statements are not yours to turn. If you find one false, say at which input.
  Laid BY PROGRAM, IN A SANDBOX (cutbox-rows.mjs): the forced cells as the released guide's own fill.sh prints them over the translation 20129bdfda930627… (all of the seat's roots in one cut). By AI agents, Wed Nov 11 2026. No macro, syntax, notation, axiom, sorry.
-/
import Derived.Test.YtoeepogoogcbiaaDoorChecked
import GoSem.Claim
import GoSem.ClaimJoined
import GoSem.ClaimMapViews
import Derived.JoinedTies
import Derived.KernelRfl
namespace Go.Proofs.YtoeepogoogcbiaaDoor
/- THE CELL 'sum', in the pinned program and in every row, IS THE sha256 OF THE DUMP (.gsa) THAT YtoeepogoogcbiaaDoorProg.lean LOADS. Nothing in Lean hashes anything: it is a label: what it is worth is what the hold of that sum in a sandbox is worth. -/
noncomputable def Tryd.pinned : Pinned := { name := "ytoeepogoogcbiaadoor", sum := "20129bdfda930627188e35c4cb303c57e1ac3ddefcfbad3f8d24c118dad69236", checked := Tryd.checked }
namespace Rows
def none {H : Type} : Left H := { results := [], args := [] }

/- WHAT THE LISTED PACKAGE-LEVEL VARIABLES READ AS WHEN THE CALL BEGINS. Each datum BY PROGRAM (the guide's laid-datum.mjs) off the statement by which the dump's own 'gosem.cut.vars' lays the variable. In a bare row this is a premise. The card (YtoeepogoogcbiaaDoorCards.lean) ties it to the program's text. -/
def laid_perigee_cltu_start {H : Type} : DataW H := .agg [.lit (.int .u8 235), .lit (.int .u8 144)]
def laid_perigee_cltu_halves {H : Type} : DataW H := .agg [.lit (.int .u8 0), .lit (.int .u8 69), .lit (.int .u8 79), .lit (.int .u8 10), .lit (.int .u8 91), .lit (.int .u8 30), .lit (.int .u8 20), .lit (.int .u8 81), .lit (.int .u8 115), .lit (.int .u8 54), .lit (.int .u8 60), .lit (.int .u8 121), .lit (.int .u8 40), .lit (.int .u8 109), .lit (.int .u8 103), .lit (.int .u8 34)]

/-- 'perigeelaw13.CltuBlocks': WHATEVER THE INPUT: true; the input reads as it did. -/
def cltuBlocksSpec : ChangeSpec := { name := "cltuBlocks", fn := fun _ => fun
  | [d1, d2] => { results := [.lit (.bool true)], args := [d1, d2] }
  | _ => none }
def cltuBlocksRow : OpenClaim := { program := "ytoeepogoogcbiaadoor", sum := "20129bdfda930627188e35c4cb303c57e1ac3ddefcfbad3f8d24c118dad69236", func := "perigee/perigeelaw13.CltuBlocks", spec := "cltuBlocks", inPlace := ["internal/abi.NoEscape", "internal/bytealg.MakeNoZero"], unfollowed := true, recurses := true, named := ["perigee/cltu.halves", "perigee/cltu.start"], apart := false, laid := [("perigee/cltu.start", laid_perigee_cltu_start), ("perigee/cltu.halves", laid_perigee_cltu_halves)] }
def CltuBlocksSaid : Prop := cltuBlocksRow.holds Tryd.pinned (OpenSpec.ofChange cltuBlocksSpec)

/-- ITS FALSE NEIGHBOUR: 'it returns false'. Refute it at one input. -/
def cltuBlocksWrong : ChangeSpec := { name := "cltuBlocks", fn := fun _ => fun
  | [d1, d2] => { results := [.lit (.bool false)], args := [d1, d2] }
  | _ => none }
def CltuBlocksWrongFalsely : Prop := cltuBlocksRow.holds Tryd.pinned (OpenSpec.ofChange cltuBlocksWrong)

/-- 'perigeelaw13.CltuPuts': WHATEVER THE INPUT: true; the input reads as it did. -/
def cltuPutsSpec : ChangeSpec := { name := "cltuPuts", fn := fun _ => fun
  | [d] => { results := [.lit (.bool true)], args := [d] }
  | _ => none }
def cltuPutsRow : OpenClaim := { program := "ytoeepogoogcbiaadoor", sum := "20129bdfda930627188e35c4cb303c57e1ac3ddefcfbad3f8d24c118dad69236", func := "perigee/perigeelaw13.CltuPuts", spec := "cltuPuts", inPlace := ["internal/abi.NoEscape", "internal/bytealg.MakeNoZero"], unfollowed := true, recurses := true, named := ["perigee/cltu.halves", "perigee/cltu.start"], apart := false, laid := [("perigee/cltu.start", laid_perigee_cltu_start), ("perigee/cltu.halves", laid_perigee_cltu_halves)] }
def CltuPutsSaid : Prop := cltuPutsRow.holds Tryd.pinned (OpenSpec.ofChange cltuPutsSpec)

/-- ITS FALSE NEIGHBOUR: 'it returns false'. Refute it at one input. -/
def cltuPutsWrong : ChangeSpec := { name := "cltuPuts", fn := fun _ => fun
  | [d] => { results := [.lit (.bool false)], args := [d] }
  | _ => none }
def CltuPutsWrongFalsely : Prop := cltuPutsRow.holds Tryd.pinned (OpenSpec.ofChange cltuPutsWrong)

/-- 'perigeelaw13.CltuFixes': WHATEVER THE INPUT: true; the input reads as it did. -/
def cltuFixesSpec : ChangeSpec := { name := "cltuFixes", fn := fun _ => fun
  | [d1, d2, d3] => { results := [.lit (.bool true)], args := [d1, d2, d3] }
  | _ => none }
def cltuFixesRow : OpenClaim := { program := "ytoeepogoogcbiaadoor", sum := "20129bdfda930627188e35c4cb303c57e1ac3ddefcfbad3f8d24c118dad69236", func := "perigee/perigeelaw13.CltuFixes", spec := "cltuFixes", inPlace := ["internal/abi.NoEscape", "internal/bytealg.MakeNoZero"], unfollowed := true, recurses := true, named := ["perigee/cltu.halves", "perigee/cltu.start"], apart := false, laid := [("perigee/cltu.start", laid_perigee_cltu_start), ("perigee/cltu.halves", laid_perigee_cltu_halves)] }
def CltuFixesSaid : Prop := cltuFixesRow.holds Tryd.pinned (OpenSpec.ofChange cltuFixesSpec)

/-- ITS FALSE NEIGHBOUR: 'it returns false'. Refute it at one input. -/
def cltuFixesWrong : ChangeSpec := { name := "cltuFixes", fn := fun _ => fun
  | [d1, d2, d3] => { results := [.lit (.bool false)], args := [d1, d2, d3] }
  | _ => none }
def CltuFixesWrongFalsely : Prop := cltuFixesRow.holds Tryd.pinned (OpenSpec.ofChange cltuFixesWrong)

/-- 'perigeelaw13.CltuUnits': WHATEVER THE INPUT: true; the input reads as it did. -/
def cltuUnitsSpec : ChangeSpec := { name := "cltuUnits", fn := fun _ => fun
  | [d1, d2] => { results := [.lit (.bool true)], args := [d1, d2] }
  | _ => none }
def cltuUnitsRow : OpenClaim := { program := "ytoeepogoogcbiaadoor", sum := "20129bdfda930627188e35c4cb303c57e1ac3ddefcfbad3f8d24c118dad69236", func := "perigee/perigeelaw13.CltuUnits", spec := "cltuUnits", inPlace := ["internal/abi.NoEscape", "internal/bytealg.MakeNoZero"], unfollowed := true, recurses := true, named := ["perigee/cltu.halves", "perigee/cltu.start"], apart := false, laid := [("perigee/cltu.start", laid_perigee_cltu_start), ("perigee/cltu.halves", laid_perigee_cltu_halves)] }
def CltuUnitsSaid : Prop := cltuUnitsRow.holds Tryd.pinned (OpenSpec.ofChange cltuUnitsSpec)

/-- ITS FALSE NEIGHBOUR: 'it returns false'. Refute it at one input. -/
def cltuUnitsWrong : ChangeSpec := { name := "cltuUnits", fn := fun _ => fun
  | [d1, d2] => { results := [.lit (.bool false)], args := [d1, d2] }
  | _ => none }
def CltuUnitsWrongFalsely : Prop := cltuUnitsRow.holds Tryd.pinned (OpenSpec.ofChange cltuUnitsWrong)

/-- 'perigeelaw13.CltuPortions': WHATEVER THE INPUT: true; the input reads as it did. -/
def cltuPortionsSpec : ChangeSpec := { name := "cltuPortions", fn := fun _ => fun
  | [d1, d2] => { results := [.lit (.bool true)], args := [d1, d2] }
  | _ => none }
def cltuPortionsRow : OpenClaim := { program := "ytoeepogoogcbiaadoor", sum := "20129bdfda930627188e35c4cb303c57e1ac3ddefcfbad3f8d24c118dad69236", func := "perigee/perigeelaw13.CltuPortions", spec := "cltuPortions", inPlace := ["internal/abi.NoEscape", "internal/bytealg.MakeNoZero"], unfollowed := true, recurses := true, named := ["perigee/cltu.halves", "perigee/cltu.start"], apart := false, laid := [("perigee/cltu.start", laid_perigee_cltu_start), ("perigee/cltu.halves", laid_perigee_cltu_halves)] }
def CltuPortionsSaid : Prop := cltuPortionsRow.holds Tryd.pinned (OpenSpec.ofChange cltuPortionsSpec)

/-- ITS FALSE NEIGHBOUR: 'it returns false'. Refute it at one input. -/
def cltuPortionsWrong : ChangeSpec := { name := "cltuPortions", fn := fun _ => fun
  | [d1, d2] => { results := [.lit (.bool false)], args := [d1, d2] }
  | _ => none }
def CltuPortionsWrongFalsely : Prop := cltuPortionsRow.holds Tryd.pinned (OpenSpec.ofChange cltuPortionsWrong)

/-- 'perigeelaw13.CltuParses': WHATEVER THE INPUT: true; the input reads as it did. -/
def cltuParsesSpec : ChangeSpec := { name := "cltuParses", fn := fun _ => fun
  | [d1, d2] => { results := [.lit (.bool true)], args := [d1, d2] }
  | _ => none }
def cltuParsesRow : OpenClaim := { program := "ytoeepogoogcbiaadoor", sum := "20129bdfda930627188e35c4cb303c57e1ac3ddefcfbad3f8d24c118dad69236", func := "perigee/perigeelaw13.CltuParses", spec := "cltuParses", inPlace := ["internal/abi.NoEscape", "internal/bytealg.MakeNoZero"], unfollowed := true, recurses := true, named := ["perigee/cltu.halves", "perigee/cltu.start"], apart := false, laid := [("perigee/cltu.start", laid_perigee_cltu_start), ("perigee/cltu.halves", laid_perigee_cltu_halves)] }
def CltuParsesSaid : Prop := cltuParsesRow.holds Tryd.pinned (OpenSpec.ofChange cltuParsesSpec)

/-- ITS FALSE NEIGHBOUR: 'it returns false'. Refute it at one input. -/
def cltuParsesWrong : ChangeSpec := { name := "cltuParses", fn := fun _ => fun
  | [d1, d2] => { results := [.lit (.bool false)], args := [d1, d2] }
  | _ => none }
def CltuParsesWrongFalsely : Prop := cltuParsesRow.holds Tryd.pinned (OpenSpec.ofChange cltuParsesWrong)

/- THE SECOND FORM. 'bulk': how many values and letters a reading holds, each counted each time it is reached (what is shared counts as often as it is met; a slice's spare places count too). A statement '..UptoSaid' is the law's where the arguments, and the package variables that the reading takes, are together of bulk at most 1048576: NARROWER than '..Said'. Prove '..Said' where nothing that the law and all that it calls make is longer than what came in: it says more and counts as full. Else prove '..UptoSaid'. A law counts once. -/
mutual
def uptoBulk {H : Type} : DataW H → Nat
  | .lit (.string bytes) => bytes.length + 1
  | .lit _ => 1
  | .nil => 1
  | .ptr d => uptoBulk d + 1
  | .slice elems spare => uptoBulkAll elems + uptoBulkAll spare + 1
  | .agg parts => uptoBulkAll parts + 1
  | .iface _ d => uptoBulk d + 1
  | .map entries => uptoBulkEntries entries + 1
  | .held _ => 1
def uptoBulkAll {H : Type} : List (DataW H) → Nat
  | [] => 0
  | d :: r => uptoBulk d + uptoBulkAll r
def uptoBulkEntries {H : Type} : List (Lit × DataW H) → Nat
  | [] => 0
  | x :: r => uptoBulkEntry x + uptoBulkEntries r
def uptoBulkEntry {H : Type} : Lit × DataW H → Nat
  | (.string bytes, d) => bytes.length + uptoBulk d + 1
  | (_, d) => uptoBulk d + 1
 end
def uptoSmall : (H : Type) → List (DataW H) → Bool := fun _ ds => decide (uptoBulkAll ds ≤ 1048576)
def OpenSpec.upto (s : _root_.Go.ChangeSpec) : _root_.Go.OpenSpec := { _root_.Go.OpenSpec.ofChange s with cond := some uptoSmall }

/-- 'perigeelaw13.CltuBlocks', WHERE WHAT IT READS IS OF BULK AT MOST 1048576: true; the input reads as it did. -/
def cltuBlocksUptoRow : OpenClaim := { program := "ytoeepogoogcbiaadoor", sum := "20129bdfda930627188e35c4cb303c57e1ac3ddefcfbad3f8d24c118dad69236", func := "perigee/perigeelaw13.CltuBlocks", spec := "cltuBlocks", inPlace := ["internal/abi.NoEscape", "internal/bytealg.MakeNoZero"], unfollowed := true, recurses := true, named := ["perigee/cltu.halves", "perigee/cltu.start"], apart := false, laid := [("perigee/cltu.start", laid_perigee_cltu_start), ("perigee/cltu.halves", laid_perigee_cltu_halves)], narrowed := true }
def CltuBlocksUptoSaid : Prop := cltuBlocksUptoRow.holds Tryd.pinned (OpenSpec.upto cltuBlocksSpec)

/-- 'perigeelaw13.CltuPuts', WHERE WHAT IT READS IS OF BULK AT MOST 1048576: true; the input reads as it did. -/
def cltuPutsUptoRow : OpenClaim := { program := "ytoeepogoogcbiaadoor", sum := "20129bdfda930627188e35c4cb303c57e1ac3ddefcfbad3f8d24c118dad69236", func := "perigee/perigeelaw13.CltuPuts", spec := "cltuPuts", inPlace := ["internal/abi.NoEscape", "internal/bytealg.MakeNoZero"], unfollowed := true, recurses := true, named := ["perigee/cltu.halves", "perigee/cltu.start"], apart := false, laid := [("perigee/cltu.start", laid_perigee_cltu_start), ("perigee/cltu.halves", laid_perigee_cltu_halves)], narrowed := true }
def CltuPutsUptoSaid : Prop := cltuPutsUptoRow.holds Tryd.pinned (OpenSpec.upto cltuPutsSpec)

/-- 'perigeelaw13.CltuFixes', WHERE WHAT IT READS IS OF BULK AT MOST 1048576: true; the input reads as it did. -/
def cltuFixesUptoRow : OpenClaim := { program := "ytoeepogoogcbiaadoor", sum := "20129bdfda930627188e35c4cb303c57e1ac3ddefcfbad3f8d24c118dad69236", func := "perigee/perigeelaw13.CltuFixes", spec := "cltuFixes", inPlace := ["internal/abi.NoEscape", "internal/bytealg.MakeNoZero"], unfollowed := true, recurses := true, named := ["perigee/cltu.halves", "perigee/cltu.start"], apart := false, laid := [("perigee/cltu.start", laid_perigee_cltu_start), ("perigee/cltu.halves", laid_perigee_cltu_halves)], narrowed := true }
def CltuFixesUptoSaid : Prop := cltuFixesUptoRow.holds Tryd.pinned (OpenSpec.upto cltuFixesSpec)

/-- 'perigeelaw13.CltuUnits', WHERE WHAT IT READS IS OF BULK AT MOST 1048576: true; the input reads as it did. -/
def cltuUnitsUptoRow : OpenClaim := { program := "ytoeepogoogcbiaadoor", sum := "20129bdfda930627188e35c4cb303c57e1ac3ddefcfbad3f8d24c118dad69236", func := "perigee/perigeelaw13.CltuUnits", spec := "cltuUnits", inPlace := ["internal/abi.NoEscape", "internal/bytealg.MakeNoZero"], unfollowed := true, recurses := true, named := ["perigee/cltu.halves", "perigee/cltu.start"], apart := false, laid := [("perigee/cltu.start", laid_perigee_cltu_start), ("perigee/cltu.halves", laid_perigee_cltu_halves)], narrowed := true }
def CltuUnitsUptoSaid : Prop := cltuUnitsUptoRow.holds Tryd.pinned (OpenSpec.upto cltuUnitsSpec)

/-- 'perigeelaw13.CltuPortions', WHERE WHAT IT READS IS OF BULK AT MOST 1048576: true; the input reads as it did. -/
def cltuPortionsUptoRow : OpenClaim := { program := "ytoeepogoogcbiaadoor", sum := "20129bdfda930627188e35c4cb303c57e1ac3ddefcfbad3f8d24c118dad69236", func := "perigee/perigeelaw13.CltuPortions", spec := "cltuPortions", inPlace := ["internal/abi.NoEscape", "internal/bytealg.MakeNoZero"], unfollowed := true, recurses := true, named := ["perigee/cltu.halves", "perigee/cltu.start"], apart := false, laid := [("perigee/cltu.start", laid_perigee_cltu_start), ("perigee/cltu.halves", laid_perigee_cltu_halves)], narrowed := true }
def CltuPortionsUptoSaid : Prop := cltuPortionsUptoRow.holds Tryd.pinned (OpenSpec.upto cltuPortionsSpec)

/-- 'perigeelaw13.CltuParses', WHERE WHAT IT READS IS OF BULK AT MOST 1048576: true; the input reads as it did. -/
def cltuParsesUptoRow : OpenClaim := { program := "ytoeepogoogcbiaadoor", sum := "20129bdfda930627188e35c4cb303c57e1ac3ddefcfbad3f8d24c118dad69236", func := "perigee/perigeelaw13.CltuParses", spec := "cltuParses", inPlace := ["internal/abi.NoEscape", "internal/bytealg.MakeNoZero"], unfollowed := true, recurses := true, named := ["perigee/cltu.halves", "perigee/cltu.start"], apart := false, laid := [("perigee/cltu.start", laid_perigee_cltu_start), ("perigee/cltu.halves", laid_perigee_cltu_halves)], narrowed := true }
def CltuParsesUptoSaid : Prop := cltuParsesUptoRow.holds Tryd.pinned (OpenSpec.upto cltuParsesSpec)

end Rows
end Go.Proofs.YtoeepogoogcbiaaDoor
