/-
  NARROWER THAN 'FOR EVERY INPUT', by the rows' own cells (each row's printed sentence says how): PatchesVersions: laid · PatchesParts: laid · PatchesUpsets: laid · PatchesLost: laid · PatchesNone: laid · PatchesWhole: laid.
  DERIVED. THE GIVEN ROWS OF THIS SEAT. 6 by the template 'for every input the law returns true; each argument reads behind the call as it read before'; 0 by the template 'total and deterministic' (their statements: YtecocfcaeenaoaaDoorTotals.lean).
  GIVEN WITH THE SEED: the statements are not yours to turn. If you find one false, say at which input.
  Laid BY PROGRAM, IN A SANDBOX (cutbox-rows.mjs): the forced cells as the released guide's own fill.sh prints them over the translation 1a4c00fb92d1f987… (all of the seat's roots in one cut). By AI agents, Wed Nov 11 2026. No macro, syntax, notation, axiom, sorry.
-/
import Derived.Test.YtecocfcaeenaoaaDoorChecked
import GoSem.Claim
import GoSem.ClaimJoined
import GoSem.ClaimMapViews
import Derived.JoinedTies
import Derived.KernelRfl
namespace Go.Proofs.YtecocfcaeenaoaaDoor
/- THE CELL 'sum', in the pinned program and in every row, IS THE sha256 OF THE DUMP (.gsa) THAT YtecocfcaeenaoaaDoorProg.lean LOADS. Nothing in Lean hashes anything: it is a label: what it is worth is what the hold of that sum in a sandbox is worth. -/
noncomputable def Tryd.pinned : Pinned := { name := "ytecocfcaeenaoaadoor", sum := "1a4c00fb92d1f9875a5f103e66b73d090a6aa9b02858f7e04a97887b039505a4", checked := Tryd.checked }
namespace Rows
def none {H : Type} : Left H := { results := [], args := [] }

/- WHAT THE LISTED PACKAGE-LEVEL VARIABLES READ AS WHEN THE CALL BEGINS. Each datum BY PROGRAM (the guide's laid-datum.mjs) off the statement by which the dump's own 'gosem.cut.vars' lays the variable. In a bare row this is a premise. The card (YtecocfcaeenaoaaDoorCards.lean) ties it to the program's text. -/
def laid_math_bits_deBruijn64tab {H : Type} : DataW H := .agg [.lit (.int .u8 0), .lit (.int .u8 1), .lit (.int .u8 56), .lit (.int .u8 2), .lit (.int .u8 57), .lit (.int .u8 49), .lit (.int .u8 28), .lit (.int .u8 3), .lit (.int .u8 61), .lit (.int .u8 58), .lit (.int .u8 42), .lit (.int .u8 50), .lit (.int .u8 38), .lit (.int .u8 29), .lit (.int .u8 17), .lit (.int .u8 4), .lit (.int .u8 62), .lit (.int .u8 47), .lit (.int .u8 59), .lit (.int .u8 36), .lit (.int .u8 45), .lit (.int .u8 43), .lit (.int .u8 51), .lit (.int .u8 22), .lit (.int .u8 53), .lit (.int .u8 39), .lit (.int .u8 33), .lit (.int .u8 30), .lit (.int .u8 24), .lit (.int .u8 18), .lit (.int .u8 12), .lit (.int .u8 5), .lit (.int .u8 63), .lit (.int .u8 55), .lit (.int .u8 48), .lit (.int .u8 27), .lit (.int .u8 60), .lit (.int .u8 41), .lit (.int .u8 37), .lit (.int .u8 16), .lit (.int .u8 46), .lit (.int .u8 35), .lit (.int .u8 44), .lit (.int .u8 21), .lit (.int .u8 52), .lit (.int .u8 32), .lit (.int .u8 23), .lit (.int .u8 11), .lit (.int .u8 54), .lit (.int .u8 26), .lit (.int .u8 40), .lit (.int .u8 15), .lit (.int .u8 34), .lit (.int .u8 20), .lit (.int .u8 31), .lit (.int .u8 10), .lit (.int .u8 25), .lit (.int .u8 14), .lit (.int .u8 19), .lit (.int .u8 9), .lit (.int .u8 13), .lit (.int .u8 8), .lit (.int .u8 7), .lit (.int .u8 6)]

/-- 'perigeelaw31.PatchesVersions': WHATEVER THE INPUT: true; the input reads as it did. -/
def patchesVersionsSpec : ChangeSpec := { name := "patchesVersions", fn := fun _ => fun
  | [d] => { results := [.lit (.bool true)], args := [d] }
  | _ => none }
def patchesVersionsRow : OpenClaim := { program := "ytecocfcaeenaoaadoor", sum := "1a4c00fb92d1f9875a5f103e66b73d090a6aa9b02858f7e04a97887b039505a4", func := "perigee/perigeelaw31.PatchesVersions", spec := "patchesVersions", unfollowed := true, recurses := true, named := ["math/bits.deBruijn64tab"], apart := false, laid := [("math/bits.deBruijn64tab", laid_math_bits_deBruijn64tab)] }
def PatchesVersionsSaid : Prop := patchesVersionsRow.holds Tryd.pinned (OpenSpec.ofChange patchesVersionsSpec)

/-- ITS FALSE NEIGHBOUR: 'it returns false'. Refute it at one input. -/
def patchesVersionsWrong : ChangeSpec := { name := "patchesVersions", fn := fun _ => fun
  | [d] => { results := [.lit (.bool false)], args := [d] }
  | _ => none }
def PatchesVersionsWrongFalsely : Prop := patchesVersionsRow.holds Tryd.pinned (OpenSpec.ofChange patchesVersionsWrong)

/-- 'perigeelaw31.PatchesParts': WHATEVER THE INPUT: true; the input reads as it did. -/
def patchesPartsSpec : ChangeSpec := { name := "patchesParts", fn := fun _ => fun
  | [d1, d2, d3] => { results := [.lit (.bool true)], args := [d1, d2, d3] }
  | _ => none }
def patchesPartsRow : OpenClaim := { program := "ytecocfcaeenaoaadoor", sum := "1a4c00fb92d1f9875a5f103e66b73d090a6aa9b02858f7e04a97887b039505a4", func := "perigee/perigeelaw31.PatchesParts", spec := "patchesParts", unfollowed := true, recurses := true, named := ["math/bits.deBruijn64tab"], apart := false, laid := [("math/bits.deBruijn64tab", laid_math_bits_deBruijn64tab)] }
def PatchesPartsSaid : Prop := patchesPartsRow.holds Tryd.pinned (OpenSpec.ofChange patchesPartsSpec)

/-- ITS FALSE NEIGHBOUR: 'it returns false'. Refute it at one input. -/
def patchesPartsWrong : ChangeSpec := { name := "patchesParts", fn := fun _ => fun
  | [d1, d2, d3] => { results := [.lit (.bool false)], args := [d1, d2, d3] }
  | _ => none }
def PatchesPartsWrongFalsely : Prop := patchesPartsRow.holds Tryd.pinned (OpenSpec.ofChange patchesPartsWrong)

/-- 'perigeelaw31.PatchesUpsets': WHATEVER THE INPUT: true; the input reads as it did. -/
def patchesUpsetsSpec : ChangeSpec := { name := "patchesUpsets", fn := fun _ => fun
  | [d1, d2, d3] => { results := [.lit (.bool true)], args := [d1, d2, d3] }
  | _ => none }
def patchesUpsetsRow : OpenClaim := { program := "ytecocfcaeenaoaadoor", sum := "1a4c00fb92d1f9875a5f103e66b73d090a6aa9b02858f7e04a97887b039505a4", func := "perigee/perigeelaw31.PatchesUpsets", spec := "patchesUpsets", unfollowed := true, recurses := true, named := ["math/bits.deBruijn64tab"], apart := false, laid := [("math/bits.deBruijn64tab", laid_math_bits_deBruijn64tab)] }
def PatchesUpsetsSaid : Prop := patchesUpsetsRow.holds Tryd.pinned (OpenSpec.ofChange patchesUpsetsSpec)

/-- ITS FALSE NEIGHBOUR: 'it returns false'. Refute it at one input. -/
def patchesUpsetsWrong : ChangeSpec := { name := "patchesUpsets", fn := fun _ => fun
  | [d1, d2, d3] => { results := [.lit (.bool false)], args := [d1, d2, d3] }
  | _ => none }
def PatchesUpsetsWrongFalsely : Prop := patchesUpsetsRow.holds Tryd.pinned (OpenSpec.ofChange patchesUpsetsWrong)

/-- 'perigeelaw31.PatchesLost': WHATEVER THE INPUT: true; the input reads as it did. -/
def patchesLostSpec : ChangeSpec := { name := "patchesLost", fn := fun _ => fun
  | [d1, d2, d3] => { results := [.lit (.bool true)], args := [d1, d2, d3] }
  | _ => none }
def patchesLostRow : OpenClaim := { program := "ytecocfcaeenaoaadoor", sum := "1a4c00fb92d1f9875a5f103e66b73d090a6aa9b02858f7e04a97887b039505a4", func := "perigee/perigeelaw31.PatchesLost", spec := "patchesLost", unfollowed := true, recurses := true, named := ["math/bits.deBruijn64tab"], apart := false, laid := [("math/bits.deBruijn64tab", laid_math_bits_deBruijn64tab)] }
def PatchesLostSaid : Prop := patchesLostRow.holds Tryd.pinned (OpenSpec.ofChange patchesLostSpec)

/-- ITS FALSE NEIGHBOUR: 'it returns false'. Refute it at one input. -/
def patchesLostWrong : ChangeSpec := { name := "patchesLost", fn := fun _ => fun
  | [d1, d2, d3] => { results := [.lit (.bool false)], args := [d1, d2, d3] }
  | _ => none }
def PatchesLostWrongFalsely : Prop := patchesLostRow.holds Tryd.pinned (OpenSpec.ofChange patchesLostWrong)

/-- 'perigeelaw31.PatchesNone': WHATEVER THE INPUT: true; the input reads as it did. -/
def patchesNoneSpec : ChangeSpec := { name := "patchesNone", fn := fun _ => fun
  | [d1, d2, d3] => { results := [.lit (.bool true)], args := [d1, d2, d3] }
  | _ => none }
def patchesNoneRow : OpenClaim := { program := "ytecocfcaeenaoaadoor", sum := "1a4c00fb92d1f9875a5f103e66b73d090a6aa9b02858f7e04a97887b039505a4", func := "perigee/perigeelaw31.PatchesNone", spec := "patchesNone", unfollowed := true, recurses := true, named := ["math/bits.deBruijn64tab"], apart := false, laid := [("math/bits.deBruijn64tab", laid_math_bits_deBruijn64tab)] }
def PatchesNoneSaid : Prop := patchesNoneRow.holds Tryd.pinned (OpenSpec.ofChange patchesNoneSpec)

/-- ITS FALSE NEIGHBOUR: 'it returns false'. Refute it at one input. -/
def patchesNoneWrong : ChangeSpec := { name := "patchesNone", fn := fun _ => fun
  | [d1, d2, d3] => { results := [.lit (.bool false)], args := [d1, d2, d3] }
  | _ => none }
def PatchesNoneWrongFalsely : Prop := patchesNoneRow.holds Tryd.pinned (OpenSpec.ofChange patchesNoneWrong)

/-- 'perigeelaw31.PatchesWhole': WHATEVER THE INPUT: true; the input reads as it did. -/
def patchesWholeSpec : ChangeSpec := { name := "patchesWhole", fn := fun _ => fun
  | [d1, d2, d3] => { results := [.lit (.bool true)], args := [d1, d2, d3] }
  | _ => none }
def patchesWholeRow : OpenClaim := { program := "ytecocfcaeenaoaadoor", sum := "1a4c00fb92d1f9875a5f103e66b73d090a6aa9b02858f7e04a97887b039505a4", func := "perigee/perigeelaw31.PatchesWhole", spec := "patchesWhole", unfollowed := true, recurses := true, named := ["math/bits.deBruijn64tab"], apart := false, laid := [("math/bits.deBruijn64tab", laid_math_bits_deBruijn64tab)] }
def PatchesWholeSaid : Prop := patchesWholeRow.holds Tryd.pinned (OpenSpec.ofChange patchesWholeSpec)

/-- ITS FALSE NEIGHBOUR: 'it returns false'. Refute it at one input. -/
def patchesWholeWrong : ChangeSpec := { name := "patchesWhole", fn := fun _ => fun
  | [d1, d2, d3] => { results := [.lit (.bool false)], args := [d1, d2, d3] }
  | _ => none }
def PatchesWholeWrongFalsely : Prop := patchesWholeRow.holds Tryd.pinned (OpenSpec.ofChange patchesWholeWrong)

/- THE SECOND FORM. 'bulk': how many values and letters a reading holds, each counted each time it is reached (what is shared counts as often as it is met; a slice's spare places count too). A statement '..UptoSaid' is the law's where the arguments, and the package variables that the reading takes, are together of bulk at most 1048576: NARROWER than '..Said'. Prove '..Said' where nothing that the law and all that it calls make is longer than what came in: it says more and counts as full. Else prove '..UptoSaid'. A law counts once. -/
mutual
def uptoBulk {H : Type} : DataW H → Nat
  | .lit (.string bytes) => bytes.length + 1
  | .lit _ => 1
  | .nil => 1
  | .ptr d => uptoBulk d + 1
  | .slice elems spare => uptoBulkAll elems + uptoBulkAll spare + 1
  | .agg parts => uptoBulkAll parts + 1
  | .iface _ d => uptoBulk d + 1
  | .map entries => uptoBulkEntries entries + 1
  | .held _ => 1
def uptoBulkAll {H : Type} : List (DataW H) → Nat
  | [] => 0
  | d :: r => uptoBulk d + uptoBulkAll r
def uptoBulkEntries {H : Type} : List (Lit × DataW H) → Nat
  | [] => 0
  | x :: r => uptoBulkEntry x + uptoBulkEntries r
def uptoBulkEntry {H : Type} : Lit × DataW H → Nat
  | (.string bytes, d) => bytes.length + uptoBulk d + 1
  | (_, d) => uptoBulk d + 1
 end
def uptoSmall : (H : Type) → List (DataW H) → Bool := fun _ ds => decide (uptoBulkAll ds ≤ 1048576)
def OpenSpec.upto (s : _root_.Go.ChangeSpec) : _root_.Go.OpenSpec := { _root_.Go.OpenSpec.ofChange s with cond := some uptoSmall }

/-- 'perigeelaw31.PatchesVersions', WHERE WHAT IT READS IS OF BULK AT MOST 1048576: true; the input reads as it did. -/
def patchesVersionsUptoRow : OpenClaim := { program := "ytecocfcaeenaoaadoor", sum := "1a4c00fb92d1f9875a5f103e66b73d090a6aa9b02858f7e04a97887b039505a4", func := "perigee/perigeelaw31.PatchesVersions", spec := "patchesVersions", unfollowed := true, recurses := true, named := ["math/bits.deBruijn64tab"], apart := false, laid := [("math/bits.deBruijn64tab", laid_math_bits_deBruijn64tab)], narrowed := true }
def PatchesVersionsUptoSaid : Prop := patchesVersionsUptoRow.holds Tryd.pinned (OpenSpec.upto patchesVersionsSpec)

/-- 'perigeelaw31.PatchesParts', WHERE WHAT IT READS IS OF BULK AT MOST 1048576: true; the input reads as it did. -/
def patchesPartsUptoRow : OpenClaim := { program := "ytecocfcaeenaoaadoor", sum := "1a4c00fb92d1f9875a5f103e66b73d090a6aa9b02858f7e04a97887b039505a4", func := "perigee/perigeelaw31.PatchesParts", spec := "patchesParts", unfollowed := true, recurses := true, named := ["math/bits.deBruijn64tab"], apart := false, laid := [("math/bits.deBruijn64tab", laid_math_bits_deBruijn64tab)], narrowed := true }
def PatchesPartsUptoSaid : Prop := patchesPartsUptoRow.holds Tryd.pinned (OpenSpec.upto patchesPartsSpec)

/-- 'perigeelaw31.PatchesUpsets', WHERE WHAT IT READS IS OF BULK AT MOST 1048576: true; the input reads as it did. -/
def patchesUpsetsUptoRow : OpenClaim := { program := "ytecocfcaeenaoaadoor", sum := "1a4c00fb92d1f9875a5f103e66b73d090a6aa9b02858f7e04a97887b039505a4", func := "perigee/perigeelaw31.PatchesUpsets", spec := "patchesUpsets", unfollowed := true, recurses := true, named := ["math/bits.deBruijn64tab"], apart := false, laid := [("math/bits.deBruijn64tab", laid_math_bits_deBruijn64tab)], narrowed := true }
def PatchesUpsetsUptoSaid : Prop := patchesUpsetsUptoRow.holds Tryd.pinned (OpenSpec.upto patchesUpsetsSpec)

/-- 'perigeelaw31.PatchesLost', WHERE WHAT IT READS IS OF BULK AT MOST 1048576: true; the input reads as it did. -/
def patchesLostUptoRow : OpenClaim := { program := "ytecocfcaeenaoaadoor", sum := "1a4c00fb92d1f9875a5f103e66b73d090a6aa9b02858f7e04a97887b039505a4", func := "perigee/perigeelaw31.PatchesLost", spec := "patchesLost", unfollowed := true, recurses := true, named := ["math/bits.deBruijn64tab"], apart := false, laid := [("math/bits.deBruijn64tab", laid_math_bits_deBruijn64tab)], narrowed := true }
def PatchesLostUptoSaid : Prop := patchesLostUptoRow.holds Tryd.pinned (OpenSpec.upto patchesLostSpec)

/-- 'perigeelaw31.PatchesNone', WHERE WHAT IT READS IS OF BULK AT MOST 1048576: true; the input reads as it did. -/
def patchesNoneUptoRow : OpenClaim := { program := "ytecocfcaeenaoaadoor", sum := "1a4c00fb92d1f9875a5f103e66b73d090a6aa9b02858f7e04a97887b039505a4", func := "perigee/perigeelaw31.PatchesNone", spec := "patchesNone", unfollowed := true, recurses := true, named := ["math/bits.deBruijn64tab"], apart := false, laid := [("math/bits.deBruijn64tab", laid_math_bits_deBruijn64tab)], narrowed := true }
def PatchesNoneUptoSaid : Prop := patchesNoneUptoRow.holds Tryd.pinned (OpenSpec.upto patchesNoneSpec)

/-- 'perigeelaw31.PatchesWhole', WHERE WHAT IT READS IS OF BULK AT MOST 1048576: true; the input reads as it did. -/
def patchesWholeUptoRow : OpenClaim := { program := "ytecocfcaeenaoaadoor", sum := "1a4c00fb92d1f9875a5f103e66b73d090a6aa9b02858f7e04a97887b039505a4", func := "perigee/perigeelaw31.PatchesWhole", spec := "patchesWhole", unfollowed := true, recurses := true, named := ["math/bits.deBruijn64tab"], apart := false, laid := [("math/bits.deBruijn64tab", laid_math_bits_deBruijn64tab)], narrowed := true }
def PatchesWholeUptoSaid : Prop := patchesWholeUptoRow.holds Tryd.pinned (OpenSpec.upto patchesWholeSpec)

end Rows
end Go.Proofs.YtecocfcaeenaoaaDoor
