/-
  No cell of these rows narrows 'for every input' (looked for: loops, veiled, ifaces, maps, wideKeys, modest, calm, conditions, laid).
  DERIVED. THE GIVEN ROWS OF THIS SEAT. 6 by the template 'for every input the law returns true; each argument reads behind the call as it read before'; 0 by the template 'total and deterministic' (their statements: YtkhlicfnfiopnaaTotals.lean).
  GIVEN WITH THE SEED: the statements are not yours to turn. If you find one false, say at which input.
  Laid BY PROGRAM, IN A SANDBOX (cutbox-rows.mjs): the forced cells as the released guide's own fill.sh prints them over the translation aec9d68355c7898e… (all of the seat's roots in one cut). By AI agents, Wed Nov 11 2026. No macro, syntax, notation, axiom, sorry.
-/
import Derived.Test.YtkhlicfnfiopnaaChecked
import GoSem.Claim
import GoSem.ClaimJoined
import GoSem.ClaimMapViews
import Derived.JoinedTies
import Derived.KernelRfl
namespace Go.Proofs.Ytkhlicfnfiopnaa
/- THE CELL 'sum', in the pinned program and in every row, IS THE sha256 OF THE DUMP (.gsa) THAT YtkhlicfnfiopnaaProg.lean LOADS. Nothing in Lean hashes anything: it is a label: what it is worth is what the hold of that sum in a sandbox is worth. -/
noncomputable def Try.pinned : Pinned := { name := "ytkhlicfnfiopnaa", sum := "aec9d68355c7898e890e45d51f23dde662c77af35e37b43c0a28cc1985c9e466", checked := Try.checked }
namespace Rows
def none {H : Type} : Left H := { results := [], args := [] }

/-- 'perigeelaw10.TmframePuts': WHATEVER THE INPUT: true; the input reads as it did. -/
def tmframePutsSpec : ChangeSpec := { name := "tmframePuts", fn := fun _ => fun
  | [d] => { results := [.lit (.bool true)], args := [d] }
  | _ => none }
def tmframePutsRow : OpenClaim := { program := "ytkhlicfnfiopnaa", sum := "aec9d68355c7898e890e45d51f23dde662c77af35e37b43c0a28cc1985c9e466", func := "perigee/perigeelaw10.TmframePuts", spec := "tmframePuts", unfollowed := true, recurses := true, apart := false }
def TmframePutsSaid : Prop := tmframePutsRow.holds Try.pinned (OpenSpec.ofChange tmframePutsSpec)

/-- ITS FALSE NEIGHBOUR: 'it returns false'. Refute it at one input. -/
def tmframePutsWrong : ChangeSpec := { name := "tmframePuts", fn := fun _ => fun
  | [d] => { results := [.lit (.bool false)], args := [d] }
  | _ => none }
def TmframePutsWrongFalsely : Prop := tmframePutsRow.holds Try.pinned (OpenSpec.ofChange tmframePutsWrong)

/-- 'perigeelaw10.TmframeGets': WHATEVER THE INPUT: true; the input reads as it did. -/
def tmframeGetsSpec : ChangeSpec := { name := "tmframeGets", fn := fun _ => fun
  | [d] => { results := [.lit (.bool true)], args := [d] }
  | _ => none }
def tmframeGetsRow : OpenClaim := { program := "ytkhlicfnfiopnaa", sum := "aec9d68355c7898e890e45d51f23dde662c77af35e37b43c0a28cc1985c9e466", func := "perigee/perigeelaw10.TmframeGets", spec := "tmframeGets", unfollowed := true, recurses := true, apart := false }
def TmframeGetsSaid : Prop := tmframeGetsRow.holds Try.pinned (OpenSpec.ofChange tmframeGetsSpec)

/-- ITS FALSE NEIGHBOUR: 'it returns false'. Refute it at one input. -/
def tmframeGetsWrong : ChangeSpec := { name := "tmframeGets", fn := fun _ => fun
  | [d] => { results := [.lit (.bool false)], args := [d] }
  | _ => none }
def TmframeGetsWrongFalsely : Prop := tmframeGetsRow.holds Try.pinned (OpenSpec.ofChange tmframeGetsWrong)

/-- 'perigeelaw10.TmframeBack': WHATEVER THE INPUT: true; the input reads as it did. -/
def tmframeBackSpec : ChangeSpec := { name := "tmframeBack", fn := fun _ => fun
  | [d1, d2] => { results := [.lit (.bool true)], args := [d1, d2] }
  | _ => none }
def tmframeBackRow : OpenClaim := { program := "ytkhlicfnfiopnaa", sum := "aec9d68355c7898e890e45d51f23dde662c77af35e37b43c0a28cc1985c9e466", func := "perigee/perigeelaw10.TmframeBack", spec := "tmframeBack", unfollowed := true, recurses := true, apart := false }
def TmframeBackSaid : Prop := tmframeBackRow.holds Try.pinned (OpenSpec.ofChange tmframeBackSpec)

/-- ITS FALSE NEIGHBOUR: 'it returns false'. Refute it at one input. -/
def tmframeBackWrong : ChangeSpec := { name := "tmframeBack", fn := fun _ => fun
  | [d1, d2] => { results := [.lit (.bool false)], args := [d1, d2] }
  | _ => none }
def TmframeBackWrongFalsely : Prop := tmframeBackRow.holds Try.pinned (OpenSpec.ofChange tmframeBackWrong)

/-- 'perigeelaw10.TmframeFlips': WHATEVER THE INPUT: true; the input reads as it did. -/
def tmframeFlipsSpec : ChangeSpec := { name := "tmframeFlips", fn := fun _ => fun
  | [d1, d2, d3] => { results := [.lit (.bool true)], args := [d1, d2, d3] }
  | _ => none }
def tmframeFlipsRow : OpenClaim := { program := "ytkhlicfnfiopnaa", sum := "aec9d68355c7898e890e45d51f23dde662c77af35e37b43c0a28cc1985c9e466", func := "perigee/perigeelaw10.TmframeFlips", spec := "tmframeFlips", unfollowed := true, recurses := true, apart := false }
def TmframeFlipsSaid : Prop := tmframeFlipsRow.holds Try.pinned (OpenSpec.ofChange tmframeFlipsSpec)

/-- ITS FALSE NEIGHBOUR: 'it returns false'. Refute it at one input. -/
def tmframeFlipsWrong : ChangeSpec := { name := "tmframeFlips", fn := fun _ => fun
  | [d1, d2, d3] => { results := [.lit (.bool false)], args := [d1, d2, d3] }
  | _ => none }
def TmframeFlipsWrongFalsely : Prop := tmframeFlipsRow.holds Try.pinned (OpenSpec.ofChange tmframeFlipsWrong)

/-- 'perigeelaw10.TmframeWhole': WHATEVER THE INPUT: true; the input reads as it did. -/
def tmframeWholeSpec : ChangeSpec := { name := "tmframeWhole", fn := fun _ => fun
  | [d1, d2, d3] => { results := [.lit (.bool true)], args := [d1, d2, d3] }
  | _ => none }
def tmframeWholeRow : OpenClaim := { program := "ytkhlicfnfiopnaa", sum := "aec9d68355c7898e890e45d51f23dde662c77af35e37b43c0a28cc1985c9e466", func := "perigee/perigeelaw10.TmframeWhole", spec := "tmframeWhole", unfollowed := true, recurses := true, apart := false }
def TmframeWholeSaid : Prop := tmframeWholeRow.holds Try.pinned (OpenSpec.ofChange tmframeWholeSpec)

/-- ITS FALSE NEIGHBOUR: 'it returns false'. Refute it at one input. -/
def tmframeWholeWrong : ChangeSpec := { name := "tmframeWhole", fn := fun _ => fun
  | [d1, d2, d3] => { results := [.lit (.bool false)], args := [d1, d2, d3] }
  | _ => none }
def TmframeWholeWrongFalsely : Prop := tmframeWholeRow.holds Try.pinned (OpenSpec.ofChange tmframeWholeWrong)

/-- 'perigeelaw10.TmframeFills': WHATEVER THE INPUT: true; the input reads as it did. -/
def tmframeFillsSpec : ChangeSpec := { name := "tmframeFills", fn := fun _ => fun
  | [d1, d2] => { results := [.lit (.bool true)], args := [d1, d2] }
  | _ => none }
def tmframeFillsRow : OpenClaim := { program := "ytkhlicfnfiopnaa", sum := "aec9d68355c7898e890e45d51f23dde662c77af35e37b43c0a28cc1985c9e466", func := "perigee/perigeelaw10.TmframeFills", spec := "tmframeFills", unfollowed := true, recurses := true, apart := false }
def TmframeFillsSaid : Prop := tmframeFillsRow.holds Try.pinned (OpenSpec.ofChange tmframeFillsSpec)

/-- ITS FALSE NEIGHBOUR: 'it returns false'. Refute it at one input. -/
def tmframeFillsWrong : ChangeSpec := { name := "tmframeFills", fn := fun _ => fun
  | [d1, d2] => { results := [.lit (.bool false)], args := [d1, d2] }
  | _ => none }
def TmframeFillsWrongFalsely : Prop := tmframeFillsRow.holds Try.pinned (OpenSpec.ofChange tmframeFillsWrong)

/- THE SECOND FORM. 'bulk': how many values and letters a reading holds, each counted each time it is reached (what is shared counts as often as it is met; a slice's spare places count too). A statement '..UptoSaid' is the law's where the arguments, and the package variables that the reading takes, are together of bulk at most 1048576: NARROWER than '..Said'. Prove '..Said' where nothing that the law and all that it calls make is longer than what came in: it says more and counts as full. Else prove '..UptoSaid'. A law counts once. -/
mutual
def uptoBulk {H : Type} : DataW H → Nat
  | .lit (.string bytes) => bytes.length + 1
  | .lit _ => 1
  | .nil => 1
  | .ptr d => uptoBulk d + 1
  | .slice elems spare => uptoBulkAll elems + uptoBulkAll spare + 1
  | .agg parts => uptoBulkAll parts + 1
  | .iface _ d => uptoBulk d + 1
  | .map entries => uptoBulkEntries entries + 1
  | .held _ => 1
def uptoBulkAll {H : Type} : List (DataW H) → Nat
  | [] => 0
  | d :: r => uptoBulk d + uptoBulkAll r
def uptoBulkEntries {H : Type} : List (Lit × DataW H) → Nat
  | [] => 0
  | x :: r => uptoBulkEntry x + uptoBulkEntries r
def uptoBulkEntry {H : Type} : Lit × DataW H → Nat
  | (.string bytes, d) => bytes.length + uptoBulk d + 1
  | (_, d) => uptoBulk d + 1
 end
def uptoSmall : (H : Type) → List (DataW H) → Bool := fun _ ds => decide (uptoBulkAll ds ≤ 1048576)
def OpenSpec.upto (s : _root_.Go.ChangeSpec) : _root_.Go.OpenSpec := { _root_.Go.OpenSpec.ofChange s with cond := some uptoSmall }

/-- 'perigeelaw10.TmframePuts', WHERE WHAT IT READS IS OF BULK AT MOST 1048576: true; the input reads as it did. -/
def tmframePutsUptoRow : OpenClaim := { program := "ytkhlicfnfiopnaa", sum := "aec9d68355c7898e890e45d51f23dde662c77af35e37b43c0a28cc1985c9e466", func := "perigee/perigeelaw10.TmframePuts", spec := "tmframePuts", unfollowed := true, recurses := true, apart := false, narrowed := true }
def TmframePutsUptoSaid : Prop := tmframePutsUptoRow.holds Try.pinned (OpenSpec.upto tmframePutsSpec)

/-- 'perigeelaw10.TmframeGets', WHERE WHAT IT READS IS OF BULK AT MOST 1048576: true; the input reads as it did. -/
def tmframeGetsUptoRow : OpenClaim := { program := "ytkhlicfnfiopnaa", sum := "aec9d68355c7898e890e45d51f23dde662c77af35e37b43c0a28cc1985c9e466", func := "perigee/perigeelaw10.TmframeGets", spec := "tmframeGets", unfollowed := true, recurses := true, apart := false, narrowed := true }
def TmframeGetsUptoSaid : Prop := tmframeGetsUptoRow.holds Try.pinned (OpenSpec.upto tmframeGetsSpec)

/-- 'perigeelaw10.TmframeBack', WHERE WHAT IT READS IS OF BULK AT MOST 1048576: true; the input reads as it did. -/
def tmframeBackUptoRow : OpenClaim := { program := "ytkhlicfnfiopnaa", sum := "aec9d68355c7898e890e45d51f23dde662c77af35e37b43c0a28cc1985c9e466", func := "perigee/perigeelaw10.TmframeBack", spec := "tmframeBack", unfollowed := true, recurses := true, apart := false, narrowed := true }
def TmframeBackUptoSaid : Prop := tmframeBackUptoRow.holds Try.pinned (OpenSpec.upto tmframeBackSpec)

/-- 'perigeelaw10.TmframeFlips', WHERE WHAT IT READS IS OF BULK AT MOST 1048576: true; the input reads as it did. -/
def tmframeFlipsUptoRow : OpenClaim := { program := "ytkhlicfnfiopnaa", sum := "aec9d68355c7898e890e45d51f23dde662c77af35e37b43c0a28cc1985c9e466", func := "perigee/perigeelaw10.TmframeFlips", spec := "tmframeFlips", unfollowed := true, recurses := true, apart := false, narrowed := true }
def TmframeFlipsUptoSaid : Prop := tmframeFlipsUptoRow.holds Try.pinned (OpenSpec.upto tmframeFlipsSpec)

/-- 'perigeelaw10.TmframeWhole', WHERE WHAT IT READS IS OF BULK AT MOST 1048576: true; the input reads as it did. -/
def tmframeWholeUptoRow : OpenClaim := { program := "ytkhlicfnfiopnaa", sum := "aec9d68355c7898e890e45d51f23dde662c77af35e37b43c0a28cc1985c9e466", func := "perigee/perigeelaw10.TmframeWhole", spec := "tmframeWhole", unfollowed := true, recurses := true, apart := false, narrowed := true }
def TmframeWholeUptoSaid : Prop := tmframeWholeUptoRow.holds Try.pinned (OpenSpec.upto tmframeWholeSpec)

/-- 'perigeelaw10.TmframeFills', WHERE WHAT IT READS IS OF BULK AT MOST 1048576: true; the input reads as it did. -/
def tmframeFillsUptoRow : OpenClaim := { program := "ytkhlicfnfiopnaa", sum := "aec9d68355c7898e890e45d51f23dde662c77af35e37b43c0a28cc1985c9e466", func := "perigee/perigeelaw10.TmframeFills", spec := "tmframeFills", unfollowed := true, recurses := true, apart := false, narrowed := true }
def TmframeFillsUptoSaid : Prop := tmframeFillsUptoRow.holds Try.pinned (OpenSpec.upto tmframeFillsSpec)

end Rows
end Go.Proofs.Ytkhlicfnfiopnaa
