/-
  DERIVED. GIVEN WITH THE SEED: THE CARDS: each row of YtoeepogoogcbiaaDoorRows.lean that lists a variable, with what it lists TIED to the program's text (the seventh form; the later family's looks); each row that meets fmt, with fmt's text TOLD by the authors' own Lean function (tested against real Go, not proved from fmt's source: count such statements apart). THE CARD IS WHAT COUNTS. Prove the row's statement (the work); the ties are given (YtoeepogoogcbiaaDoorTie.lean); close each card by the builder's one call (the guide's Derived/Test/ToyasCard.lean, 'card_holds'). Laid BY PROGRAM, IN A SANDBOX (cutbox-door.mjs). By AI agents, Wed Nov 11 2026. No macro, syntax, notation, axiom, sorry.
-/
import Derived.Test.YtoeepogoogcbiaaDoorRows
import GoSem.ClaimSeven
namespace Go.Proofs.YtoeepogoogcbiaaDoor
namespace Rows

/-- THE TIED CARD OF 'perigeelaw13.CltuBlocks'. -/
def cltuBlocksCard : Claim7 := { stood := { row := cltuBlocksRow, standIns := [], harness := (true, "088781843046f027b7be892c5b8df0441d8f8d24e247566d6ec0f0ec2db8b660"), looks := false }, kinds := [], alts := [], laidByText := true, laidKinds := [.widerDeep, .data], laidTests := true, laidLooks := .later }
def CltuBlocksCardSaid : Prop := Claim7.holds Tryd.pinned (.plain (OpenSpec.ofChange cltuBlocksSpec)) cltuBlocksCard

/-- THE TIED CARD OF 'perigeelaw13.CltuPuts'. -/
def cltuPutsCard : Claim7 := { stood := { row := cltuPutsRow, standIns := [], harness := (true, "088781843046f027b7be892c5b8df0441d8f8d24e247566d6ec0f0ec2db8b660"), looks := false }, kinds := [], alts := [], laidByText := true, laidKinds := [.widerDeep, .data], laidTests := true, laidLooks := .later }
def CltuPutsCardSaid : Prop := Claim7.holds Tryd.pinned (.plain (OpenSpec.ofChange cltuPutsSpec)) cltuPutsCard

/-- THE TIED CARD OF 'perigeelaw13.CltuFixes'. -/
def cltuFixesCard : Claim7 := { stood := { row := cltuFixesRow, standIns := [], harness := (true, "088781843046f027b7be892c5b8df0441d8f8d24e247566d6ec0f0ec2db8b660"), looks := false }, kinds := [], alts := [], laidByText := true, laidKinds := [.widerDeep, .data], laidTests := true, laidLooks := .later }
def CltuFixesCardSaid : Prop := Claim7.holds Tryd.pinned (.plain (OpenSpec.ofChange cltuFixesSpec)) cltuFixesCard

/-- THE TIED CARD OF 'perigeelaw13.CltuUnits'. -/
def cltuUnitsCard : Claim7 := { stood := { row := cltuUnitsRow, standIns := [], harness := (true, "088781843046f027b7be892c5b8df0441d8f8d24e247566d6ec0f0ec2db8b660"), looks := false }, kinds := [], alts := [], laidByText := true, laidKinds := [.widerDeep, .data], laidTests := true, laidLooks := .later }
def CltuUnitsCardSaid : Prop := Claim7.holds Tryd.pinned (.plain (OpenSpec.ofChange cltuUnitsSpec)) cltuUnitsCard

/-- THE TIED CARD OF 'perigeelaw13.CltuPortions'. -/
def cltuPortionsCard : Claim7 := { stood := { row := cltuPortionsRow, standIns := [], harness := (true, "088781843046f027b7be892c5b8df0441d8f8d24e247566d6ec0f0ec2db8b660"), looks := false }, kinds := [], alts := [], laidByText := true, laidKinds := [.widerDeep, .data], laidTests := true, laidLooks := .later }
def CltuPortionsCardSaid : Prop := Claim7.holds Tryd.pinned (.plain (OpenSpec.ofChange cltuPortionsSpec)) cltuPortionsCard

/-- THE TIED CARD OF 'perigeelaw13.CltuParses'. -/
def cltuParsesCard : Claim7 := { stood := { row := cltuParsesRow, standIns := [], harness := (true, "088781843046f027b7be892c5b8df0441d8f8d24e247566d6ec0f0ec2db8b660"), looks := false }, kinds := [], alts := [], laidByText := true, laidKinds := [.widerDeep, .data], laidTests := true, laidLooks := .later }
def CltuParsesCardSaid : Prop := Claim7.holds Tryd.pinned (.plain (OpenSpec.ofChange cltuParsesSpec)) cltuParsesCard

/-- THE SECOND FORM's CARD OF 'perigeelaw13.CltuBlocks'. -/
def cltuBlocksUptoCard : Claim7 := { stood := { row := cltuBlocksUptoRow, standIns := [], harness := (true, "088781843046f027b7be892c5b8df0441d8f8d24e247566d6ec0f0ec2db8b660"), looks := false }, kinds := [], alts := [], laidByText := true, laidKinds := [.widerDeep, .data], laidTests := true, laidLooks := .later }
def CltuBlocksUptoCardSaid : Prop := Claim7.holds Tryd.pinned (.plain (OpenSpec.upto cltuBlocksSpec)) cltuBlocksUptoCard

/-- THE SECOND FORM's CARD OF 'perigeelaw13.CltuPuts'. -/
def cltuPutsUptoCard : Claim7 := { stood := { row := cltuPutsUptoRow, standIns := [], harness := (true, "088781843046f027b7be892c5b8df0441d8f8d24e247566d6ec0f0ec2db8b660"), looks := false }, kinds := [], alts := [], laidByText := true, laidKinds := [.widerDeep, .data], laidTests := true, laidLooks := .later }
def CltuPutsUptoCardSaid : Prop := Claim7.holds Tryd.pinned (.plain (OpenSpec.upto cltuPutsSpec)) cltuPutsUptoCard

/-- THE SECOND FORM's CARD OF 'perigeelaw13.CltuFixes'. -/
def cltuFixesUptoCard : Claim7 := { stood := { row := cltuFixesUptoRow, standIns := [], harness := (true, "088781843046f027b7be892c5b8df0441d8f8d24e247566d6ec0f0ec2db8b660"), looks := false }, kinds := [], alts := [], laidByText := true, laidKinds := [.widerDeep, .data], laidTests := true, laidLooks := .later }
def CltuFixesUptoCardSaid : Prop := Claim7.holds Tryd.pinned (.plain (OpenSpec.upto cltuFixesSpec)) cltuFixesUptoCard

/-- THE SECOND FORM's CARD OF 'perigeelaw13.CltuUnits'. -/
def cltuUnitsUptoCard : Claim7 := { stood := { row := cltuUnitsUptoRow, standIns := [], harness := (true, "088781843046f027b7be892c5b8df0441d8f8d24e247566d6ec0f0ec2db8b660"), looks := false }, kinds := [], alts := [], laidByText := true, laidKinds := [.widerDeep, .data], laidTests := true, laidLooks := .later }
def CltuUnitsUptoCardSaid : Prop := Claim7.holds Tryd.pinned (.plain (OpenSpec.upto cltuUnitsSpec)) cltuUnitsUptoCard

/-- THE SECOND FORM's CARD OF 'perigeelaw13.CltuPortions'. -/
def cltuPortionsUptoCard : Claim7 := { stood := { row := cltuPortionsUptoRow, standIns := [], harness := (true, "088781843046f027b7be892c5b8df0441d8f8d24e247566d6ec0f0ec2db8b660"), looks := false }, kinds := [], alts := [], laidByText := true, laidKinds := [.widerDeep, .data], laidTests := true, laidLooks := .later }
def CltuPortionsUptoCardSaid : Prop := Claim7.holds Tryd.pinned (.plain (OpenSpec.upto cltuPortionsSpec)) cltuPortionsUptoCard

/-- THE SECOND FORM's CARD OF 'perigeelaw13.CltuParses'. -/
def cltuParsesUptoCard : Claim7 := { stood := { row := cltuParsesUptoRow, standIns := [], harness := (true, "088781843046f027b7be892c5b8df0441d8f8d24e247566d6ec0f0ec2db8b660"), looks := false }, kinds := [], alts := [], laidByText := true, laidKinds := [.widerDeep, .data], laidTests := true, laidLooks := .later }
def CltuParsesUptoCardSaid : Prop := Claim7.holds Tryd.pinned (.plain (OpenSpec.upto cltuParsesSpec)) cltuParsesUptoCard
end Rows
end Go.Proofs.YtoeepogoogcbiaaDoor
