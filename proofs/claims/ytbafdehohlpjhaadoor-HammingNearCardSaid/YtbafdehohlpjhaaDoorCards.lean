/-
  DERIVED. GIVEN WITH THE SEED: THE CARDS: each row of YtbafdehohlpjhaaDoorRows.lean that lists a variable, with what it lists TIED to the program's text (the seventh form; the later family's looks); each row that meets fmt, with fmt's text TOLD by the authors' own Lean function (tested against real Go, not proved from fmt's source: count such statements apart). THE CARD IS WHAT COUNTS. Prove the row's statement (the work); the ties are given (YtbafdehohlpjhaaDoorTie.lean); close each card by the builder's one call (the guide's Derived/Test/ToyasCard.lean, 'card_holds'). Laid BY PROGRAM, IN A SANDBOX (cutbox-door.mjs). By AI agents, Wed Nov 11 2026. No macro, syntax, notation, axiom, sorry.
-/
import Derived.Test.YtbafdehohlpjhaaDoorRows
import GoSem.ClaimSeven
namespace Go.Proofs.YtbafdehohlpjhaaDoor
namespace Rows

/-- THE TIED CARD OF 'perigeelaw29.HammingCodes'. -/
def hammingCodesCard : Claim7 := { stood := { row := hammingCodesRow, standIns := [], harness := (true, "ecff8db6399d406e06fce5910eef300673b92cf762b41ef548e6d75e1e2e805a"), looks := false }, kinds := [], alts := [], laidByText := true, laidKinds := [.data], laidTests := true, laidLooks := .later }
def HammingCodesCardSaid : Prop := Claim7.holds Tryd.pinned (.plain (OpenSpec.ofChange hammingCodesSpec)) hammingCodesCard

/-- THE TIED CARD OF 'perigeelaw29.HammingClean'. -/
def hammingCleanCard : Claim7 := { stood := { row := hammingCleanRow, standIns := [], harness := (true, "ecff8db6399d406e06fce5910eef300673b92cf762b41ef548e6d75e1e2e805a"), looks := false }, kinds := [], alts := [], laidByText := true, laidKinds := [.data], laidTests := true, laidLooks := .later }
def HammingCleanCardSaid : Prop := Claim7.holds Tryd.pinned (.plain (OpenSpec.ofChange hammingCleanSpec)) hammingCleanCard

/-- THE TIED CARD OF 'perigeelaw29.HammingOne'. -/
def hammingOneCard : Claim7 := { stood := { row := hammingOneRow, standIns := [], harness := (true, "ecff8db6399d406e06fce5910eef300673b92cf762b41ef548e6d75e1e2e805a"), looks := false }, kinds := [], alts := [], laidByText := true, laidKinds := [.data], laidTests := true, laidLooks := .later }
def HammingOneCardSaid : Prop := Claim7.holds Tryd.pinned (.plain (OpenSpec.ofChange hammingOneSpec)) hammingOneCard

/-- THE TIED CARD OF 'perigeelaw29.HammingTwo'. -/
def hammingTwoCard : Claim7 := { stood := { row := hammingTwoRow, standIns := [], harness := (true, "ecff8db6399d406e06fce5910eef300673b92cf762b41ef548e6d75e1e2e805a"), looks := false }, kinds := [], alts := [], laidByText := true, laidKinds := [.data], laidTests := true, laidLooks := .later }
def HammingTwoCardSaid : Prop := Claim7.holds Tryd.pinned (.plain (OpenSpec.ofChange hammingTwoSpec)) hammingTwoCard

/-- THE TIED CARD OF 'perigeelaw29.HammingDistance'. -/
def hammingDistanceCard : Claim7 := { stood := { row := hammingDistanceRow, standIns := [], harness := (true, "ecff8db6399d406e06fce5910eef300673b92cf762b41ef548e6d75e1e2e805a"), looks := false }, kinds := [], alts := [], laidByText := true, laidKinds := [.data], laidTests := true, laidLooks := .later }
def HammingDistanceCardSaid : Prop := Claim7.holds Tryd.pinned (.plain (OpenSpec.ofChange hammingDistanceSpec)) hammingDistanceCard

/-- THE TIED CARD OF 'perigeelaw29.HammingNear'. -/
def hammingNearCard : Claim7 := { stood := { row := hammingNearRow, standIns := [], harness := (true, "ecff8db6399d406e06fce5910eef300673b92cf762b41ef548e6d75e1e2e805a"), looks := false }, kinds := [], alts := [], laidByText := true, laidKinds := [.data], laidTests := true, laidLooks := .later }
def HammingNearCardSaid : Prop := Claim7.holds Tryd.pinned (.plain (OpenSpec.ofChange hammingNearSpec)) hammingNearCard

/-- THE SECOND FORM's CARD OF 'perigeelaw29.HammingCodes'. -/
def hammingCodesUptoCard : Claim7 := { stood := { row := hammingCodesUptoRow, standIns := [], harness := (true, "ecff8db6399d406e06fce5910eef300673b92cf762b41ef548e6d75e1e2e805a"), looks := false }, kinds := [], alts := [], laidByText := true, laidKinds := [.data], laidTests := true, laidLooks := .later }
def HammingCodesUptoCardSaid : Prop := Claim7.holds Tryd.pinned (.plain (OpenSpec.upto hammingCodesSpec)) hammingCodesUptoCard

/-- THE SECOND FORM's CARD OF 'perigeelaw29.HammingClean'. -/
def hammingCleanUptoCard : Claim7 := { stood := { row := hammingCleanUptoRow, standIns := [], harness := (true, "ecff8db6399d406e06fce5910eef300673b92cf762b41ef548e6d75e1e2e805a"), looks := false }, kinds := [], alts := [], laidByText := true, laidKinds := [.data], laidTests := true, laidLooks := .later }
def HammingCleanUptoCardSaid : Prop := Claim7.holds Tryd.pinned (.plain (OpenSpec.upto hammingCleanSpec)) hammingCleanUptoCard

/-- THE SECOND FORM's CARD OF 'perigeelaw29.HammingOne'. -/
def hammingOneUptoCard : Claim7 := { stood := { row := hammingOneUptoRow, standIns := [], harness := (true, "ecff8db6399d406e06fce5910eef300673b92cf762b41ef548e6d75e1e2e805a"), looks := false }, kinds := [], alts := [], laidByText := true, laidKinds := [.data], laidTests := true, laidLooks := .later }
def HammingOneUptoCardSaid : Prop := Claim7.holds Tryd.pinned (.plain (OpenSpec.upto hammingOneSpec)) hammingOneUptoCard

/-- THE SECOND FORM's CARD OF 'perigeelaw29.HammingTwo'. -/
def hammingTwoUptoCard : Claim7 := { stood := { row := hammingTwoUptoRow, standIns := [], harness := (true, "ecff8db6399d406e06fce5910eef300673b92cf762b41ef548e6d75e1e2e805a"), looks := false }, kinds := [], alts := [], laidByText := true, laidKinds := [.data], laidTests := true, laidLooks := .later }
def HammingTwoUptoCardSaid : Prop := Claim7.holds Tryd.pinned (.plain (OpenSpec.upto hammingTwoSpec)) hammingTwoUptoCard

/-- THE SECOND FORM's CARD OF 'perigeelaw29.HammingDistance'. -/
def hammingDistanceUptoCard : Claim7 := { stood := { row := hammingDistanceUptoRow, standIns := [], harness := (true, "ecff8db6399d406e06fce5910eef300673b92cf762b41ef548e6d75e1e2e805a"), looks := false }, kinds := [], alts := [], laidByText := true, laidKinds := [.data], laidTests := true, laidLooks := .later }
def HammingDistanceUptoCardSaid : Prop := Claim7.holds Tryd.pinned (.plain (OpenSpec.upto hammingDistanceSpec)) hammingDistanceUptoCard

/-- THE SECOND FORM's CARD OF 'perigeelaw29.HammingNear'. -/
def hammingNearUptoCard : Claim7 := { stood := { row := hammingNearUptoRow, standIns := [], harness := (true, "ecff8db6399d406e06fce5910eef300673b92cf762b41ef548e6d75e1e2e805a"), looks := false }, kinds := [], alts := [], laidByText := true, laidKinds := [.data], laidTests := true, laidLooks := .later }
def HammingNearUptoCardSaid : Prop := Claim7.holds Tryd.pinned (.plain (OpenSpec.upto hammingNearSpec)) hammingNearUptoCard
end Rows
end Go.Proofs.YtbafdehohlpjhaaDoor
