/-
  DERIVED. GIVEN WITH THE SEED: THE CARDS: each row of YtecocfcaeenaoaaDoorRows.lean that lists a variable, with what it lists TIED to the program's text (the seventh form; the later family's looks); each row that meets fmt, with fmt's text TOLD by the authors' own Lean function (tested against real Go, not proved from fmt's source: count such statements apart). THE CARD IS WHAT COUNTS. Prove the row's statement (the work); the ties are given (YtecocfcaeenaoaaDoorTie.lean); close each card by the builder's one call (the guide's Derived/Test/ToyasCard.lean, 'card_holds'). Laid BY PROGRAM, IN A SANDBOX (cutbox-door.mjs). By AI agents, Wed Nov 11 2026. No macro, syntax, notation, axiom, sorry.
-/
import Derived.Test.YtecocfcaeenaoaaDoorRows
import GoSem.ClaimSeven
namespace Go.Proofs.YtecocfcaeenaoaaDoor
namespace Rows

/-- THE TIED CARD OF 'perigeelaw31.PatchesVersions'. -/
def patchesVersionsCard : Claim7 := { stood := { row := patchesVersionsRow, standIns := [], harness := (true, "4bf3f891f46db68618e5436a6b25002892685fcd9a709dc3c83d7e7cbb6991ed"), looks := true }, kinds := [], alts := [], laidByText := true, laidKinds := [.data], laidTests := true, laidLooks := .later }
def PatchesVersionsCardSaid : Prop := Claim7.holds Tryd.pinned (.plain (OpenSpec.ofChange patchesVersionsSpec)) patchesVersionsCard

/-- THE TIED CARD OF 'perigeelaw31.PatchesParts'. -/
def patchesPartsCard : Claim7 := { stood := { row := patchesPartsRow, standIns := [], harness := (true, "4bf3f891f46db68618e5436a6b25002892685fcd9a709dc3c83d7e7cbb6991ed"), looks := true }, kinds := [], alts := [], laidByText := true, laidKinds := [.data], laidTests := true, laidLooks := .later }
def PatchesPartsCardSaid : Prop := Claim7.holds Tryd.pinned (.plain (OpenSpec.ofChange patchesPartsSpec)) patchesPartsCard

/-- THE TIED CARD OF 'perigeelaw31.PatchesUpsets'. -/
def patchesUpsetsCard : Claim7 := { stood := { row := patchesUpsetsRow, standIns := [], harness := (true, "4bf3f891f46db68618e5436a6b25002892685fcd9a709dc3c83d7e7cbb6991ed"), looks := true }, kinds := [], alts := [], laidByText := true, laidKinds := [.data], laidTests := true, laidLooks := .later }
def PatchesUpsetsCardSaid : Prop := Claim7.holds Tryd.pinned (.plain (OpenSpec.ofChange patchesUpsetsSpec)) patchesUpsetsCard

/-- THE TIED CARD OF 'perigeelaw31.PatchesLost'. -/
def patchesLostCard : Claim7 := { stood := { row := patchesLostRow, standIns := [], harness := (true, "4bf3f891f46db68618e5436a6b25002892685fcd9a709dc3c83d7e7cbb6991ed"), looks := true }, kinds := [], alts := [], laidByText := true, laidKinds := [.data], laidTests := true, laidLooks := .later }
def PatchesLostCardSaid : Prop := Claim7.holds Tryd.pinned (.plain (OpenSpec.ofChange patchesLostSpec)) patchesLostCard

/-- THE TIED CARD OF 'perigeelaw31.PatchesNone'. -/
def patchesNoneCard : Claim7 := { stood := { row := patchesNoneRow, standIns := [], harness := (true, "4bf3f891f46db68618e5436a6b25002892685fcd9a709dc3c83d7e7cbb6991ed"), looks := true }, kinds := [], alts := [], laidByText := true, laidKinds := [.data], laidTests := true, laidLooks := .later }
def PatchesNoneCardSaid : Prop := Claim7.holds Tryd.pinned (.plain (OpenSpec.ofChange patchesNoneSpec)) patchesNoneCard

/-- THE TIED CARD OF 'perigeelaw31.PatchesWhole'. -/
def patchesWholeCard : Claim7 := { stood := { row := patchesWholeRow, standIns := [], harness := (true, "4bf3f891f46db68618e5436a6b25002892685fcd9a709dc3c83d7e7cbb6991ed"), looks := true }, kinds := [], alts := [], laidByText := true, laidKinds := [.data], laidTests := true, laidLooks := .later }
def PatchesWholeCardSaid : Prop := Claim7.holds Tryd.pinned (.plain (OpenSpec.ofChange patchesWholeSpec)) patchesWholeCard

/-- THE SECOND FORM's CARD OF 'perigeelaw31.PatchesVersions'. -/
def patchesVersionsUptoCard : Claim7 := { stood := { row := patchesVersionsUptoRow, standIns := [], harness := (true, "4bf3f891f46db68618e5436a6b25002892685fcd9a709dc3c83d7e7cbb6991ed"), looks := true }, kinds := [], alts := [], laidByText := true, laidKinds := [.data], laidTests := true, laidLooks := .later }
def PatchesVersionsUptoCardSaid : Prop := Claim7.holds Tryd.pinned (.plain (OpenSpec.upto patchesVersionsSpec)) patchesVersionsUptoCard

/-- THE SECOND FORM's CARD OF 'perigeelaw31.PatchesParts'. -/
def patchesPartsUptoCard : Claim7 := { stood := { row := patchesPartsUptoRow, standIns := [], harness := (true, "4bf3f891f46db68618e5436a6b25002892685fcd9a709dc3c83d7e7cbb6991ed"), looks := true }, kinds := [], alts := [], laidByText := true, laidKinds := [.data], laidTests := true, laidLooks := .later }
def PatchesPartsUptoCardSaid : Prop := Claim7.holds Tryd.pinned (.plain (OpenSpec.upto patchesPartsSpec)) patchesPartsUptoCard

/-- THE SECOND FORM's CARD OF 'perigeelaw31.PatchesUpsets'. -/
def patchesUpsetsUptoCard : Claim7 := { stood := { row := patchesUpsetsUptoRow, standIns := [], harness := (true, "4bf3f891f46db68618e5436a6b25002892685fcd9a709dc3c83d7e7cbb6991ed"), looks := true }, kinds := [], alts := [], laidByText := true, laidKinds := [.data], laidTests := true, laidLooks := .later }
def PatchesUpsetsUptoCardSaid : Prop := Claim7.holds Tryd.pinned (.plain (OpenSpec.upto patchesUpsetsSpec)) patchesUpsetsUptoCard

/-- THE SECOND FORM's CARD OF 'perigeelaw31.PatchesLost'. -/
def patchesLostUptoCard : Claim7 := { stood := { row := patchesLostUptoRow, standIns := [], harness := (true, "4bf3f891f46db68618e5436a6b25002892685fcd9a709dc3c83d7e7cbb6991ed"), looks := true }, kinds := [], alts := [], laidByText := true, laidKinds := [.data], laidTests := true, laidLooks := .later }
def PatchesLostUptoCardSaid : Prop := Claim7.holds Tryd.pinned (.plain (OpenSpec.upto patchesLostSpec)) patchesLostUptoCard

/-- THE SECOND FORM's CARD OF 'perigeelaw31.PatchesNone'. -/
def patchesNoneUptoCard : Claim7 := { stood := { row := patchesNoneUptoRow, standIns := [], harness := (true, "4bf3f891f46db68618e5436a6b25002892685fcd9a709dc3c83d7e7cbb6991ed"), looks := true }, kinds := [], alts := [], laidByText := true, laidKinds := [.data], laidTests := true, laidLooks := .later }
def PatchesNoneUptoCardSaid : Prop := Claim7.holds Tryd.pinned (.plain (OpenSpec.upto patchesNoneSpec)) patchesNoneUptoCard

/-- THE SECOND FORM's CARD OF 'perigeelaw31.PatchesWhole'. -/
def patchesWholeUptoCard : Claim7 := { stood := { row := patchesWholeUptoRow, standIns := [], harness := (true, "4bf3f891f46db68618e5436a6b25002892685fcd9a709dc3c83d7e7cbb6991ed"), looks := true }, kinds := [], alts := [], laidByText := true, laidKinds := [.data], laidTests := true, laidLooks := .later }
def PatchesWholeUptoCardSaid : Prop := Claim7.holds Tryd.pinned (.plain (OpenSpec.upto patchesWholeSpec)) patchesWholeUptoCard
end Rows
end Go.Proofs.YtecocfcaeenaoaaDoor
