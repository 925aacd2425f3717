/-
  DERIVED. GIVEN WITH THE SEED: THE CARDS: each row of YtjbagcmcpmhfnaaDoorRows.lean that lists a variable, with what it lists TIED to the program's text (the seventh form; the later family's looks); each row that meets fmt, with fmt's text TOLD by the authors' own Lean function (tested against real Go, not proved from fmt's source: count such statements apart). THE CARD IS WHAT COUNTS. Prove the row's statement (the work); the ties are given (YtjbagcmcpmhfnaaDoorTie.lean); close each card by the builder's one call (the guide's Derived/Test/ToyasCard.lean, 'card_holds'). Laid BY PROGRAM, IN A SANDBOX (cutbox-door.mjs). By AI agents, Wed Nov 11 2026. No macro, syntax, notation, axiom, sorry.
-/
import Derived.Test.YtjbagcmcpmhfnaaDoorRows
import GoSem.ClaimSeven
namespace Go.Proofs.YtjbagcmcpmhfnaaDoor
namespace Rows

/-- THE TIED CARD OF 'perigeelaw30.MemoryCodes'. -/
def memoryCodesCard : Claim7 := { stood := { row := memoryCodesRow, standIns := [], harness := (true, "0996b1b347a79bc5f56bb1db31072faf24058b65bc7b32f8a874c93a608c57a7"), looks := true }, kinds := [], alts := [], laidByText := true, laidKinds := [.data], laidTests := true, laidLooks := .later }
def MemoryCodesCardSaid : Prop := Claim7.holds Tryd.pinned (.plain (OpenSpec.ofChange memoryCodesSpec)) memoryCodesCard

/-- THE TIED CARD OF 'perigeelaw30.MemoryUpsets'. -/
def memoryUpsetsCard : Claim7 := { stood := { row := memoryUpsetsRow, standIns := [], harness := (true, "0996b1b347a79bc5f56bb1db31072faf24058b65bc7b32f8a874c93a608c57a7"), looks := true }, kinds := [], alts := [], laidByText := true, laidKinds := [.data], laidTests := true, laidLooks := .later }
def MemoryUpsetsCardSaid : Prop := Claim7.holds Tryd.pinned (.plain (OpenSpec.ofChange memoryUpsetsSpec)) memoryUpsetsCard

/-- THE TIED CARD OF 'perigeelaw30.MemoryFuse'. -/
def memoryFuseCard : Claim7 := { stood := { row := memoryFuseRow, standIns := [], harness := (true, "0996b1b347a79bc5f56bb1db31072faf24058b65bc7b32f8a874c93a608c57a7"), looks := true }, kinds := [], alts := [], laidByText := true, laidKinds := [.data], laidTests := true, laidLooks := .later }
def MemoryFuseCardSaid : Prop := Claim7.holds Tryd.pinned (.plain (OpenSpec.ofChange memoryFuseSpec)) memoryFuseCard

/-- THE TIED CARD OF 'perigeelaw30.MemoryBytes'. -/
def memoryBytesCard : Claim7 := { stood := { row := memoryBytesRow, standIns := [], harness := (true, "0996b1b347a79bc5f56bb1db31072faf24058b65bc7b32f8a874c93a608c57a7"), looks := true }, kinds := [], alts := [], laidByText := true, laidKinds := [.data], laidTests := true, laidLooks := .later }
def MemoryBytesCardSaid : Prop := Claim7.holds Tryd.pinned (.plain (OpenSpec.ofChange memoryBytesSpec)) memoryBytesCard

/-- THE TIED CARD OF 'perigeelaw30.MemoryDouble'. -/
def memoryDoubleCard : Claim7 := { stood := { row := memoryDoubleRow, standIns := [], harness := (true, "0996b1b347a79bc5f56bb1db31072faf24058b65bc7b32f8a874c93a608c57a7"), looks := true }, kinds := [], alts := [], laidByText := true, laidKinds := [.data], laidTests := true, laidLooks := .later }
def MemoryDoubleCardSaid : Prop := Claim7.holds Tryd.pinned (.plain (OpenSpec.ofChange memoryDoubleSpec)) memoryDoubleCard

/-- THE TIED CARD OF 'perigeelaw30.MemoryPlays'. -/
def memoryPlaysCard : Claim7 := { stood := { row := memoryPlaysRow, standIns := [], harness := (true, "0996b1b347a79bc5f56bb1db31072faf24058b65bc7b32f8a874c93a608c57a7"), looks := true }, kinds := [], alts := [], laidByText := true, laidKinds := [.data], laidTests := true, laidLooks := .later }
def MemoryPlaysCardSaid : Prop := Claim7.holds Tryd.pinned (.plain (OpenSpec.ofChange memoryPlaysSpec)) memoryPlaysCard

/-- THE TIED CARD OF 'perigeelaw30.MemoryNone'. -/
def memoryNoneCard : Claim7 := { stood := { row := memoryNoneRow, standIns := [], harness := (true, "0996b1b347a79bc5f56bb1db31072faf24058b65bc7b32f8a874c93a608c57a7"), looks := true }, kinds := [], alts := [], laidByText := true, laidKinds := [.data], laidTests := true, laidLooks := .later }
def MemoryNoneCardSaid : Prop := Claim7.holds Tryd.pinned (.plain (OpenSpec.ofChange memoryNoneSpec)) memoryNoneCard

/-- THE TIED CARD OF 'perigeelaw31.PatchesVersions'. -/
def patchesVersionsCard : Claim7 := { stood := { row := patchesVersionsRow, standIns := [], harness := (true, "0996b1b347a79bc5f56bb1db31072faf24058b65bc7b32f8a874c93a608c57a7"), looks := true }, kinds := [], alts := [], laidByText := true, laidKinds := [.data], laidTests := true, laidLooks := .later }
def PatchesVersionsCardSaid : Prop := Claim7.holds Tryd.pinned (.plain (OpenSpec.ofChange patchesVersionsSpec)) patchesVersionsCard

/-- THE TIED CARD OF 'perigeelaw31.PatchesParts'. -/
def patchesPartsCard : Claim7 := { stood := { row := patchesPartsRow, standIns := [], harness := (true, "0996b1b347a79bc5f56bb1db31072faf24058b65bc7b32f8a874c93a608c57a7"), looks := true }, kinds := [], alts := [], laidByText := true, laidKinds := [.data], laidTests := true, laidLooks := .later }
def PatchesPartsCardSaid : Prop := Claim7.holds Tryd.pinned (.plain (OpenSpec.ofChange patchesPartsSpec)) patchesPartsCard

/-- THE TIED CARD OF 'perigeelaw31.PatchesUpsets'. -/
def patchesUpsetsCard : Claim7 := { stood := { row := patchesUpsetsRow, standIns := [], harness := (true, "0996b1b347a79bc5f56bb1db31072faf24058b65bc7b32f8a874c93a608c57a7"), looks := true }, kinds := [], alts := [], laidByText := true, laidKinds := [.data], laidTests := true, laidLooks := .later }
def PatchesUpsetsCardSaid : Prop := Claim7.holds Tryd.pinned (.plain (OpenSpec.ofChange patchesUpsetsSpec)) patchesUpsetsCard

/-- THE TIED CARD OF 'perigeelaw31.PatchesLost'. -/
def patchesLostCard : Claim7 := { stood := { row := patchesLostRow, standIns := [], harness := (true, "0996b1b347a79bc5f56bb1db31072faf24058b65bc7b32f8a874c93a608c57a7"), looks := true }, kinds := [], alts := [], laidByText := true, laidKinds := [.data], laidTests := true, laidLooks := .later }
def PatchesLostCardSaid : Prop := Claim7.holds Tryd.pinned (.plain (OpenSpec.ofChange patchesLostSpec)) patchesLostCard

/-- THE TIED CARD OF 'perigeelaw31.PatchesNone'. -/
def patchesNoneCard : Claim7 := { stood := { row := patchesNoneRow, standIns := [], harness := (true, "0996b1b347a79bc5f56bb1db31072faf24058b65bc7b32f8a874c93a608c57a7"), looks := true }, kinds := [], alts := [], laidByText := true, laidKinds := [.data], laidTests := true, laidLooks := .later }
def PatchesNoneCardSaid : Prop := Claim7.holds Tryd.pinned (.plain (OpenSpec.ofChange patchesNoneSpec)) patchesNoneCard

/-- THE TIED CARD OF 'perigeelaw31.PatchesWhole'. -/
def patchesWholeCard : Claim7 := { stood := { row := patchesWholeRow, standIns := [], harness := (true, "0996b1b347a79bc5f56bb1db31072faf24058b65bc7b32f8a874c93a608c57a7"), looks := true }, kinds := [], alts := [], laidByText := true, laidKinds := [.data], laidTests := true, laidLooks := .later }
def PatchesWholeCardSaid : Prop := Claim7.holds Tryd.pinned (.plain (OpenSpec.ofChange patchesWholeSpec)) patchesWholeCard

/-- THE TIED CARD OF 'perigeelaw32.TablesCodes'. -/
def tablesCodesCard : Claim7 := { stood := { row := tablesCodesRow, standIns := [], harness := (true, "0996b1b347a79bc5f56bb1db31072faf24058b65bc7b32f8a874c93a608c57a7"), looks := true }, kinds := [], alts := [], laidByText := true, laidKinds := [.data], laidTests := true, laidLooks := .later }
def TablesCodesCardSaid : Prop := Claim7.holds Tryd.pinned (.plain (OpenSpec.ofChange tablesCodesSpec)) tablesCodesCard

/-- THE TIED CARD OF 'perigeelaw32.TablesSets'. -/
def tablesSetsCard : Claim7 := { stood := { row := tablesSetsRow, standIns := [], harness := (true, "0996b1b347a79bc5f56bb1db31072faf24058b65bc7b32f8a874c93a608c57a7"), looks := true }, kinds := [], alts := [], laidByText := true, laidKinds := [.data], laidTests := true, laidLooks := .later }
def TablesSetsCardSaid : Prop := Claim7.holds Tryd.pinned (.plain (OpenSpec.ofChange tablesSetsSpec)) tablesSetsCard

/-- THE TIED CARD OF 'perigeelaw32.TablesNone'. -/
def tablesNoneCard : Claim7 := { stood := { row := tablesNoneRow, standIns := [], harness := (true, "0996b1b347a79bc5f56bb1db31072faf24058b65bc7b32f8a874c93a608c57a7"), looks := true }, kinds := [], alts := [], laidByText := true, laidKinds := [.data], laidTests := true, laidLooks := .later }
def TablesNoneCardSaid : Prop := Claim7.holds Tryd.pinned (.plain (OpenSpec.ofChange tablesNoneSpec)) tablesNoneCard

/-- THE TIED CARD OF 'perigeelaw32.TablesUpsets'. -/
def tablesUpsetsCard : Claim7 := { stood := { row := tablesUpsetsRow, standIns := [], harness := (true, "0996b1b347a79bc5f56bb1db31072faf24058b65bc7b32f8a874c93a608c57a7"), looks := true }, kinds := [], alts := [], laidByText := true, laidKinds := [.data], laidTests := true, laidLooks := .later }
def TablesUpsetsCardSaid : Prop := Claim7.holds Tryd.pinned (.plain (OpenSpec.ofChange tablesUpsetsSpec)) tablesUpsetsCard

/-- THE TIED CARD OF 'perigeelaw32.TablesWhole'. -/
def tablesWholeCard : Claim7 := { stood := { row := tablesWholeRow, standIns := [], harness := (true, "0996b1b347a79bc5f56bb1db31072faf24058b65bc7b32f8a874c93a608c57a7"), looks := true }, kinds := [], alts := [], laidByText := true, laidKinds := [.data], laidTests := true, laidLooks := .later }
def TablesWholeCardSaid : Prop := Claim7.holds Tryd.pinned (.plain (OpenSpec.ofChange tablesWholeSpec)) tablesWholeCard

/-- THE SECOND FORM's CARD OF 'perigeelaw30.MemoryCodes'. -/
def memoryCodesUptoCard : Claim7 := { stood := { row := memoryCodesUptoRow, standIns := [], harness := (true, "0996b1b347a79bc5f56bb1db31072faf24058b65bc7b32f8a874c93a608c57a7"), looks := true }, kinds := [], alts := [], laidByText := true, laidKinds := [.data], laidTests := true, laidLooks := .later }
def MemoryCodesUptoCardSaid : Prop := Claim7.holds Tryd.pinned (.plain (OpenSpec.upto memoryCodesSpec)) memoryCodesUptoCard

/-- THE SECOND FORM's CARD OF 'perigeelaw30.MemoryUpsets'. -/
def memoryUpsetsUptoCard : Claim7 := { stood := { row := memoryUpsetsUptoRow, standIns := [], harness := (true, "0996b1b347a79bc5f56bb1db31072faf24058b65bc7b32f8a874c93a608c57a7"), looks := true }, kinds := [], alts := [], laidByText := true, laidKinds := [.data], laidTests := true, laidLooks := .later }
def MemoryUpsetsUptoCardSaid : Prop := Claim7.holds Tryd.pinned (.plain (OpenSpec.upto memoryUpsetsSpec)) memoryUpsetsUptoCard

/-- THE SECOND FORM's CARD OF 'perigeelaw30.MemoryFuse'. -/
def memoryFuseUptoCard : Claim7 := { stood := { row := memoryFuseUptoRow, standIns := [], harness := (true, "0996b1b347a79bc5f56bb1db31072faf24058b65bc7b32f8a874c93a608c57a7"), looks := true }, kinds := [], alts := [], laidByText := true, laidKinds := [.data], laidTests := true, laidLooks := .later }
def MemoryFuseUptoCardSaid : Prop := Claim7.holds Tryd.pinned (.plain (OpenSpec.upto memoryFuseSpec)) memoryFuseUptoCard

/-- THE SECOND FORM's CARD OF 'perigeelaw30.MemoryBytes'. -/
def memoryBytesUptoCard : Claim7 := { stood := { row := memoryBytesUptoRow, standIns := [], harness := (true, "0996b1b347a79bc5f56bb1db31072faf24058b65bc7b32f8a874c93a608c57a7"), looks := true }, kinds := [], alts := [], laidByText := true, laidKinds := [.data], laidTests := true, laidLooks := .later }
def MemoryBytesUptoCardSaid : Prop := Claim7.holds Tryd.pinned (.plain (OpenSpec.upto memoryBytesSpec)) memoryBytesUptoCard

/-- THE SECOND FORM's CARD OF 'perigeelaw30.MemoryDouble'. -/
def memoryDoubleUptoCard : Claim7 := { stood := { row := memoryDoubleUptoRow, standIns := [], harness := (true, "0996b1b347a79bc5f56bb1db31072faf24058b65bc7b32f8a874c93a608c57a7"), looks := true }, kinds := [], alts := [], laidByText := true, laidKinds := [.data], laidTests := true, laidLooks := .later }
def MemoryDoubleUptoCardSaid : Prop := Claim7.holds Tryd.pinned (.plain (OpenSpec.upto memoryDoubleSpec)) memoryDoubleUptoCard

/-- THE SECOND FORM's CARD OF 'perigeelaw30.MemoryPlays'. -/
def memoryPlaysUptoCard : Claim7 := { stood := { row := memoryPlaysUptoRow, standIns := [], harness := (true, "0996b1b347a79bc5f56bb1db31072faf24058b65bc7b32f8a874c93a608c57a7"), looks := true }, kinds := [], alts := [], laidByText := true, laidKinds := [.data], laidTests := true, laidLooks := .later }
def MemoryPlaysUptoCardSaid : Prop := Claim7.holds Tryd.pinned (.plain (OpenSpec.upto memoryPlaysSpec)) memoryPlaysUptoCard

/-- THE SECOND FORM's CARD OF 'perigeelaw30.MemoryNone'. -/
def memoryNoneUptoCard : Claim7 := { stood := { row := memoryNoneUptoRow, standIns := [], harness := (true, "0996b1b347a79bc5f56bb1db31072faf24058b65bc7b32f8a874c93a608c57a7"), looks := true }, kinds := [], alts := [], laidByText := true, laidKinds := [.data], laidTests := true, laidLooks := .later }
def MemoryNoneUptoCardSaid : Prop := Claim7.holds Tryd.pinned (.plain (OpenSpec.upto memoryNoneSpec)) memoryNoneUptoCard

/-- THE SECOND FORM's CARD OF 'perigeelaw31.PatchesVersions'. -/
def patchesVersionsUptoCard : Claim7 := { stood := { row := patchesVersionsUptoRow, standIns := [], harness := (true, "0996b1b347a79bc5f56bb1db31072faf24058b65bc7b32f8a874c93a608c57a7"), looks := true }, kinds := [], alts := [], laidByText := true, laidKinds := [.data], laidTests := true, laidLooks := .later }
def PatchesVersionsUptoCardSaid : Prop := Claim7.holds Tryd.pinned (.plain (OpenSpec.upto patchesVersionsSpec)) patchesVersionsUptoCard

/-- THE SECOND FORM's CARD OF 'perigeelaw31.PatchesParts'. -/
def patchesPartsUptoCard : Claim7 := { stood := { row := patchesPartsUptoRow, standIns := [], harness := (true, "0996b1b347a79bc5f56bb1db31072faf24058b65bc7b32f8a874c93a608c57a7"), looks := true }, kinds := [], alts := [], laidByText := true, laidKinds := [.data], laidTests := true, laidLooks := .later }
def PatchesPartsUptoCardSaid : Prop := Claim7.holds Tryd.pinned (.plain (OpenSpec.upto patchesPartsSpec)) patchesPartsUptoCard

/-- THE SECOND FORM's CARD OF 'perigeelaw31.PatchesUpsets'. -/
def patchesUpsetsUptoCard : Claim7 := { stood := { row := patchesUpsetsUptoRow, standIns := [], harness := (true, "0996b1b347a79bc5f56bb1db31072faf24058b65bc7b32f8a874c93a608c57a7"), looks := true }, kinds := [], alts := [], laidByText := true, laidKinds := [.data], laidTests := true, laidLooks := .later }
def PatchesUpsetsUptoCardSaid : Prop := Claim7.holds Tryd.pinned (.plain (OpenSpec.upto patchesUpsetsSpec)) patchesUpsetsUptoCard

/-- THE SECOND FORM's CARD OF 'perigeelaw31.PatchesLost'. -/
def patchesLostUptoCard : Claim7 := { stood := { row := patchesLostUptoRow, standIns := [], harness := (true, "0996b1b347a79bc5f56bb1db31072faf24058b65bc7b32f8a874c93a608c57a7"), looks := true }, kinds := [], alts := [], laidByText := true, laidKinds := [.data], laidTests := true, laidLooks := .later }
def PatchesLostUptoCardSaid : Prop := Claim7.holds Tryd.pinned (.plain (OpenSpec.upto patchesLostSpec)) patchesLostUptoCard

/-- THE SECOND FORM's CARD OF 'perigeelaw31.PatchesNone'. -/
def patchesNoneUptoCard : Claim7 := { stood := { row := patchesNoneUptoRow, standIns := [], harness := (true, "0996b1b347a79bc5f56bb1db31072faf24058b65bc7b32f8a874c93a608c57a7"), looks := true }, kinds := [], alts := [], laidByText := true, laidKinds := [.data], laidTests := true, laidLooks := .later }
def PatchesNoneUptoCardSaid : Prop := Claim7.holds Tryd.pinned (.plain (OpenSpec.upto patchesNoneSpec)) patchesNoneUptoCard

/-- THE SECOND FORM's CARD OF 'perigeelaw31.PatchesWhole'. -/
def patchesWholeUptoCard : Claim7 := { stood := { row := patchesWholeUptoRow, standIns := [], harness := (true, "0996b1b347a79bc5f56bb1db31072faf24058b65bc7b32f8a874c93a608c57a7"), looks := true }, kinds := [], alts := [], laidByText := true, laidKinds := [.data], laidTests := true, laidLooks := .later }
def PatchesWholeUptoCardSaid : Prop := Claim7.holds Tryd.pinned (.plain (OpenSpec.upto patchesWholeSpec)) patchesWholeUptoCard

/-- THE SECOND FORM's CARD OF 'perigeelaw32.TablesCodes'. -/
def tablesCodesUptoCard : Claim7 := { stood := { row := tablesCodesUptoRow, standIns := [], harness := (true, "0996b1b347a79bc5f56bb1db31072faf24058b65bc7b32f8a874c93a608c57a7"), looks := true }, kinds := [], alts := [], laidByText := true, laidKinds := [.data], laidTests := true, laidLooks := .later }
def TablesCodesUptoCardSaid : Prop := Claim7.holds Tryd.pinned (.plain (OpenSpec.upto tablesCodesSpec)) tablesCodesUptoCard

/-- THE SECOND FORM's CARD OF 'perigeelaw32.TablesSets'. -/
def tablesSetsUptoCard : Claim7 := { stood := { row := tablesSetsUptoRow, standIns := [], harness := (true, "0996b1b347a79bc5f56bb1db31072faf24058b65bc7b32f8a874c93a608c57a7"), looks := true }, kinds := [], alts := [], laidByText := true, laidKinds := [.data], laidTests := true, laidLooks := .later }
def TablesSetsUptoCardSaid : Prop := Claim7.holds Tryd.pinned (.plain (OpenSpec.upto tablesSetsSpec)) tablesSetsUptoCard

/-- THE SECOND FORM's CARD OF 'perigeelaw32.TablesNone'. -/
def tablesNoneUptoCard : Claim7 := { stood := { row := tablesNoneUptoRow, standIns := [], harness := (true, "0996b1b347a79bc5f56bb1db31072faf24058b65bc7b32f8a874c93a608c57a7"), looks := true }, kinds := [], alts := [], laidByText := true, laidKinds := [.data], laidTests := true, laidLooks := .later }
def TablesNoneUptoCardSaid : Prop := Claim7.holds Tryd.pinned (.plain (OpenSpec.upto tablesNoneSpec)) tablesNoneUptoCard

/-- THE SECOND FORM's CARD OF 'perigeelaw32.TablesUpsets'. -/
def tablesUpsetsUptoCard : Claim7 := { stood := { row := tablesUpsetsUptoRow, standIns := [], harness := (true, "0996b1b347a79bc5f56bb1db31072faf24058b65bc7b32f8a874c93a608c57a7"), looks := true }, kinds := [], alts := [], laidByText := true, laidKinds := [.data], laidTests := true, laidLooks := .later }
def TablesUpsetsUptoCardSaid : Prop := Claim7.holds Tryd.pinned (.plain (OpenSpec.upto tablesUpsetsSpec)) tablesUpsetsUptoCard

/-- THE SECOND FORM's CARD OF 'perigeelaw32.TablesWhole'. -/
def tablesWholeUptoCard : Claim7 := { stood := { row := tablesWholeUptoRow, standIns := [], harness := (true, "0996b1b347a79bc5f56bb1db31072faf24058b65bc7b32f8a874c93a608c57a7"), looks := true }, kinds := [], alts := [], laidByText := true, laidKinds := [.data], laidTests := true, laidLooks := .later }
def TablesWholeUptoCardSaid : Prop := Claim7.holds Tryd.pinned (.plain (OpenSpec.upto tablesWholeSpec)) tablesWholeUptoCard
end Rows
end Go.Proofs.YtjbagcmcpmhfnaaDoor
