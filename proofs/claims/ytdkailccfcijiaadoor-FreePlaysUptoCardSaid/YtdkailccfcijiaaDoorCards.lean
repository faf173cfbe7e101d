/-
  DERIVED. GIVEN WITH THE SEED: THE CARDS: each row of YtdkailccfcijiaaDoorRows.lean that lists a variable, with what it lists TIED to the program's text (the seventh form; the later family's looks); each row that meets fmt, with fmt's text TOLD by the authors' own Lean function (tested against real Go, not proved from fmt's source: count such statements apart). THE CARD IS WHAT COUNTS. Prove the row's statement (the work); the ties are given (YtdkailccfcijiaaDoorTie.lean); close each card by the builder's one call (the guide's Derived/Test/ToyasCard.lean, 'card_holds'). Laid BY PROGRAM, IN A SANDBOX (cutbox-door.mjs). By AI agents, Wed Nov 11 2026. No macro, syntax, notation, axiom, sorry.
-/
import Derived.Test.YtdkailccfcijiaaDoorRows
import GoSem.ClaimSeven
namespace Go.Proofs.YtdkailccfcijiaaDoor
namespace Rows

/-- THE TIED CARD OF 'copselaw19.DiffPatches'. -/
def diffPatchesCard : Claim7 := { stood := { row := diffPatchesRow, standIns := [], harness := (true, "7acdf6fc95e02eec46a10c2a5a3c6b6b1bbee0f40d1edb91fa16fb295c11f0e0"), looks := true }, kinds := [], alts := [], laidByText := true, laidKinds := [.sentinel, .sentinel, .sentinel, .sentinel, .sentinel, .sentinel, .sentinel, .sentinel, .sentinel, .sentinel, .sentinel, .sentinel, .sentinel], laidTests := true, laidLooks := .later }
def DiffPatchesCardSaid : Prop := Claim7.holds Tryd.pinned (.plain (OpenSpec.ofChange diffPatchesSpec)) diffPatchesCard

/-- THE TIED CARD OF 'copselaw19.DiffLists'. -/
def diffListsCard : Claim7 := { stood := { row := diffListsRow, standIns := [], harness := (true, "7acdf6fc95e02eec46a10c2a5a3c6b6b1bbee0f40d1edb91fa16fb295c11f0e0"), looks := true }, kinds := [], alts := [], laidByText := true, laidKinds := [.sentinel, .sentinel, .sentinel, .sentinel, .sentinel, .sentinel, .sentinel, .sentinel, .sentinel, .sentinel, .sentinel, .sentinel, .sentinel], laidTests := true, laidLooks := .later }
def DiffListsCardSaid : Prop := Claim7.holds Tryd.pinned (.plain (OpenSpec.ofChange diffListsSpec)) diffListsCard

/-- THE TIED CARD OF 'copselaw19.DiffComposes'. -/
def diffComposesCard : Claim7 := { stood := { row := diffComposesRow, standIns := [], harness := (true, "7acdf6fc95e02eec46a10c2a5a3c6b6b1bbee0f40d1edb91fa16fb295c11f0e0"), looks := true }, kinds := [], alts := [], laidByText := true, laidKinds := [.sentinel, .sentinel, .sentinel, .sentinel, .sentinel, .sentinel, .sentinel, .sentinel, .sentinel, .sentinel, .sentinel, .sentinel, .sentinel], laidTests := true, laidLooks := .later }
def DiffComposesCardSaid : Prop := Claim7.holds Tryd.pinned (.plain (OpenSpec.ofChange diffComposesSpec)) diffComposesCard

/-- THE TIED CARD OF 'copselaw20.FeedSeals'. -/
def feedSealsCard : Claim7 := { stood := { row := feedSealsRow, standIns := [], harness := (true, "7acdf6fc95e02eec46a10c2a5a3c6b6b1bbee0f40d1edb91fa16fb295c11f0e0"), looks := true }, kinds := [], alts := [], laidByText := true, laidKinds := [.sentinel, .sentinel, .sentinel, .sentinel, .sentinel, .sentinel, .sentinel, .sentinel, .sentinel, .sentinel, .sentinel, .sentinel, .sentinel, .data], laidTests := true, laidLooks := .later }
def FeedSealsCardSaid : Prop := Claim7.holds Tryd.pinned (.plain (OpenSpec.ofChange feedSealsSpec)) feedSealsCard

/-- THE TIED CARD OF 'copselaw19.DiffBack'. -/
def diffBackCard : Claim7 := { stood := { row := diffBackRow, standIns := [], harness := (true, "7acdf6fc95e02eec46a10c2a5a3c6b6b1bbee0f40d1edb91fa16fb295c11f0e0"), looks := true }, kinds := [], alts := [], laidByText := true, laidKinds := [.sentinel, .sentinel], laidTests := true, laidLooks := .later }
def DiffBackCardSaid : Prop := Claim7.holds Tryd.pinned (.plain (OpenSpec.ofChange diffBackSpec)) diffBackCard

/-- THE TIED CARD OF 'copselaw19.DiffAgain'. -/
def diffAgainCard : Claim7 := { stood := { row := diffAgainRow, standIns := [], harness := (true, "7acdf6fc95e02eec46a10c2a5a3c6b6b1bbee0f40d1edb91fa16fb295c11f0e0"), looks := true }, kinds := [], alts := [], laidByText := true, laidKinds := [.sentinel, .sentinel], laidTests := true, laidLooks := .later }
def DiffAgainCardSaid : Prop := Claim7.holds Tryd.pinned (.plain (OpenSpec.ofChange diffAgainSpec)) diffAgainCard

/-- THE TIED CARD OF 'copselaw19.DiffChain'. -/
def diffChainCard : Claim7 := { stood := { row := diffChainRow, standIns := [], harness := (true, "7acdf6fc95e02eec46a10c2a5a3c6b6b1bbee0f40d1edb91fa16fb295c11f0e0"), looks := true }, kinds := [], alts := [], laidByText := true, laidKinds := [.sentinel, .sentinel], laidTests := true, laidLooks := .later }
def DiffChainCardSaid : Prop := Claim7.holds Tryd.pinned (.plain (OpenSpec.ofChange diffChainSpec)) diffChainCard

/-- THE TIED CARD OF 'copselaw9.FreeBook'. -/
def freeBookCard : Claim7 := { stood := { row := freeBookRow, standIns := [], harness := (true, "7acdf6fc95e02eec46a10c2a5a3c6b6b1bbee0f40d1edb91fa16fb295c11f0e0"), looks := true }, kinds := [], alts := [], laidByText := true, laidKinds := [.data, .sentinel, .sentinel, .sentinel, .sentinel, .sentinel, .sentinel, .sentinel, .sentinel, .sentinel, .sentinel, .sentinel, .sentinel, .sentinel], laidTests := true, laidLooks := .later }
def FreeBookCardSaid : Prop := Claim7.holds Tryd.pinned (.plain (OpenSpec.ofChange freeBookSpec)) freeBookCard

/-- THE TIED CARD OF 'copselaw9.FreeSame'. -/
def freeSameCard : Claim7 := { stood := { row := freeSameRow, standIns := [], harness := (true, "7acdf6fc95e02eec46a10c2a5a3c6b6b1bbee0f40d1edb91fa16fb295c11f0e0"), looks := true }, kinds := [], alts := [], laidByText := true, laidKinds := [.data, .sentinel, .sentinel, .sentinel, .sentinel, .sentinel, .sentinel, .sentinel, .sentinel, .sentinel, .sentinel, .sentinel, .sentinel, .sentinel], laidTests := true, laidLooks := .later }
def FreeSameCardSaid : Prop := Claim7.holds Tryd.pinned (.plain (OpenSpec.ofChange freeSameSpec)) freeSameCard

/-- THE TIED CARD OF 'copselaw9.FreePlays'. -/
def freePlaysCard : Claim7 := { stood := { row := freePlaysRow, standIns := [], harness := (true, "7acdf6fc95e02eec46a10c2a5a3c6b6b1bbee0f40d1edb91fa16fb295c11f0e0"), looks := true }, kinds := [], alts := [], laidByText := true, laidKinds := [.data, .sentinel, .sentinel, .sentinel, .sentinel, .sentinel, .sentinel, .sentinel, .sentinel, .sentinel, .sentinel, .sentinel, .sentinel, .sentinel], laidTests := true, laidLooks := .later }
def FreePlaysCardSaid : Prop := Claim7.holds Tryd.pinned (.plain (OpenSpec.ofChange freePlaysSpec)) freePlaysCard

/-- THE TIED CARD OF 'copselaw9.FreeCopies'. -/
def freeCopiesCard : Claim7 := { stood := { row := freeCopiesRow, standIns := [], harness := (true, "7acdf6fc95e02eec46a10c2a5a3c6b6b1bbee0f40d1edb91fa16fb295c11f0e0"), looks := true }, kinds := [], alts := [], laidByText := true, laidKinds := [.data, .sentinel, .sentinel, .sentinel, .sentinel, .sentinel, .sentinel, .sentinel, .sentinel, .sentinel, .sentinel, .sentinel, .sentinel, .sentinel], laidTests := true, laidLooks := .later }
def FreeCopiesCardSaid : Prop := Claim7.holds Tryd.pinned (.plain (OpenSpec.ofChange freeCopiesSpec)) freeCopiesCard

/-- THE TIED CARD OF 'copselaw9.FreeGives'. -/
def freeGivesCard : Claim7 := { stood := { row := freeGivesRow, standIns := [], harness := (true, "7acdf6fc95e02eec46a10c2a5a3c6b6b1bbee0f40d1edb91fa16fb295c11f0e0"), looks := true }, kinds := [], alts := [], laidByText := true, laidKinds := [.data, .sentinel, .sentinel, .sentinel, .sentinel, .sentinel, .sentinel, .sentinel, .sentinel, .sentinel, .sentinel, .sentinel, .sentinel, .sentinel], laidTests := true, laidLooks := .later }
def FreeGivesCardSaid : Prop := Claim7.holds Tryd.pinned (.plain (OpenSpec.ofChange freeGivesSpec)) freeGivesCard

/-- THE TIED CARD OF 'copselaw23.BackupChecks'. -/
def backupChecksCard : Claim7 := { stood := { row := backupChecksRow, standIns := [], harness := (true, "7acdf6fc95e02eec46a10c2a5a3c6b6b1bbee0f40d1edb91fa16fb295c11f0e0"), looks := true }, kinds := [], alts := [], laidByText := true, laidKinds := [.sentinel, .sentinel, .sentinel, .sentinel, .sentinel, .sentinel, .sentinel, .sentinel, .sentinel, .sentinel, .sentinel, .sentinel, .sentinel, .data, .data], laidTests := true, laidLooks := .later }
def BackupChecksCardSaid : Prop := Claim7.holds Tryd.pinned (.plain (OpenSpec.ofChange backupChecksSpec)) backupChecksCard

/-- THE TIED CARD OF 'copselaw23.BackupMerges'. -/
def backupMergesCard : Claim7 := { stood := { row := backupMergesRow, standIns := [], harness := (true, "7acdf6fc95e02eec46a10c2a5a3c6b6b1bbee0f40d1edb91fa16fb295c11f0e0"), looks := true }, kinds := [], alts := [], laidByText := true, laidKinds := [.sentinel, .sentinel, .sentinel, .sentinel, .sentinel, .sentinel, .sentinel, .sentinel, .sentinel, .sentinel, .sentinel, .sentinel, .sentinel, .data, .data], laidTests := true, laidLooks := .later }
def BackupMergesCardSaid : Prop := Claim7.holds Tryd.pinned (.plain (OpenSpec.ofChange backupMergesSpec)) backupMergesCard

/-- THE SECOND FORM's CARD OF 'copselaw19.DiffPatches'. -/
def diffPatchesUptoCard : Claim7 := { stood := { row := diffPatchesUptoRow, standIns := [], harness := (true, "7acdf6fc95e02eec46a10c2a5a3c6b6b1bbee0f40d1edb91fa16fb295c11f0e0"), looks := true }, kinds := [], alts := [], laidByText := true, laidKinds := [.sentinel, .sentinel, .sentinel, .sentinel, .sentinel, .sentinel, .sentinel, .sentinel, .sentinel, .sentinel, .sentinel, .sentinel, .sentinel], laidTests := true, laidLooks := .later }
def DiffPatchesUptoCardSaid : Prop := Claim7.holds Tryd.pinned (.plain (OpenSpec.upto diffPatchesSpec)) diffPatchesUptoCard

/-- THE SECOND FORM's CARD OF 'copselaw19.DiffLists'. -/
def diffListsUptoCard : Claim7 := { stood := { row := diffListsUptoRow, standIns := [], harness := (true, "7acdf6fc95e02eec46a10c2a5a3c6b6b1bbee0f40d1edb91fa16fb295c11f0e0"), looks := true }, kinds := [], alts := [], laidByText := true, laidKinds := [.sentinel, .sentinel, .sentinel, .sentinel, .sentinel, .sentinel, .sentinel, .sentinel, .sentinel, .sentinel, .sentinel, .sentinel, .sentinel], laidTests := true, laidLooks := .later }
def DiffListsUptoCardSaid : Prop := Claim7.holds Tryd.pinned (.plain (OpenSpec.upto diffListsSpec)) diffListsUptoCard

/-- THE SECOND FORM's CARD OF 'copselaw19.DiffComposes'. -/
def diffComposesUptoCard : Claim7 := { stood := { row := diffComposesUptoRow, standIns := [], harness := (true, "7acdf6fc95e02eec46a10c2a5a3c6b6b1bbee0f40d1edb91fa16fb295c11f0e0"), looks := true }, kinds := [], alts := [], laidByText := true, laidKinds := [.sentinel, .sentinel, .sentinel, .sentinel, .sentinel, .sentinel, .sentinel, .sentinel, .sentinel, .sentinel, .sentinel, .sentinel, .sentinel], laidTests := true, laidLooks := .later }
def DiffComposesUptoCardSaid : Prop := Claim7.holds Tryd.pinned (.plain (OpenSpec.upto diffComposesSpec)) diffComposesUptoCard

/-- THE SECOND FORM's CARD OF 'copselaw20.FeedSeals'. -/
def feedSealsUptoCard : Claim7 := { stood := { row := feedSealsUptoRow, standIns := [], harness := (true, "7acdf6fc95e02eec46a10c2a5a3c6b6b1bbee0f40d1edb91fa16fb295c11f0e0"), looks := true }, kinds := [], alts := [], laidByText := true, laidKinds := [.sentinel, .sentinel, .sentinel, .sentinel, .sentinel, .sentinel, .sentinel, .sentinel, .sentinel, .sentinel, .sentinel, .sentinel, .sentinel, .data], laidTests := true, laidLooks := .later }
def FeedSealsUptoCardSaid : Prop := Claim7.holds Tryd.pinned (.plain (OpenSpec.upto feedSealsSpec)) feedSealsUptoCard

/-- THE SECOND FORM's CARD OF 'copselaw19.DiffBack'. -/
def diffBackUptoCard : Claim7 := { stood := { row := diffBackUptoRow, standIns := [], harness := (true, "7acdf6fc95e02eec46a10c2a5a3c6b6b1bbee0f40d1edb91fa16fb295c11f0e0"), looks := true }, kinds := [], alts := [], laidByText := true, laidKinds := [.sentinel, .sentinel], laidTests := true, laidLooks := .later }
def DiffBackUptoCardSaid : Prop := Claim7.holds Tryd.pinned (.plain (OpenSpec.upto diffBackSpec)) diffBackUptoCard

/-- THE SECOND FORM's CARD OF 'copselaw19.DiffAgain'. -/
def diffAgainUptoCard : Claim7 := { stood := { row := diffAgainUptoRow, standIns := [], harness := (true, "7acdf6fc95e02eec46a10c2a5a3c6b6b1bbee0f40d1edb91fa16fb295c11f0e0"), looks := true }, kinds := [], alts := [], laidByText := true, laidKinds := [.sentinel, .sentinel], laidTests := true, laidLooks := .later }
def DiffAgainUptoCardSaid : Prop := Claim7.holds Tryd.pinned (.plain (OpenSpec.upto diffAgainSpec)) diffAgainUptoCard

/-- THE SECOND FORM's CARD OF 'copselaw19.DiffChain'. -/
def diffChainUptoCard : Claim7 := { stood := { row := diffChainUptoRow, standIns := [], harness := (true, "7acdf6fc95e02eec46a10c2a5a3c6b6b1bbee0f40d1edb91fa16fb295c11f0e0"), looks := true }, kinds := [], alts := [], laidByText := true, laidKinds := [.sentinel, .sentinel], laidTests := true, laidLooks := .later }
def DiffChainUptoCardSaid : Prop := Claim7.holds Tryd.pinned (.plain (OpenSpec.upto diffChainSpec)) diffChainUptoCard

/-- THE SECOND FORM's CARD OF 'copselaw9.FreeBook'. -/
def freeBookUptoCard : Claim7 := { stood := { row := freeBookUptoRow, standIns := [], harness := (true, "7acdf6fc95e02eec46a10c2a5a3c6b6b1bbee0f40d1edb91fa16fb295c11f0e0"), looks := true }, kinds := [], alts := [], laidByText := true, laidKinds := [.data, .sentinel, .sentinel, .sentinel, .sentinel, .sentinel, .sentinel, .sentinel, .sentinel, .sentinel, .sentinel, .sentinel, .sentinel, .sentinel], laidTests := true, laidLooks := .later }
def FreeBookUptoCardSaid : Prop := Claim7.holds Tryd.pinned (.plain (OpenSpec.upto freeBookSpec)) freeBookUptoCard

/-- THE SECOND FORM's CARD OF 'copselaw9.FreeSame'. -/
def freeSameUptoCard : Claim7 := { stood := { row := freeSameUptoRow, standIns := [], harness := (true, "7acdf6fc95e02eec46a10c2a5a3c6b6b1bbee0f40d1edb91fa16fb295c11f0e0"), looks := true }, kinds := [], alts := [], laidByText := true, laidKinds := [.data, .sentinel, .sentinel, .sentinel, .sentinel, .sentinel, .sentinel, .sentinel, .sentinel, .sentinel, .sentinel, .sentinel, .sentinel, .sentinel], laidTests := true, laidLooks := .later }
def FreeSameUptoCardSaid : Prop := Claim7.holds Tryd.pinned (.plain (OpenSpec.upto freeSameSpec)) freeSameUptoCard

/-- THE SECOND FORM's CARD OF 'copselaw9.FreePlays'. -/
def freePlaysUptoCard : Claim7 := { stood := { row := freePlaysUptoRow, standIns := [], harness := (true, "7acdf6fc95e02eec46a10c2a5a3c6b6b1bbee0f40d1edb91fa16fb295c11f0e0"), looks := true }, kinds := [], alts := [], laidByText := true, laidKinds := [.data, .sentinel, .sentinel, .sentinel, .sentinel, .sentinel, .sentinel, .sentinel, .sentinel, .sentinel, .sentinel, .sentinel, .sentinel, .sentinel], laidTests := true, laidLooks := .later }
def FreePlaysUptoCardSaid : Prop := Claim7.holds Tryd.pinned (.plain (OpenSpec.upto freePlaysSpec)) freePlaysUptoCard

/-- THE SECOND FORM's CARD OF 'copselaw9.FreeCopies'. -/
def freeCopiesUptoCard : Claim7 := { stood := { row := freeCopiesUptoRow, standIns := [], harness := (true, "7acdf6fc95e02eec46a10c2a5a3c6b6b1bbee0f40d1edb91fa16fb295c11f0e0"), looks := true }, kinds := [], alts := [], laidByText := true, laidKinds := [.data, .sentinel, .sentinel, .sentinel, .sentinel, .sentinel, .sentinel, .sentinel, .sentinel, .sentinel, .sentinel, .sentinel, .sentinel, .sentinel], laidTests := true, laidLooks := .later }
def FreeCopiesUptoCardSaid : Prop := Claim7.holds Tryd.pinned (.plain (OpenSpec.upto freeCopiesSpec)) freeCopiesUptoCard

/-- THE SECOND FORM's CARD OF 'copselaw9.FreeGives'. -/
def freeGivesUptoCard : Claim7 := { stood := { row := freeGivesUptoRow, standIns := [], harness := (true, "7acdf6fc95e02eec46a10c2a5a3c6b6b1bbee0f40d1edb91fa16fb295c11f0e0"), looks := true }, kinds := [], alts := [], laidByText := true, laidKinds := [.data, .sentinel, .sentinel, .sentinel, .sentinel, .sentinel, .sentinel, .sentinel, .sentinel, .sentinel, .sentinel, .sentinel, .sentinel, .sentinel], laidTests := true, laidLooks := .later }
def FreeGivesUptoCardSaid : Prop := Claim7.holds Tryd.pinned (.plain (OpenSpec.upto freeGivesSpec)) freeGivesUptoCard

/-- THE SECOND FORM's CARD OF 'copselaw23.BackupChecks'. -/
def backupChecksUptoCard : Claim7 := { stood := { row := backupChecksUptoRow, standIns := [], harness := (true, "7acdf6fc95e02eec46a10c2a5a3c6b6b1bbee0f40d1edb91fa16fb295c11f0e0"), looks := true }, kinds := [], alts := [], laidByText := true, laidKinds := [.sentinel, .sentinel, .sentinel, .sentinel, .sentinel, .sentinel, .sentinel, .sentinel, .sentinel, .sentinel, .sentinel, .sentinel, .sentinel, .data, .data], laidTests := true, laidLooks := .later }
def BackupChecksUptoCardSaid : Prop := Claim7.holds Tryd.pinned (.plain (OpenSpec.upto backupChecksSpec)) backupChecksUptoCard

/-- THE SECOND FORM's CARD OF 'copselaw23.BackupMerges'. -/
def backupMergesUptoCard : Claim7 := { stood := { row := backupMergesUptoRow, standIns := [], harness := (true, "7acdf6fc95e02eec46a10c2a5a3c6b6b1bbee0f40d1edb91fa16fb295c11f0e0"), looks := true }, kinds := [], alts := [], laidByText := true, laidKinds := [.sentinel, .sentinel, .sentinel, .sentinel, .sentinel, .sentinel, .sentinel, .sentinel, .sentinel, .sentinel, .sentinel, .sentinel, .sentinel, .data, .data], laidTests := true, laidLooks := .later }
def BackupMergesUptoCardSaid : Prop := Claim7.holds Tryd.pinned (.plain (OpenSpec.upto backupMergesSpec)) backupMergesUptoCard
end Rows
end Go.Proofs.YtdkailccfcijiaaDoor
