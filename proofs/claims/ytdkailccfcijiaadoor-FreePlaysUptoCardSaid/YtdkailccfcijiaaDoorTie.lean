/-
  DERIVED. GIVEN WITH THE SEED: THE PROGRAM's TIES (one call each: nine closed facts by the kernel) AND EACH ROW's TIE, after the 31st guide's Derived/Test/Toyas{Tie, Card}.lean. No idea stands in it: it is a product of the set-up. Laid BY PROGRAM, IN A SANDBOX (cutbox-door.mjs). By AI agents, Wed Nov 11 2026. No macro, syntax, notation, axiom, sorry.
-/
import Derived.Test.YtdkailccfcijiaaDoorRows
import Derived.LaidByTextLater
import Derived.SevenTiedAt
import Derived.LaidSub
import Derived.LaidOnce
namespace Go.Proofs.YtdkailccfcijiaaDoor
open Go
set_option maxRecDepth 100000
theorem seatTie1 : Tryd.prog.laidByTextLater [("math/bits.deBruijn64tab", Rows.laid_math_bits_deBruijn64tab), ("copse/api.ErrArg", Rows.laid_copse_api_ErrArg), ("copse/api.ErrText", Rows.laid_copse_api_ErrText), ("copse/api.ErrMany", Rows.laid_copse_api_ErrMany), ("copse/api.ErrShort", Rows.laid_copse_api_ErrShort), ("copse/api.ErrTwice", Rows.laid_copse_api_ErrTwice), ("copse/api.ErrLost", Rows.laid_copse_api_ErrLost), ("copse/api.ErrFull", Rows.laid_copse_api_ErrFull), ("copse/api.ErrDead", Rows.laid_copse_api_ErrDead), ("copse/api.ErrCorrupt", Rows.laid_copse_api_ErrCorrupt), ("copse/api.ErrStatus", Rows.laid_copse_api_ErrStatus), ("copse/api.ErrTxid", Rows.laid_copse_api_ErrTxid), ("copse/api.ErrOrder", Rows.laid_copse_api_ErrOrder), ("copse/api.ErrKind", Rows.laid_copse_api_ErrKind), ("copse/codec.steps", Rows.laid_copse_codec_steps), ("copse/sheet.head", Rows.laid_copse_sheet_head)] [.data, .sentinel, .sentinel, .sentinel, .sentinel, .sentinel, .sentinel, .sentinel, .sentinel, .sentinel, .sentinel, .sentinel, .sentinel, .sentinel, .data, .data] true :=
  Program.laidByTextLater_by_one 275 8 65 (by kernel_rfl) (by kernel_rfl) (by kernel_rfl) (by kernel_rfl) (by kernel_rfl) (by kernel_rfl) (fun _ _ => by kernel_rfl)
theorem noOwnUnsafe : Tryd.pinned.checked.prog.headLifts.contains "ownunsafe" = false := by kernel_rfl
theorem tie : Tryd.prog.laidByTextLater [("copse/api.ErrArg", Rows.laid_copse_api_ErrArg), ("copse/api.ErrText", Rows.laid_copse_api_ErrText), ("copse/api.ErrMany", Rows.laid_copse_api_ErrMany), ("copse/api.ErrShort", Rows.laid_copse_api_ErrShort), ("copse/api.ErrTwice", Rows.laid_copse_api_ErrTwice), ("copse/api.ErrLost", Rows.laid_copse_api_ErrLost), ("copse/api.ErrFull", Rows.laid_copse_api_ErrFull), ("copse/api.ErrDead", Rows.laid_copse_api_ErrDead), ("copse/api.ErrCorrupt", Rows.laid_copse_api_ErrCorrupt), ("copse/api.ErrStatus", Rows.laid_copse_api_ErrStatus), ("copse/api.ErrTxid", Rows.laid_copse_api_ErrTxid), ("copse/api.ErrOrder", Rows.laid_copse_api_ErrOrder), ("copse/api.ErrKind", Rows.laid_copse_api_ErrKind)] [.sentinel, .sentinel, .sentinel, .sentinel, .sentinel, .sentinel, .sentinel, .sentinel, .sentinel, .sentinel, .sentinel, .sentinel, .sentinel] true :=
  Program.laidByTextLater.sub seatTie1 ["copse/api.ErrArg", "copse/api.ErrText", "copse/api.ErrMany", "copse/api.ErrShort", "copse/api.ErrTwice", "copse/api.ErrLost", "copse/api.ErrFull", "copse/api.ErrDead", "copse/api.ErrCorrupt", "copse/api.ErrStatus", "copse/api.ErrTxid", "copse/api.ErrOrder", "copse/api.ErrKind"] (by kernel_rfl) (by kernel_rfl)
theorem diffPatches_row_tie : Rows.diffPatchesRow.laidByTextAt .later Tryd.pinned [.sentinel, .sentinel, .sentinel, .sentinel, .sentinel, .sentinel, .sentinel, .sentinel, .sentinel, .sentinel, .sentinel, .sentinel, .sentinel] true :=
  OpenClaim.laidByTextAt_later rfl rfl tie noOwnUnsafe
theorem diffLists_row_tie : Rows.diffListsRow.laidByTextAt .later Tryd.pinned [.sentinel, .sentinel, .sentinel, .sentinel, .sentinel, .sentinel, .sentinel, .sentinel, .sentinel, .sentinel, .sentinel, .sentinel, .sentinel] true :=
  OpenClaim.laidByTextAt_later rfl rfl tie noOwnUnsafe
theorem diffComposes_row_tie : Rows.diffComposesRow.laidByTextAt .later Tryd.pinned [.sentinel, .sentinel, .sentinel, .sentinel, .sentinel, .sentinel, .sentinel, .sentinel, .sentinel, .sentinel, .sentinel, .sentinel, .sentinel] true :=
  OpenClaim.laidByTextAt_later rfl rfl tie noOwnUnsafe
theorem tie2 : Tryd.prog.laidByTextLater [("copse/api.ErrArg", Rows.laid_copse_api_ErrArg), ("copse/api.ErrText", Rows.laid_copse_api_ErrText), ("copse/api.ErrMany", Rows.laid_copse_api_ErrMany), ("copse/api.ErrShort", Rows.laid_copse_api_ErrShort), ("copse/api.ErrTwice", Rows.laid_copse_api_ErrTwice), ("copse/api.ErrLost", Rows.laid_copse_api_ErrLost), ("copse/api.ErrFull", Rows.laid_copse_api_ErrFull), ("copse/api.ErrDead", Rows.laid_copse_api_ErrDead), ("copse/api.ErrCorrupt", Rows.laid_copse_api_ErrCorrupt), ("copse/api.ErrStatus", Rows.laid_copse_api_ErrStatus), ("copse/api.ErrTxid", Rows.laid_copse_api_ErrTxid), ("copse/api.ErrOrder", Rows.laid_copse_api_ErrOrder), ("copse/api.ErrKind", Rows.laid_copse_api_ErrKind), ("copse/codec.steps", Rows.laid_copse_codec_steps)] [.sentinel, .sentinel, .sentinel, .sentinel, .sentinel, .sentinel, .sentinel, .sentinel, .sentinel, .sentinel, .sentinel, .sentinel, .sentinel, .data] true :=
  Program.laidByTextLater.sub seatTie1 ["copse/api.ErrArg", "copse/api.ErrText", "copse/api.ErrMany", "copse/api.ErrShort", "copse/api.ErrTwice", "copse/api.ErrLost", "copse/api.ErrFull", "copse/api.ErrDead", "copse/api.ErrCorrupt", "copse/api.ErrStatus", "copse/api.ErrTxid", "copse/api.ErrOrder", "copse/api.ErrKind", "copse/codec.steps"] (by kernel_rfl) (by kernel_rfl)
theorem feedSeals_row_tie : Rows.feedSealsRow.laidByTextAt .later Tryd.pinned [.sentinel, .sentinel, .sentinel, .sentinel, .sentinel, .sentinel, .sentinel, .sentinel, .sentinel, .sentinel, .sentinel, .sentinel, .sentinel, .data] true :=
  OpenClaim.laidByTextAt_later rfl rfl tie2 noOwnUnsafe
theorem tie3 : Tryd.prog.laidByTextLater [("copse/api.ErrLost", Rows.laid_copse_api_ErrLost), ("copse/api.ErrOrder", Rows.laid_copse_api_ErrOrder)] [.sentinel, .sentinel] true :=
  Program.laidByTextLater.sub seatTie1 ["copse/api.ErrLost", "copse/api.ErrOrder"] (by kernel_rfl) (by kernel_rfl)
theorem diffBack_row_tie : Rows.diffBackRow.laidByTextAt .later Tryd.pinned [.sentinel, .sentinel] true :=
  OpenClaim.laidByTextAt_later rfl rfl tie3 noOwnUnsafe
theorem diffAgain_row_tie : Rows.diffAgainRow.laidByTextAt .later Tryd.pinned [.sentinel, .sentinel] true :=
  OpenClaim.laidByTextAt_later rfl rfl tie3 noOwnUnsafe
theorem diffChain_row_tie : Rows.diffChainRow.laidByTextAt .later Tryd.pinned [.sentinel, .sentinel] true :=
  OpenClaim.laidByTextAt_later rfl rfl tie3 noOwnUnsafe
theorem tie4 : Tryd.prog.laidByTextLater [("math/bits.deBruijn64tab", Rows.laid_math_bits_deBruijn64tab), ("copse/api.ErrArg", Rows.laid_copse_api_ErrArg), ("copse/api.ErrText", Rows.laid_copse_api_ErrText), ("copse/api.ErrMany", Rows.laid_copse_api_ErrMany), ("copse/api.ErrShort", Rows.laid_copse_api_ErrShort), ("copse/api.ErrTwice", Rows.laid_copse_api_ErrTwice), ("copse/api.ErrLost", Rows.laid_copse_api_ErrLost), ("copse/api.ErrFull", Rows.laid_copse_api_ErrFull), ("copse/api.ErrDead", Rows.laid_copse_api_ErrDead), ("copse/api.ErrCorrupt", Rows.laid_copse_api_ErrCorrupt), ("copse/api.ErrStatus", Rows.laid_copse_api_ErrStatus), ("copse/api.ErrTxid", Rows.laid_copse_api_ErrTxid), ("copse/api.ErrOrder", Rows.laid_copse_api_ErrOrder), ("copse/api.ErrKind", Rows.laid_copse_api_ErrKind)] [.data, .sentinel, .sentinel, .sentinel, .sentinel, .sentinel, .sentinel, .sentinel, .sentinel, .sentinel, .sentinel, .sentinel, .sentinel, .sentinel] true :=
  Program.laidByTextLater.sub seatTie1 ["math/bits.deBruijn64tab", "copse/api.ErrArg", "copse/api.ErrText", "copse/api.ErrMany", "copse/api.ErrShort", "copse/api.ErrTwice", "copse/api.ErrLost", "copse/api.ErrFull", "copse/api.ErrDead", "copse/api.ErrCorrupt", "copse/api.ErrStatus", "copse/api.ErrTxid", "copse/api.ErrOrder", "copse/api.ErrKind"] (by kernel_rfl) (by kernel_rfl)
theorem freeBook_row_tie : Rows.freeBookRow.laidByTextAt .later Tryd.pinned [.data, .sentinel, .sentinel, .sentinel, .sentinel, .sentinel, .sentinel, .sentinel, .sentinel, .sentinel, .sentinel, .sentinel, .sentinel, .sentinel] true :=
  OpenClaim.laidByTextAt_later rfl rfl tie4 noOwnUnsafe
theorem freeSame_row_tie : Rows.freeSameRow.laidByTextAt .later Tryd.pinned [.data, .sentinel, .sentinel, .sentinel, .sentinel, .sentinel, .sentinel, .sentinel, .sentinel, .sentinel, .sentinel, .sentinel, .sentinel, .sentinel] true :=
  OpenClaim.laidByTextAt_later rfl rfl tie4 noOwnUnsafe
theorem freePlays_row_tie : Rows.freePlaysRow.laidByTextAt .later Tryd.pinned [.data, .sentinel, .sentinel, .sentinel, .sentinel, .sentinel, .sentinel, .sentinel, .sentinel, .sentinel, .sentinel, .sentinel, .sentinel, .sentinel] true :=
  OpenClaim.laidByTextAt_later rfl rfl tie4 noOwnUnsafe
theorem freeCopies_row_tie : Rows.freeCopiesRow.laidByTextAt .later Tryd.pinned [.data, .sentinel, .sentinel, .sentinel, .sentinel, .sentinel, .sentinel, .sentinel, .sentinel, .sentinel, .sentinel, .sentinel, .sentinel, .sentinel] true :=
  OpenClaim.laidByTextAt_later rfl rfl tie4 noOwnUnsafe
theorem freeGives_row_tie : Rows.freeGivesRow.laidByTextAt .later Tryd.pinned [.data, .sentinel, .sentinel, .sentinel, .sentinel, .sentinel, .sentinel, .sentinel, .sentinel, .sentinel, .sentinel, .sentinel, .sentinel, .sentinel] true :=
  OpenClaim.laidByTextAt_later rfl rfl tie4 noOwnUnsafe
theorem tie5 : Tryd.prog.laidByTextLater [("copse/api.ErrArg", Rows.laid_copse_api_ErrArg), ("copse/api.ErrText", Rows.laid_copse_api_ErrText), ("copse/api.ErrMany", Rows.laid_copse_api_ErrMany), ("copse/api.ErrShort", Rows.laid_copse_api_ErrShort), ("copse/api.ErrTwice", Rows.laid_copse_api_ErrTwice), ("copse/api.ErrLost", Rows.laid_copse_api_ErrLost), ("copse/api.ErrFull", Rows.laid_copse_api_ErrFull), ("copse/api.ErrDead", Rows.laid_copse_api_ErrDead), ("copse/api.ErrCorrupt", Rows.laid_copse_api_ErrCorrupt), ("copse/api.ErrStatus", Rows.laid_copse_api_ErrStatus), ("copse/api.ErrTxid", Rows.laid_copse_api_ErrTxid), ("copse/api.ErrOrder", Rows.laid_copse_api_ErrOrder), ("copse/api.ErrKind", Rows.laid_copse_api_ErrKind), ("copse/codec.steps", Rows.laid_copse_codec_steps), ("copse/sheet.head", Rows.laid_copse_sheet_head)] [.sentinel, .sentinel, .sentinel, .sentinel, .sentinel, .sentinel, .sentinel, .sentinel, .sentinel, .sentinel, .sentinel, .sentinel, .sentinel, .data, .data] true :=
  Program.laidByTextLater.sub seatTie1 ["copse/api.ErrArg", "copse/api.ErrText", "copse/api.ErrMany", "copse/api.ErrShort", "copse/api.ErrTwice", "copse/api.ErrLost", "copse/api.ErrFull", "copse/api.ErrDead", "copse/api.ErrCorrupt", "copse/api.ErrStatus", "copse/api.ErrTxid", "copse/api.ErrOrder", "copse/api.ErrKind", "copse/codec.steps", "copse/sheet.head"] (by kernel_rfl) (by kernel_rfl)
theorem backupChecks_row_tie : Rows.backupChecksRow.laidByTextAt .later Tryd.pinned [.sentinel, .sentinel, .sentinel, .sentinel, .sentinel, .sentinel, .sentinel, .sentinel, .sentinel, .sentinel, .sentinel, .sentinel, .sentinel, .data, .data] true :=
  OpenClaim.laidByTextAt_later rfl rfl tie5 noOwnUnsafe
theorem backupMerges_row_tie : Rows.backupMergesRow.laidByTextAt .later Tryd.pinned [.sentinel, .sentinel, .sentinel, .sentinel, .sentinel, .sentinel, .sentinel, .sentinel, .sentinel, .sentinel, .sentinel, .sentinel, .sentinel, .data, .data] true :=
  OpenClaim.laidByTextAt_later rfl rfl tie5 noOwnUnsafe
theorem diffPatchesUpto_row_tie : Rows.diffPatchesUptoRow.laidByTextAt .later Tryd.pinned [.sentinel, .sentinel, .sentinel, .sentinel, .sentinel, .sentinel, .sentinel, .sentinel, .sentinel, .sentinel, .sentinel, .sentinel, .sentinel] true :=
  OpenClaim.laidByTextAt_later rfl rfl tie noOwnUnsafe
theorem diffListsUpto_row_tie : Rows.diffListsUptoRow.laidByTextAt .later Tryd.pinned [.sentinel, .sentinel, .sentinel, .sentinel, .sentinel, .sentinel, .sentinel, .sentinel, .sentinel, .sentinel, .sentinel, .sentinel, .sentinel] true :=
  OpenClaim.laidByTextAt_later rfl rfl tie noOwnUnsafe
theorem diffComposesUpto_row_tie : Rows.diffComposesUptoRow.laidByTextAt .later Tryd.pinned [.sentinel, .sentinel, .sentinel, .sentinel, .sentinel, .sentinel, .sentinel, .sentinel, .sentinel, .sentinel, .sentinel, .sentinel, .sentinel] true :=
  OpenClaim.laidByTextAt_later rfl rfl tie noOwnUnsafe
theorem feedSealsUpto_row_tie : Rows.feedSealsUptoRow.laidByTextAt .later Tryd.pinned [.sentinel, .sentinel, .sentinel, .sentinel, .sentinel, .sentinel, .sentinel, .sentinel, .sentinel, .sentinel, .sentinel, .sentinel, .sentinel, .data] true :=
  OpenClaim.laidByTextAt_later rfl rfl tie2 noOwnUnsafe
theorem diffBackUpto_row_tie : Rows.diffBackUptoRow.laidByTextAt .later Tryd.pinned [.sentinel, .sentinel] true :=
  OpenClaim.laidByTextAt_later rfl rfl tie3 noOwnUnsafe
theorem diffAgainUpto_row_tie : Rows.diffAgainUptoRow.laidByTextAt .later Tryd.pinned [.sentinel, .sentinel] true :=
  OpenClaim.laidByTextAt_later rfl rfl tie3 noOwnUnsafe
theorem diffChainUpto_row_tie : Rows.diffChainUptoRow.laidByTextAt .later Tryd.pinned [.sentinel, .sentinel] true :=
  OpenClaim.laidByTextAt_later rfl rfl tie3 noOwnUnsafe
theorem freeBookUpto_row_tie : Rows.freeBookUptoRow.laidByTextAt .later Tryd.pinned [.data, .sentinel, .sentinel, .sentinel, .sentinel, .sentinel, .sentinel, .sentinel, .sentinel, .sentinel, .sentinel, .sentinel, .sentinel, .sentinel] true :=
  OpenClaim.laidByTextAt_later rfl rfl tie4 noOwnUnsafe
theorem freeSameUpto_row_tie : Rows.freeSameUptoRow.laidByTextAt .later Tryd.pinned [.data, .sentinel, .sentinel, .sentinel, .sentinel, .sentinel, .sentinel, .sentinel, .sentinel, .sentinel, .sentinel, .sentinel, .sentinel, .sentinel] true :=
  OpenClaim.laidByTextAt_later rfl rfl tie4 noOwnUnsafe
theorem freePlaysUpto_row_tie : Rows.freePlaysUptoRow.laidByTextAt .later Tryd.pinned [.data, .sentinel, .sentinel, .sentinel, .sentinel, .sentinel, .sentinel, .sentinel, .sentinel, .sentinel, .sentinel, .sentinel, .sentinel, .sentinel] true :=
  OpenClaim.laidByTextAt_later rfl rfl tie4 noOwnUnsafe
theorem freeCopiesUpto_row_tie : Rows.freeCopiesUptoRow.laidByTextAt .later Tryd.pinned [.data, .sentinel, .sentinel, .sentinel, .sentinel, .sentinel, .sentinel, .sentinel, .sentinel, .sentinel, .sentinel, .sentinel, .sentinel, .sentinel] true :=
  OpenClaim.laidByTextAt_later rfl rfl tie4 noOwnUnsafe
theorem freeGivesUpto_row_tie : Rows.freeGivesUptoRow.laidByTextAt .later Tryd.pinned [.data, .sentinel, .sentinel, .sentinel, .sentinel, .sentinel, .sentinel, .sentinel, .sentinel, .sentinel, .sentinel, .sentinel, .sentinel, .sentinel] true :=
  OpenClaim.laidByTextAt_later rfl rfl tie4 noOwnUnsafe
theorem backupChecksUpto_row_tie : Rows.backupChecksUptoRow.laidByTextAt .later Tryd.pinned [.sentinel, .sentinel, .sentinel, .sentinel, .sentinel, .sentinel, .sentinel, .sentinel, .sentinel, .sentinel, .sentinel, .sentinel, .sentinel, .data, .data] true :=
  OpenClaim.laidByTextAt_later rfl rfl tie5 noOwnUnsafe
theorem backupMergesUpto_row_tie : Rows.backupMergesUptoRow.laidByTextAt .later Tryd.pinned [.sentinel, .sentinel, .sentinel, .sentinel, .sentinel, .sentinel, .sentinel, .sentinel, .sentinel, .sentinel, .sentinel, .sentinel, .sentinel, .data, .data] true :=
  OpenClaim.laidByTextAt_later rfl rfl tie5 noOwnUnsafe
end Go.Proofs.YtdkailccfcijiaaDoor
