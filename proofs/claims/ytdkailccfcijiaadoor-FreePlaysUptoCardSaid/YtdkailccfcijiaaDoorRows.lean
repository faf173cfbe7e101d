/-
  NARROWER THAN 'FOR EVERY INPUT', by the rows' own cells (each row's printed sentence says how): DiffPatches: laid · DiffLists: laid · DiffComposes: laid · FeedSeals: laid · DiffBack: laid · DiffAgain: laid · DiffChain: laid · FreeBook: laid · FreeSame: laid · FreePlays: laid · FreeCopies: laid · FreeGives: laid · BackupChecks: laid · BackupMerges: laid.
  DERIVED. THE GIVEN ROWS OF THIS SEAT. 14 by the template 'for every input the law returns true; each argument reads behind the call as it read before'; 0 by the template 'total and deterministic' (their statements: YtdkailccfcijiaaDoorTotals.lean).
  GIVEN WITH THE SEED: the statements are not yours to turn. If you find one false, say at which input.
  Laid BY PROGRAM, IN A SANDBOX (cutbox-rows.mjs): the forced cells as the released guide's own fill.sh prints them over the translation 0a712412afcd0485… (all of the seat's roots in one cut). By AI agents, Wed Nov 11 2026. No macro, syntax, notation, axiom, sorry.
-/
import Derived.Test.YtdkailccfcijiaaDoorChecked
import GoSem.Claim
import GoSem.ClaimJoined
import GoSem.ClaimMapViews
import Derived.JoinedTies
import Derived.KernelRfl
namespace Go.Proofs.YtdkailccfcijiaaDoor
/- THE CELL 'sum', in the pinned program and in every row, IS THE sha256 OF THE DUMP (.gsa) THAT YtdkailccfcijiaaDoorProg.lean LOADS. Nothing in Lean hashes anything: it is a label: what it is worth is what the hold of that sum in a sandbox is worth. -/
noncomputable def Tryd.pinned : Pinned := { name := "ytdkailccfcijiaadoor", sum := "0a712412afcd0485a5987ba70293b959ae856687e624912e0db515728c86f5a2", checked := Tryd.checked }
namespace Rows
def none {H : Type} : Left H := { results := [], args := [] }

/- WHAT THE LISTED PACKAGE-LEVEL VARIABLES READ AS WHEN THE CALL BEGINS. Each datum BY PROGRAM (the guide's laid-datum.mjs) off the statement by which the dump's own 'gosem.cut.vars' lays the variable. In a bare row this is a premise. The card (YtdkailccfcijiaaDoorCards.lean) ties it to the program's text. -/
def laid_copse_api_ErrArg {H : Type} : DataW H := .iface "*errors.errorString" (.ptr (.agg [.lit (.string [97, 32, 110, 117, 109, 98, 101, 114, 32, 111, 114, 32, 97, 110, 32, 97, 114, 103, 117, 109, 101, 110, 116, 32, 105, 115, 32, 111, 117, 116, 32, 111, 102, 32, 105, 116, 115, 32, 112, 108, 97, 99, 101])]))
def laid_copse_api_ErrText {H : Type} : DataW H := .iface "*errors.errorString" (.ptr (.agg [.lit (.string [97, 32, 116, 101, 120, 116, 32, 111, 114, 32, 98, 121, 116, 101, 115, 32, 116, 104, 97, 116, 32, 99, 97, 110, 110, 111, 116, 32, 98, 101, 32, 114, 101, 97, 100])]))
def laid_copse_api_ErrMany {H : Type} : DataW H := .iface "*errors.errorString" (.ptr (.agg [.lit (.string [97, 98, 111, 118, 101, 32, 97, 32, 108, 105, 109, 105, 116])]))
def laid_copse_api_ErrShort {H : Type} : DataW H := .iface "*errors.errorString" (.ptr (.agg [.lit (.string [115, 111, 109, 101, 116, 104, 105, 110, 103, 32, 105, 115, 32, 109, 105, 115, 115, 105, 110, 103])]))
def laid_copse_api_ErrTwice {H : Type} : DataW H := .iface "*errors.errorString" (.ptr (.agg [.lit (.string [116, 104, 101, 114, 101, 32, 116, 119, 105, 99, 101])]))
def laid_copse_api_ErrLost {H : Type} : DataW H := .iface "*errors.errorString" (.ptr (.agg [.lit (.string [110, 111, 116, 32, 116, 104, 101, 114, 101])]))
def laid_copse_api_ErrFull {H : Type} : DataW H := .iface "*errors.errorString" (.ptr (.agg [.lit (.string [110, 111, 32, 114, 111, 111, 109, 32, 111, 110, 32, 116, 104, 101, 32, 100, 101, 118, 105, 99, 101])]))
def laid_copse_api_ErrDead {H : Type} : DataW H := .iface "*errors.errorString" (.ptr (.agg [.lit (.string [116, 104, 101, 32, 112, 111, 119, 101, 114, 32, 104, 97, 115, 32, 102, 97, 105, 108, 101, 100])]))
def laid_copse_api_ErrCorrupt {H : Type} : DataW H := .iface "*errors.errorString" (.ptr (.agg [.lit (.string [110, 111, 116, 32, 97, 32, 115, 116, 111, 114, 101])]))
def laid_copse_api_ErrStatus {H : Type} : DataW H := .iface "*errors.errorString" (.ptr (.agg [.lit (.string [110, 111, 116, 32, 110, 111, 119])]))
def laid_copse_api_ErrTxid {H : Type} : DataW H := .iface "*errors.errorString" (.ptr (.agg [.lit (.string [110, 111, 32, 102, 117, 114, 116, 104, 101, 114, 32, 116, 114, 97, 110, 115, 97, 99, 116, 105, 111, 110, 32, 104, 97, 115, 32, 97, 32, 110, 117, 109, 98, 101, 114])]))
def laid_copse_api_ErrOrder {H : Type} : DataW H := .iface "*errors.errorString" (.ptr (.agg [.lit (.string [110, 111, 116, 32, 105, 110, 32, 111, 114, 100, 101, 114])]))
def laid_copse_api_ErrKind {H : Type} : DataW H := .iface "*errors.errorString" (.ptr (.agg [.lit (.string [111, 102, 32, 97, 110, 111, 116, 104, 101, 114, 32, 107, 105, 110, 100])]))
def laid_copse_codec_steps {H : Type} : DataW H := .agg [.lit (.int .u32 0), .lit (.int .u32 274646895), .lit (.int .u32 549293790), .lit (.int .u32 820201905), .lit (.int .u32 1098587580), .lit (.int .u32 1361435347), .lit (.int .u32 1640403810), .lit (.int .u32 1905808397), .lit (.int .u32 2197175160), .lit (.int .u32 2460548119), .lit (.int .u32 2722870694), .lit (.int .u32 2987750089), .lit (.int .u32 3280807620), .lit (.int .u32 3553878443), .lit (.int .u32 3811616794), .lit (.int .u32 4084100981)]
def laid_math_bits_deBruijn64tab {H : Type} : DataW H := .agg [.lit (.int .u8 0), .lit (.int .u8 1), .lit (.int .u8 56), .lit (.int .u8 2), .lit (.int .u8 57), .lit (.int .u8 49), .lit (.int .u8 28), .lit (.int .u8 3), .lit (.int .u8 61), .lit (.int .u8 58), .lit (.int .u8 42), .lit (.int .u8 50), .lit (.int .u8 38), .lit (.int .u8 29), .lit (.int .u8 17), .lit (.int .u8 4), .lit (.int .u8 62), .lit (.int .u8 47), .lit (.int .u8 59), .lit (.int .u8 36), .lit (.int .u8 45), .lit (.int .u8 43), .lit (.int .u8 51), .lit (.int .u8 22), .lit (.int .u8 53), .lit (.int .u8 39), .lit (.int .u8 33), .lit (.int .u8 30), .lit (.int .u8 24), .lit (.int .u8 18), .lit (.int .u8 12), .lit (.int .u8 5), .lit (.int .u8 63), .lit (.int .u8 55), .lit (.int .u8 48), .lit (.int .u8 27), .lit (.int .u8 60), .lit (.int .u8 41), .lit (.int .u8 37), .lit (.int .u8 16), .lit (.int .u8 46), .lit (.int .u8 35), .lit (.int .u8 44), .lit (.int .u8 21), .lit (.int .u8 52), .lit (.int .u8 32), .lit (.int .u8 23), .lit (.int .u8 11), .lit (.int .u8 54), .lit (.int .u8 26), .lit (.int .u8 40), .lit (.int .u8 15), .lit (.int .u8 34), .lit (.int .u8 20), .lit (.int .u8 31), .lit (.int .u8 10), .lit (.int .u8 25), .lit (.int .u8 14), .lit (.int .u8 19), .lit (.int .u8 9), .lit (.int .u8 13), .lit (.int .u8 8), .lit (.int .u8 7), .lit (.int .u8 6)]
def laid_copse_sheet_head {H : Type} : DataW H := .agg [.agg [.lit (.int .i64 0), .lit (.int .i64 1)], .agg [.lit (.int .i64 2), .lit (.int .i64 2)], .agg [.lit (.int .i64 4), .lit (.int .i64 4)], .agg [.lit (.int .i64 8), .lit (.int .i64 8)]]

/-- 'copselaw19.DiffPatches': WHATEVER THE INPUT: true; the input reads as it did. -/
def diffPatchesSpec : ChangeSpec := { name := "diffPatches", fn := fun _ => fun
  | [d] => { results := [.lit (.bool true)], args := [d] }
  | _ => none }
def diffPatchesRow : OpenClaim := { program := "ytdkailccfcijiaadoor", sum := "0a712412afcd0485a5987ba70293b959ae856687e624912e0db515728c86f5a2", func := "copse/copselaw19.DiffPatches", spec := "diffPatches", unfollowed := true, recurses := true, named := ["copse/api.ErrOrder", "copse/api.ErrLost", "copse/api.ErrArg", "copse/api.ErrText", "copse/api.ErrMany", "copse/api.ErrShort", "copse/api.ErrTwice", "copse/api.ErrFull", "copse/api.ErrDead", "copse/api.ErrCorrupt", "copse/api.ErrStatus", "copse/api.ErrTxid", "copse/api.ErrKind"], apart := false, laid := [("copse/api.ErrArg", laid_copse_api_ErrArg), ("copse/api.ErrText", laid_copse_api_ErrText), ("copse/api.ErrMany", laid_copse_api_ErrMany), ("copse/api.ErrShort", laid_copse_api_ErrShort), ("copse/api.ErrTwice", laid_copse_api_ErrTwice), ("copse/api.ErrLost", laid_copse_api_ErrLost), ("copse/api.ErrFull", laid_copse_api_ErrFull), ("copse/api.ErrDead", laid_copse_api_ErrDead), ("copse/api.ErrCorrupt", laid_copse_api_ErrCorrupt), ("copse/api.ErrStatus", laid_copse_api_ErrStatus), ("copse/api.ErrTxid", laid_copse_api_ErrTxid), ("copse/api.ErrOrder", laid_copse_api_ErrOrder), ("copse/api.ErrKind", laid_copse_api_ErrKind)] }
def DiffPatchesSaid : Prop := diffPatchesRow.holds Tryd.pinned (OpenSpec.ofChange diffPatchesSpec)

/-- ITS FALSE NEIGHBOUR: 'it returns false'. Refute it at one input. -/
def diffPatchesWrong : ChangeSpec := { name := "diffPatches", fn := fun _ => fun
  | [d] => { results := [.lit (.bool false)], args := [d] }
  | _ => none }
def DiffPatchesWrongFalsely : Prop := diffPatchesRow.holds Tryd.pinned (OpenSpec.ofChange diffPatchesWrong)

/-- 'copselaw19.DiffLists': WHATEVER THE INPUT: true; the input reads as it did. -/
def diffListsSpec : ChangeSpec := { name := "diffLists", fn := fun _ => fun
  | [d] => { results := [.lit (.bool true)], args := [d] }
  | _ => none }
def diffListsRow : OpenClaim := { program := "ytdkailccfcijiaadoor", sum := "0a712412afcd0485a5987ba70293b959ae856687e624912e0db515728c86f5a2", func := "copse/copselaw19.DiffLists", spec := "diffLists", unfollowed := true, recurses := true, named := ["copse/api.ErrOrder", "copse/api.ErrArg", "copse/api.ErrText", "copse/api.ErrMany", "copse/api.ErrShort", "copse/api.ErrTwice", "copse/api.ErrLost", "copse/api.ErrFull", "copse/api.ErrDead", "copse/api.ErrCorrupt", "copse/api.ErrStatus", "copse/api.ErrTxid", "copse/api.ErrKind"], apart := false, laid := [("copse/api.ErrArg", laid_copse_api_ErrArg), ("copse/api.ErrText", laid_copse_api_ErrText), ("copse/api.ErrMany", laid_copse_api_ErrMany), ("copse/api.ErrShort", laid_copse_api_ErrShort), ("copse/api.ErrTwice", laid_copse_api_ErrTwice), ("copse/api.ErrLost", laid_copse_api_ErrLost), ("copse/api.ErrFull", laid_copse_api_ErrFull), ("copse/api.ErrDead", laid_copse_api_ErrDead), ("copse/api.ErrCorrupt", laid_copse_api_ErrCorrupt), ("copse/api.ErrStatus", laid_copse_api_ErrStatus), ("copse/api.ErrTxid", laid_copse_api_ErrTxid), ("copse/api.ErrOrder", laid_copse_api_ErrOrder), ("copse/api.ErrKind", laid_copse_api_ErrKind)] }
def DiffListsSaid : Prop := diffListsRow.holds Tryd.pinned (OpenSpec.ofChange diffListsSpec)

/-- ITS FALSE NEIGHBOUR: 'it returns false'. Refute it at one input. -/
def diffListsWrong : ChangeSpec := { name := "diffLists", fn := fun _ => fun
  | [d] => { results := [.lit (.bool false)], args := [d] }
  | _ => none }
def DiffListsWrongFalsely : Prop := diffListsRow.holds Tryd.pinned (OpenSpec.ofChange diffListsWrong)

/-- 'copselaw19.DiffComposes': WHATEVER THE INPUT: true; the input reads as it did. -/
def diffComposesSpec : ChangeSpec := { name := "diffComposes", fn := fun _ => fun
  | [d] => { results := [.lit (.bool true)], args := [d] }
  | _ => none }
def diffComposesRow : OpenClaim := { program := "ytdkailccfcijiaadoor", sum := "0a712412afcd0485a5987ba70293b959ae856687e624912e0db515728c86f5a2", func := "copse/copselaw19.DiffComposes", spec := "diffComposes", unfollowed := true, recurses := true, named := ["copse/api.ErrOrder", "copse/api.ErrLost", "copse/api.ErrArg", "copse/api.ErrText", "copse/api.ErrMany", "copse/api.ErrShort", "copse/api.ErrTwice", "copse/api.ErrFull", "copse/api.ErrDead", "copse/api.ErrCorrupt", "copse/api.ErrStatus", "copse/api.ErrTxid", "copse/api.ErrKind"], apart := false, laid := [("copse/api.ErrArg", laid_copse_api_ErrArg), ("copse/api.ErrText", laid_copse_api_ErrText), ("copse/api.ErrMany", laid_copse_api_ErrMany), ("copse/api.ErrShort", laid_copse_api_ErrShort), ("copse/api.ErrTwice", laid_copse_api_ErrTwice), ("copse/api.ErrLost", laid_copse_api_ErrLost), ("copse/api.ErrFull", laid_copse_api_ErrFull), ("copse/api.ErrDead", laid_copse_api_ErrDead), ("copse/api.ErrCorrupt", laid_copse_api_ErrCorrupt), ("copse/api.ErrStatus", laid_copse_api_ErrStatus), ("copse/api.ErrTxid", laid_copse_api_ErrTxid), ("copse/api.ErrOrder", laid_copse_api_ErrOrder), ("copse/api.ErrKind", laid_copse_api_ErrKind)] }
def DiffComposesSaid : Prop := diffComposesRow.holds Tryd.pinned (OpenSpec.ofChange diffComposesSpec)

/-- ITS FALSE NEIGHBOUR: 'it returns false'. Refute it at one input. -/
def diffComposesWrong : ChangeSpec := { name := "diffComposes", fn := fun _ => fun
  | [d] => { results := [.lit (.bool false)], args := [d] }
  | _ => none }
def DiffComposesWrongFalsely : Prop := diffComposesRow.holds Tryd.pinned (OpenSpec.ofChange diffComposesWrong)

/-- 'copselaw20.FeedSeals': WHATEVER THE INPUT: true; the input reads as it did. -/
def feedSealsSpec : ChangeSpec := { name := "feedSeals", fn := fun _ => fun
  | [d] => { results := [.lit (.bool true)], args := [d] }
  | _ => none }
def feedSealsRow : OpenClaim := { program := "ytdkailccfcijiaadoor", sum := "0a712412afcd0485a5987ba70293b959ae856687e624912e0db515728c86f5a2", func := "copse/copselaw20.FeedSeals", spec := "feedSeals", named := ["copse/api.ErrArg", "copse/api.ErrOrder", "copse/api.ErrKind", "copse/codec.steps", "copse/api.ErrText", "copse/api.ErrMany", "copse/api.ErrShort", "copse/api.ErrTwice", "copse/api.ErrLost", "copse/api.ErrFull", "copse/api.ErrDead", "copse/api.ErrCorrupt", "copse/api.ErrStatus", "copse/api.ErrTxid"], apart := false, laid := [("copse/api.ErrArg", laid_copse_api_ErrArg), ("copse/api.ErrText", laid_copse_api_ErrText), ("copse/api.ErrMany", laid_copse_api_ErrMany), ("copse/api.ErrShort", laid_copse_api_ErrShort), ("copse/api.ErrTwice", laid_copse_api_ErrTwice), ("copse/api.ErrLost", laid_copse_api_ErrLost), ("copse/api.ErrFull", laid_copse_api_ErrFull), ("copse/api.ErrDead", laid_copse_api_ErrDead), ("copse/api.ErrCorrupt", laid_copse_api_ErrCorrupt), ("copse/api.ErrStatus", laid_copse_api_ErrStatus), ("copse/api.ErrTxid", laid_copse_api_ErrTxid), ("copse/api.ErrOrder", laid_copse_api_ErrOrder), ("copse/api.ErrKind", laid_copse_api_ErrKind), ("copse/codec.steps", laid_copse_codec_steps)] }
def FeedSealsSaid : Prop := feedSealsRow.holds Tryd.pinned (OpenSpec.ofChange feedSealsSpec)

/-- ITS FALSE NEIGHBOUR: 'it returns false'. Refute it at one input. -/
def feedSealsWrong : ChangeSpec := { name := "feedSeals", fn := fun _ => fun
  | [d] => { results := [.lit (.bool false)], args := [d] }
  | _ => none }
def FeedSealsWrongFalsely : Prop := feedSealsRow.holds Tryd.pinned (OpenSpec.ofChange feedSealsWrong)

/-- 'copselaw19.DiffBack': WHATEVER THE INPUT: true; the input reads as it did. -/
def diffBackSpec : ChangeSpec := { name := "diffBack", fn := fun _ => fun
  | [d] => { results := [.lit (.bool true)], args := [d] }
  | _ => none }
def diffBackRow : OpenClaim := { program := "ytdkailccfcijiaadoor", sum := "0a712412afcd0485a5987ba70293b959ae856687e624912e0db515728c86f5a2", func := "copse/copselaw19.DiffBack", spec := "diffBack", unfollowed := true, recurses := true, named := ["copse/api.ErrLost", "copse/api.ErrOrder"], apart := false, laid := [("copse/api.ErrLost", laid_copse_api_ErrLost), ("copse/api.ErrOrder", laid_copse_api_ErrOrder)] }
def DiffBackSaid : Prop := diffBackRow.holds Tryd.pinned (OpenSpec.ofChange diffBackSpec)

/-- ITS FALSE NEIGHBOUR: 'it returns false'. Refute it at one input. -/
def diffBackWrong : ChangeSpec := { name := "diffBack", fn := fun _ => fun
  | [d] => { results := [.lit (.bool false)], args := [d] }
  | _ => none }
def DiffBackWrongFalsely : Prop := diffBackRow.holds Tryd.pinned (OpenSpec.ofChange diffBackWrong)

/-- 'copselaw19.DiffAgain': WHATEVER THE INPUT: true; the input reads as it did. -/
def diffAgainSpec : ChangeSpec := { name := "diffAgain", fn := fun _ => fun
  | [d] => { results := [.lit (.bool true)], args := [d] }
  | _ => none }
def diffAgainRow : OpenClaim := { program := "ytdkailccfcijiaadoor", sum := "0a712412afcd0485a5987ba70293b959ae856687e624912e0db515728c86f5a2", func := "copse/copselaw19.DiffAgain", spec := "diffAgain", unfollowed := true, recurses := true, named := ["copse/api.ErrOrder", "copse/api.ErrLost"], apart := false, laid := [("copse/api.ErrLost", laid_copse_api_ErrLost), ("copse/api.ErrOrder", laid_copse_api_ErrOrder)] }
def DiffAgainSaid : Prop := diffAgainRow.holds Tryd.pinned (OpenSpec.ofChange diffAgainSpec)

/-- ITS FALSE NEIGHBOUR: 'it returns false'. Refute it at one input. -/
def diffAgainWrong : ChangeSpec := { name := "diffAgain", fn := fun _ => fun
  | [d] => { results := [.lit (.bool false)], args := [d] }
  | _ => none }
def DiffAgainWrongFalsely : Prop := diffAgainRow.holds Tryd.pinned (OpenSpec.ofChange diffAgainWrong)

/-- 'copselaw19.DiffChain': WHATEVER THE INPUT: true; the input reads as it did. -/
def diffChainSpec : ChangeSpec := { name := "diffChain", fn := fun _ => fun
  | [d] => { results := [.lit (.bool true)], args := [d] }
  | _ => none }
def diffChainRow : OpenClaim := { program := "ytdkailccfcijiaadoor", sum := "0a712412afcd0485a5987ba70293b959ae856687e624912e0db515728c86f5a2", func := "copse/copselaw19.DiffChain", spec := "diffChain", unfollowed := true, recurses := true, named := ["copse/api.ErrLost", "copse/api.ErrOrder"], apart := false, laid := [("copse/api.ErrLost", laid_copse_api_ErrLost), ("copse/api.ErrOrder", laid_copse_api_ErrOrder)] }
def DiffChainSaid : Prop := diffChainRow.holds Tryd.pinned (OpenSpec.ofChange diffChainSpec)

/-- ITS FALSE NEIGHBOUR: 'it returns false'. Refute it at one input. -/
def diffChainWrong : ChangeSpec := { name := "diffChain", fn := fun _ => fun
  | [d] => { results := [.lit (.bool false)], args := [d] }
  | _ => none }
def DiffChainWrongFalsely : Prop := diffChainRow.holds Tryd.pinned (OpenSpec.ofChange diffChainWrong)

/-- 'copselaw9.FreeBook': WHATEVER THE INPUT: true; the input reads as it did. -/
def freeBookSpec : ChangeSpec := { name := "freeBook", fn := fun _ => fun
  | [d] => { results := [.lit (.bool true)], args := [d] }
  | _ => none }
def freeBookRow : OpenClaim := { program := "ytdkailccfcijiaadoor", sum := "0a712412afcd0485a5987ba70293b959ae856687e624912e0db515728c86f5a2", func := "copse/copselaw9.FreeBook", spec := "freeBook", named := ["copse/api.ErrArg", "copse/api.ErrFull", "copse/api.ErrTwice", "math/bits.deBruijn64tab", "copse/api.ErrLost", "copse/api.ErrText", "copse/api.ErrMany", "copse/api.ErrShort", "copse/api.ErrDead", "copse/api.ErrCorrupt", "copse/api.ErrStatus", "copse/api.ErrTxid", "copse/api.ErrOrder", "copse/api.ErrKind"], apart := false, laid := [("math/bits.deBruijn64tab", laid_math_bits_deBruijn64tab), ("copse/api.ErrArg", laid_copse_api_ErrArg), ("copse/api.ErrText", laid_copse_api_ErrText), ("copse/api.ErrMany", laid_copse_api_ErrMany), ("copse/api.ErrShort", laid_copse_api_ErrShort), ("copse/api.ErrTwice", laid_copse_api_ErrTwice), ("copse/api.ErrLost", laid_copse_api_ErrLost), ("copse/api.ErrFull", laid_copse_api_ErrFull), ("copse/api.ErrDead", laid_copse_api_ErrDead), ("copse/api.ErrCorrupt", laid_copse_api_ErrCorrupt), ("copse/api.ErrStatus", laid_copse_api_ErrStatus), ("copse/api.ErrTxid", laid_copse_api_ErrTxid), ("copse/api.ErrOrder", laid_copse_api_ErrOrder), ("copse/api.ErrKind", laid_copse_api_ErrKind)] }
def FreeBookSaid : Prop := freeBookRow.holds Tryd.pinned (OpenSpec.ofChange freeBookSpec)

/-- ITS FALSE NEIGHBOUR: 'it returns false'. Refute it at one input. -/
def freeBookWrong : ChangeSpec := { name := "freeBook", fn := fun _ => fun
  | [d] => { results := [.lit (.bool false)], args := [d] }
  | _ => none }
def FreeBookWrongFalsely : Prop := freeBookRow.holds Tryd.pinned (OpenSpec.ofChange freeBookWrong)

/-- 'copselaw9.FreeSame': WHATEVER THE INPUT: true; the input reads as it did. -/
def freeSameSpec : ChangeSpec := { name := "freeSame", fn := fun _ => fun
  | [d] => { results := [.lit (.bool true)], args := [d] }
  | _ => none }
def freeSameRow : OpenClaim := { program := "ytdkailccfcijiaadoor", sum := "0a712412afcd0485a5987ba70293b959ae856687e624912e0db515728c86f5a2", func := "copse/copselaw9.FreeSame", spec := "freeSame", named := ["copse/api.ErrArg", "copse/api.ErrFull", "copse/api.ErrTwice", "math/bits.deBruijn64tab", "copse/api.ErrLost", "copse/api.ErrText", "copse/api.ErrMany", "copse/api.ErrShort", "copse/api.ErrDead", "copse/api.ErrCorrupt", "copse/api.ErrStatus", "copse/api.ErrTxid", "copse/api.ErrOrder", "copse/api.ErrKind"], apart := false, laid := [("math/bits.deBruijn64tab", laid_math_bits_deBruijn64tab), ("copse/api.ErrArg", laid_copse_api_ErrArg), ("copse/api.ErrText", laid_copse_api_ErrText), ("copse/api.ErrMany", laid_copse_api_ErrMany), ("copse/api.ErrShort", laid_copse_api_ErrShort), ("copse/api.ErrTwice", laid_copse_api_ErrTwice), ("copse/api.ErrLost", laid_copse_api_ErrLost), ("copse/api.ErrFull", laid_copse_api_ErrFull), ("copse/api.ErrDead", laid_copse_api_ErrDead), ("copse/api.ErrCorrupt", laid_copse_api_ErrCorrupt), ("copse/api.ErrStatus", laid_copse_api_ErrStatus), ("copse/api.ErrTxid", laid_copse_api_ErrTxid), ("copse/api.ErrOrder", laid_copse_api_ErrOrder), ("copse/api.ErrKind", laid_copse_api_ErrKind)] }
def FreeSameSaid : Prop := freeSameRow.holds Tryd.pinned (OpenSpec.ofChange freeSameSpec)

/-- ITS FALSE NEIGHBOUR: 'it returns false'. Refute it at one input. -/
def freeSameWrong : ChangeSpec := { name := "freeSame", fn := fun _ => fun
  | [d] => { results := [.lit (.bool false)], args := [d] }
  | _ => none }
def FreeSameWrongFalsely : Prop := freeSameRow.holds Tryd.pinned (OpenSpec.ofChange freeSameWrong)

/-- 'copselaw9.FreePlays': WHATEVER THE INPUT: true; the input reads as it did. -/
def freePlaysSpec : ChangeSpec := { name := "freePlays", fn := fun _ => fun
  | [d] => { results := [.lit (.bool true)], args := [d] }
  | _ => none }
def freePlaysRow : OpenClaim := { program := "ytdkailccfcijiaadoor", sum := "0a712412afcd0485a5987ba70293b959ae856687e624912e0db515728c86f5a2", func := "copse/copselaw9.FreePlays", spec := "freePlays", named := ["copse/api.ErrArg", "copse/api.ErrText", "copse/api.ErrMany", "copse/api.ErrShort", "copse/api.ErrTwice", "copse/api.ErrLost", "copse/api.ErrFull", "copse/api.ErrDead", "copse/api.ErrCorrupt", "copse/api.ErrStatus", "copse/api.ErrTxid", "copse/api.ErrOrder", "copse/api.ErrKind", "math/bits.deBruijn64tab"], apart := false, laid := [("math/bits.deBruijn64tab", laid_math_bits_deBruijn64tab), ("copse/api.ErrArg", laid_copse_api_ErrArg), ("copse/api.ErrText", laid_copse_api_ErrText), ("copse/api.ErrMany", laid_copse_api_ErrMany), ("copse/api.ErrShort", laid_copse_api_ErrShort), ("copse/api.ErrTwice", laid_copse_api_ErrTwice), ("copse/api.ErrLost", laid_copse_api_ErrLost), ("copse/api.ErrFull", laid_copse_api_ErrFull), ("copse/api.ErrDead", laid_copse_api_ErrDead), ("copse/api.ErrCorrupt", laid_copse_api_ErrCorrupt), ("copse/api.ErrStatus", laid_copse_api_ErrStatus), ("copse/api.ErrTxid", laid_copse_api_ErrTxid), ("copse/api.ErrOrder", laid_copse_api_ErrOrder), ("copse/api.ErrKind", laid_copse_api_ErrKind)] }
def FreePlaysSaid : Prop := freePlaysRow.holds Tryd.pinned (OpenSpec.ofChange freePlaysSpec)

/-- ITS FALSE NEIGHBOUR: 'it returns false'. Refute it at one input. -/
def freePlaysWrong : ChangeSpec := { name := "freePlays", fn := fun _ => fun
  | [d] => { results := [.lit (.bool false)], args := [d] }
  | _ => none }
def FreePlaysWrongFalsely : Prop := freePlaysRow.holds Tryd.pinned (OpenSpec.ofChange freePlaysWrong)

/-- 'copselaw9.FreeCopies': WHATEVER THE INPUT: true; the input reads as it did. -/
def freeCopiesSpec : ChangeSpec := { name := "freeCopies", fn := fun _ => fun
  | [d] => { results := [.lit (.bool true)], args := [d] }
  | _ => none }
def freeCopiesRow : OpenClaim := { program := "ytdkailccfcijiaadoor", sum := "0a712412afcd0485a5987ba70293b959ae856687e624912e0db515728c86f5a2", func := "copse/copselaw9.FreeCopies", spec := "freeCopies", named := ["copse/api.ErrArg", "copse/api.ErrFull", "copse/api.ErrTwice", "math/bits.deBruijn64tab", "copse/api.ErrLost", "copse/api.ErrText", "copse/api.ErrMany", "copse/api.ErrShort", "copse/api.ErrDead", "copse/api.ErrCorrupt", "copse/api.ErrStatus", "copse/api.ErrTxid", "copse/api.ErrOrder", "copse/api.ErrKind"], apart := false, laid := [("math/bits.deBruijn64tab", laid_math_bits_deBruijn64tab), ("copse/api.ErrArg", laid_copse_api_ErrArg), ("copse/api.ErrText", laid_copse_api_ErrText), ("copse/api.ErrMany", laid_copse_api_ErrMany), ("copse/api.ErrShort", laid_copse_api_ErrShort), ("copse/api.ErrTwice", laid_copse_api_ErrTwice), ("copse/api.ErrLost", laid_copse_api_ErrLost), ("copse/api.ErrFull", laid_copse_api_ErrFull), ("copse/api.ErrDead", laid_copse_api_ErrDead), ("copse/api.ErrCorrupt", laid_copse_api_ErrCorrupt), ("copse/api.ErrStatus", laid_copse_api_ErrStatus), ("copse/api.ErrTxid", laid_copse_api_ErrTxid), ("copse/api.ErrOrder", laid_copse_api_ErrOrder), ("copse/api.ErrKind", laid_copse_api_ErrKind)] }
def FreeCopiesSaid : Prop := freeCopiesRow.holds Tryd.pinned (OpenSpec.ofChange freeCopiesSpec)

/-- ITS FALSE NEIGHBOUR: 'it returns false'. Refute it at one input. -/
def freeCopiesWrong : ChangeSpec := { name := "freeCopies", fn := fun _ => fun
  | [d] => { results := [.lit (.bool false)], args := [d] }
  | _ => none }
def FreeCopiesWrongFalsely : Prop := freeCopiesRow.holds Tryd.pinned (OpenSpec.ofChange freeCopiesWrong)

/-- 'copselaw9.FreeGives': WHATEVER THE INPUT: true; the input reads as it did. -/
def freeGivesSpec : ChangeSpec := { name := "freeGives", fn := fun _ => fun
  | [d] => { results := [.lit (.bool true)], args := [d] }
  | _ => none }
def freeGivesRow : OpenClaim := { program := "ytdkailccfcijiaadoor", sum := "0a712412afcd0485a5987ba70293b959ae856687e624912e0db515728c86f5a2", func := "copse/copselaw9.FreeGives", spec := "freeGives", named := ["copse/api.ErrArg", "copse/api.ErrFull", "copse/api.ErrTwice", "math/bits.deBruijn64tab", "copse/api.ErrLost", "copse/api.ErrText", "copse/api.ErrMany", "copse/api.ErrShort", "copse/api.ErrDead", "copse/api.ErrCorrupt", "copse/api.ErrStatus", "copse/api.ErrTxid", "copse/api.ErrOrder", "copse/api.ErrKind"], apart := false, laid := [("math/bits.deBruijn64tab", laid_math_bits_deBruijn64tab), ("copse/api.ErrArg", laid_copse_api_ErrArg), ("copse/api.ErrText", laid_copse_api_ErrText), ("copse/api.ErrMany", laid_copse_api_ErrMany), ("copse/api.ErrShort", laid_copse_api_ErrShort), ("copse/api.ErrTwice", laid_copse_api_ErrTwice), ("copse/api.ErrLost", laid_copse_api_ErrLost), ("copse/api.ErrFull", laid_copse_api_ErrFull), ("copse/api.ErrDead", laid_copse_api_ErrDead), ("copse/api.ErrCorrupt", laid_copse_api_ErrCorrupt), ("copse/api.ErrStatus", laid_copse_api_ErrStatus), ("copse/api.ErrTxid", laid_copse_api_ErrTxid), ("copse/api.ErrOrder", laid_copse_api_ErrOrder), ("copse/api.ErrKind", laid_copse_api_ErrKind)] }
def FreeGivesSaid : Prop := freeGivesRow.holds Tryd.pinned (OpenSpec.ofChange freeGivesSpec)

/-- ITS FALSE NEIGHBOUR: 'it returns false'. Refute it at one input. -/
def freeGivesWrong : ChangeSpec := { name := "freeGives", fn := fun _ => fun
  | [d] => { results := [.lit (.bool false)], args := [d] }
  | _ => none }
def FreeGivesWrongFalsely : Prop := freeGivesRow.holds Tryd.pinned (OpenSpec.ofChange freeGivesWrong)

/-- 'copselaw23.BackupChecks': WHATEVER THE INPUT: true; the input reads as it did. -/
def backupChecksSpec : ChangeSpec := { name := "backupChecks", fn := fun _ => fun
  | [d] => { results := [.lit (.bool true)], args := [d] }
  | _ => none }
def backupChecksRow : OpenClaim := { program := "ytdkailccfcijiaadoor", sum := "0a712412afcd0485a5987ba70293b959ae856687e624912e0db515728c86f5a2", func := "copse/copselaw23.BackupChecks", spec := "backupChecks", unfollowed := true, recurses := true, named := ["copse/api.ErrText", "copse/api.ErrArg", "copse/codec.steps", "copse/sheet.head", "copse/api.ErrMany", "copse/api.ErrShort", "copse/api.ErrTwice", "copse/api.ErrLost", "copse/api.ErrFull", "copse/api.ErrDead", "copse/api.ErrCorrupt", "copse/api.ErrStatus", "copse/api.ErrTxid", "copse/api.ErrOrder", "copse/api.ErrKind"], apart := false, laid := [("copse/api.ErrArg", laid_copse_api_ErrArg), ("copse/api.ErrText", laid_copse_api_ErrText), ("copse/api.ErrMany", laid_copse_api_ErrMany), ("copse/api.ErrShort", laid_copse_api_ErrShort), ("copse/api.ErrTwice", laid_copse_api_ErrTwice), ("copse/api.ErrLost", laid_copse_api_ErrLost), ("copse/api.ErrFull", laid_copse_api_ErrFull), ("copse/api.ErrDead", laid_copse_api_ErrDead), ("copse/api.ErrCorrupt", laid_copse_api_ErrCorrupt), ("copse/api.ErrStatus", laid_copse_api_ErrStatus), ("copse/api.ErrTxid", laid_copse_api_ErrTxid), ("copse/api.ErrOrder", laid_copse_api_ErrOrder), ("copse/api.ErrKind", laid_copse_api_ErrKind), ("copse/codec.steps", laid_copse_codec_steps), ("copse/sheet.head", laid_copse_sheet_head)] }
def BackupChecksSaid : Prop := backupChecksRow.holds Tryd.pinned (OpenSpec.ofChange backupChecksSpec)

/-- ITS FALSE NEIGHBOUR: 'it returns false'. Refute it at one input. -/
def backupChecksWrong : ChangeSpec := { name := "backupChecks", fn := fun _ => fun
  | [d] => { results := [.lit (.bool false)], args := [d] }
  | _ => none }
def BackupChecksWrongFalsely : Prop := backupChecksRow.holds Tryd.pinned (OpenSpec.ofChange backupChecksWrong)

/-- 'copselaw23.BackupMerges': WHATEVER THE INPUT: true; the input reads as it did. -/
def backupMergesSpec : ChangeSpec := { name := "backupMerges", fn := fun _ => fun
  | [d] => { results := [.lit (.bool true)], args := [d] }
  | _ => none }
def backupMergesRow : OpenClaim := { program := "ytdkailccfcijiaadoor", sum := "0a712412afcd0485a5987ba70293b959ae856687e624912e0db515728c86f5a2", func := "copse/copselaw23.BackupMerges", spec := "backupMerges", unfollowed := true, recurses := true, named := ["copse/api.ErrText", "copse/api.ErrArg", "copse/api.ErrKind", "copse/api.ErrOrder", "copse/api.ErrShort", "copse/api.ErrLost", "copse/codec.steps", "copse/sheet.head", "copse/api.ErrMany", "copse/api.ErrTwice", "copse/api.ErrFull", "copse/api.ErrDead", "copse/api.ErrCorrupt", "copse/api.ErrStatus", "copse/api.ErrTxid"], apart := false, laid := [("copse/api.ErrArg", laid_copse_api_ErrArg), ("copse/api.ErrText", laid_copse_api_ErrText), ("copse/api.ErrMany", laid_copse_api_ErrMany), ("copse/api.ErrShort", laid_copse_api_ErrShort), ("copse/api.ErrTwice", laid_copse_api_ErrTwice), ("copse/api.ErrLost", laid_copse_api_ErrLost), ("copse/api.ErrFull", laid_copse_api_ErrFull), ("copse/api.ErrDead", laid_copse_api_ErrDead), ("copse/api.ErrCorrupt", laid_copse_api_ErrCorrupt), ("copse/api.ErrStatus", laid_copse_api_ErrStatus), ("copse/api.ErrTxid", laid_copse_api_ErrTxid), ("copse/api.ErrOrder", laid_copse_api_ErrOrder), ("copse/api.ErrKind", laid_copse_api_ErrKind), ("copse/codec.steps", laid_copse_codec_steps), ("copse/sheet.head", laid_copse_sheet_head)] }
def BackupMergesSaid : Prop := backupMergesRow.holds Tryd.pinned (OpenSpec.ofChange backupMergesSpec)

/-- ITS FALSE NEIGHBOUR: 'it returns false'. Refute it at one input. -/
def backupMergesWrong : ChangeSpec := { name := "backupMerges", fn := fun _ => fun
  | [d] => { results := [.lit (.bool false)], args := [d] }
  | _ => none }
def BackupMergesWrongFalsely : Prop := backupMergesRow.holds Tryd.pinned (OpenSpec.ofChange backupMergesWrong)

/- THE SECOND FORM. 'bulk': how many values and letters a reading holds, each counted each time it is reached (what is shared counts as often as it is met; a slice's spare places count too). A statement '..UptoSaid' is the law's where the arguments, and the package variables that the reading takes, are together of bulk at most 1048576: NARROWER than '..Said'. Prove '..Said' where nothing that the law and all that it calls make is longer than what came in: it says more and counts as full. Else prove '..UptoSaid'. A law counts once. -/
mutual
def uptoBulk {H : Type} : DataW H → Nat
  | .lit (.string bytes) => bytes.length + 1
  | .lit _ => 1
  | .nil => 1
  | .ptr d => uptoBulk d + 1
  | .slice elems spare => uptoBulkAll elems + uptoBulkAll spare + 1
  | .agg parts => uptoBulkAll parts + 1
  | .iface _ d => uptoBulk d + 1
  | .map entries => uptoBulkEntries entries + 1
  | .held _ => 1
def uptoBulkAll {H : Type} : List (DataW H) → Nat
  | [] => 0
  | d :: r => uptoBulk d + uptoBulkAll r
def uptoBulkEntries {H : Type} : List (Lit × DataW H) → Nat
  | [] => 0
  | x :: r => uptoBulkEntry x + uptoBulkEntries r
def uptoBulkEntry {H : Type} : Lit × DataW H → Nat
  | (.string bytes, d) => bytes.length + uptoBulk d + 1
  | (_, d) => uptoBulk d + 1
 end
def uptoSmall : (H : Type) → List (DataW H) → Bool := fun _ ds => decide (uptoBulkAll ds ≤ 1048576)
def OpenSpec.upto (s : _root_.Go.ChangeSpec) : _root_.Go.OpenSpec := { _root_.Go.OpenSpec.ofChange s with cond := some uptoSmall }

/-- 'copselaw19.DiffPatches', WHERE WHAT IT READS IS OF BULK AT MOST 1048576: true; the input reads as it did. -/
def diffPatchesUptoRow : OpenClaim := { program := "ytdkailccfcijiaadoor", sum := "0a712412afcd0485a5987ba70293b959ae856687e624912e0db515728c86f5a2", func := "copse/copselaw19.DiffPatches", spec := "diffPatches", unfollowed := true, recurses := true, named := ["copse/api.ErrOrder", "copse/api.ErrLost", "copse/api.ErrArg", "copse/api.ErrText", "copse/api.ErrMany", "copse/api.ErrShort", "copse/api.ErrTwice", "copse/api.ErrFull", "copse/api.ErrDead", "copse/api.ErrCorrupt", "copse/api.ErrStatus", "copse/api.ErrTxid", "copse/api.ErrKind"], apart := false, laid := [("copse/api.ErrArg", laid_copse_api_ErrArg), ("copse/api.ErrText", laid_copse_api_ErrText), ("copse/api.ErrMany", laid_copse_api_ErrMany), ("copse/api.ErrShort", laid_copse_api_ErrShort), ("copse/api.ErrTwice", laid_copse_api_ErrTwice), ("copse/api.ErrLost", laid_copse_api_ErrLost), ("copse/api.ErrFull", laid_copse_api_ErrFull), ("copse/api.ErrDead", laid_copse_api_ErrDead), ("copse/api.ErrCorrupt", laid_copse_api_ErrCorrupt), ("copse/api.ErrStatus", laid_copse_api_ErrStatus), ("copse/api.ErrTxid", laid_copse_api_ErrTxid), ("copse/api.ErrOrder", laid_copse_api_ErrOrder), ("copse/api.ErrKind", laid_copse_api_ErrKind)], narrowed := true }
def DiffPatchesUptoSaid : Prop := diffPatchesUptoRow.holds Tryd.pinned (OpenSpec.upto diffPatchesSpec)

/-- 'copselaw19.DiffLists', WHERE WHAT IT READS IS OF BULK AT MOST 1048576: true; the input reads as it did. -/
def diffListsUptoRow : OpenClaim := { program := "ytdkailccfcijiaadoor", sum := "0a712412afcd0485a5987ba70293b959ae856687e624912e0db515728c86f5a2", func := "copse/copselaw19.DiffLists", spec := "diffLists", unfollowed := true, recurses := true, named := ["copse/api.ErrOrder", "copse/api.ErrArg", "copse/api.ErrText", "copse/api.ErrMany", "copse/api.ErrShort", "copse/api.ErrTwice", "copse/api.ErrLost", "copse/api.ErrFull", "copse/api.ErrDead", "copse/api.ErrCorrupt", "copse/api.ErrStatus", "copse/api.ErrTxid", "copse/api.ErrKind"], apart := false, laid := [("copse/api.ErrArg", laid_copse_api_ErrArg), ("copse/api.ErrText", laid_copse_api_ErrText), ("copse/api.ErrMany", laid_copse_api_ErrMany), ("copse/api.ErrShort", laid_copse_api_ErrShort), ("copse/api.ErrTwice", laid_copse_api_ErrTwice), ("copse/api.ErrLost", laid_copse_api_ErrLost), ("copse/api.ErrFull", laid_copse_api_ErrFull), ("copse/api.ErrDead", laid_copse_api_ErrDead), ("copse/api.ErrCorrupt", laid_copse_api_ErrCorrupt), ("copse/api.ErrStatus", laid_copse_api_ErrStatus), ("copse/api.ErrTxid", laid_copse_api_ErrTxid), ("copse/api.ErrOrder", laid_copse_api_ErrOrder), ("copse/api.ErrKind", laid_copse_api_ErrKind)], narrowed := true }
def DiffListsUptoSaid : Prop := diffListsUptoRow.holds Tryd.pinned (OpenSpec.upto diffListsSpec)

/-- 'copselaw19.DiffComposes', WHERE WHAT IT READS IS OF BULK AT MOST 1048576: true; the input reads as it did. -/
def diffComposesUptoRow : OpenClaim := { program := "ytdkailccfcijiaadoor", sum := "0a712412afcd0485a5987ba70293b959ae856687e624912e0db515728c86f5a2", func := "copse/copselaw19.DiffComposes", spec := "diffComposes", unfollowed := true, recurses := true, named := ["copse/api.ErrOrder", "copse/api.ErrLost", "copse/api.ErrArg", "copse/api.ErrText", "copse/api.ErrMany", "copse/api.ErrShort", "copse/api.ErrTwice", "copse/api.ErrFull", "copse/api.ErrDead", "copse/api.ErrCorrupt", "copse/api.ErrStatus", "copse/api.ErrTxid", "copse/api.ErrKind"], apart := false, laid := [("copse/api.ErrArg", laid_copse_api_ErrArg), ("copse/api.ErrText", laid_copse_api_ErrText), ("copse/api.ErrMany", laid_copse_api_ErrMany), ("copse/api.ErrShort", laid_copse_api_ErrShort), ("copse/api.ErrTwice", laid_copse_api_ErrTwice), ("copse/api.ErrLost", laid_copse_api_ErrLost), ("copse/api.ErrFull", laid_copse_api_ErrFull), ("copse/api.ErrDead", laid_copse_api_ErrDead), ("copse/api.ErrCorrupt", laid_copse_api_ErrCorrupt), ("copse/api.ErrStatus", laid_copse_api_ErrStatus), ("copse/api.ErrTxid", laid_copse_api_ErrTxid), ("copse/api.ErrOrder", laid_copse_api_ErrOrder), ("copse/api.ErrKind", laid_copse_api_ErrKind)], narrowed := true }
def DiffComposesUptoSaid : Prop := diffComposesUptoRow.holds Tryd.pinned (OpenSpec.upto diffComposesSpec)

/-- 'copselaw20.FeedSeals', WHERE WHAT IT READS IS OF BULK AT MOST 1048576: true; the input reads as it did. -/
def feedSealsUptoRow : OpenClaim := { program := "ytdkailccfcijiaadoor", sum := "0a712412afcd0485a5987ba70293b959ae856687e624912e0db515728c86f5a2", func := "copse/copselaw20.FeedSeals", spec := "feedSeals", named := ["copse/api.ErrArg", "copse/api.ErrOrder", "copse/api.ErrKind", "copse/codec.steps", "copse/api.ErrText", "copse/api.ErrMany", "copse/api.ErrShort", "copse/api.ErrTwice", "copse/api.ErrLost", "copse/api.ErrFull", "copse/api.ErrDead", "copse/api.ErrCorrupt", "copse/api.ErrStatus", "copse/api.ErrTxid"], apart := false, laid := [("copse/api.ErrArg", laid_copse_api_ErrArg), ("copse/api.ErrText", laid_copse_api_ErrText), ("copse/api.ErrMany", laid_copse_api_ErrMany), ("copse/api.ErrShort", laid_copse_api_ErrShort), ("copse/api.ErrTwice", laid_copse_api_ErrTwice), ("copse/api.ErrLost", laid_copse_api_ErrLost), ("copse/api.ErrFull", laid_copse_api_ErrFull), ("copse/api.ErrDead", laid_copse_api_ErrDead), ("copse/api.ErrCorrupt", laid_copse_api_ErrCorrupt), ("copse/api.ErrStatus", laid_copse_api_ErrStatus), ("copse/api.ErrTxid", laid_copse_api_ErrTxid), ("copse/api.ErrOrder", laid_copse_api_ErrOrder), ("copse/api.ErrKind", laid_copse_api_ErrKind), ("copse/codec.steps", laid_copse_codec_steps)], narrowed := true }
def FeedSealsUptoSaid : Prop := feedSealsUptoRow.holds Tryd.pinned (OpenSpec.upto feedSealsSpec)

/-- 'copselaw19.DiffBack', WHERE WHAT IT READS IS OF BULK AT MOST 1048576: true; the input reads as it did. -/
def diffBackUptoRow : OpenClaim := { program := "ytdkailccfcijiaadoor", sum := "0a712412afcd0485a5987ba70293b959ae856687e624912e0db515728c86f5a2", func := "copse/copselaw19.DiffBack", spec := "diffBack", unfollowed := true, recurses := true, named := ["copse/api.ErrLost", "copse/api.ErrOrder"], apart := false, laid := [("copse/api.ErrLost", laid_copse_api_ErrLost), ("copse/api.ErrOrder", laid_copse_api_ErrOrder)], narrowed := true }
def DiffBackUptoSaid : Prop := diffBackUptoRow.holds Tryd.pinned (OpenSpec.upto diffBackSpec)

/-- 'copselaw19.DiffAgain', WHERE WHAT IT READS IS OF BULK AT MOST 1048576: true; the input reads as it did. -/
def diffAgainUptoRow : OpenClaim := { program := "ytdkailccfcijiaadoor", sum := "0a712412afcd0485a5987ba70293b959ae856687e624912e0db515728c86f5a2", func := "copse/copselaw19.DiffAgain", spec := "diffAgain", unfollowed := true, recurses := true, named := ["copse/api.ErrOrder", "copse/api.ErrLost"], apart := false, laid := [("copse/api.ErrLost", laid_copse_api_ErrLost), ("copse/api.ErrOrder", laid_copse_api_ErrOrder)], narrowed := true }
def DiffAgainUptoSaid : Prop := diffAgainUptoRow.holds Tryd.pinned (OpenSpec.upto diffAgainSpec)

/-- 'copselaw19.DiffChain', WHERE WHAT IT READS IS OF BULK AT MOST 1048576: true; the input reads as it did. -/
def diffChainUptoRow : OpenClaim := { program := "ytdkailccfcijiaadoor", sum := "0a712412afcd0485a5987ba70293b959ae856687e624912e0db515728c86f5a2", func := "copse/copselaw19.DiffChain", spec := "diffChain", unfollowed := true, recurses := true, named := ["copse/api.ErrLost", "copse/api.ErrOrder"], apart := false, laid := [("copse/api.ErrLost", laid_copse_api_ErrLost), ("copse/api.ErrOrder", laid_copse_api_ErrOrder)], narrowed := true }
def DiffChainUptoSaid : Prop := diffChainUptoRow.holds Tryd.pinned (OpenSpec.upto diffChainSpec)

/-- 'copselaw9.FreeBook', WHERE WHAT IT READS IS OF BULK AT MOST 1048576: true; the input reads as it did. -/
def freeBookUptoRow : OpenClaim := { program := "ytdkailccfcijiaadoor", sum := "0a712412afcd0485a5987ba70293b959ae856687e624912e0db515728c86f5a2", func := "copse/copselaw9.FreeBook", spec := "freeBook", named := ["copse/api.ErrArg", "copse/api.ErrFull", "copse/api.ErrTwice", "math/bits.deBruijn64tab", "copse/api.ErrLost", "copse/api.ErrText", "copse/api.ErrMany", "copse/api.ErrShort", "copse/api.ErrDead", "copse/api.ErrCorrupt", "copse/api.ErrStatus", "copse/api.ErrTxid", "copse/api.ErrOrder", "copse/api.ErrKind"], apart := false, laid := [("math/bits.deBruijn64tab", laid_math_bits_deBruijn64tab), ("copse/api.ErrArg", laid_copse_api_ErrArg), ("copse/api.ErrText", laid_copse_api_ErrText), ("copse/api.ErrMany", laid_copse_api_ErrMany), ("copse/api.ErrShort", laid_copse_api_ErrShort), ("copse/api.ErrTwice", laid_copse_api_ErrTwice), ("copse/api.ErrLost", laid_copse_api_ErrLost), ("copse/api.ErrFull", laid_copse_api_ErrFull), ("copse/api.ErrDead", laid_copse_api_ErrDead), ("copse/api.ErrCorrupt", laid_copse_api_ErrCorrupt), ("copse/api.ErrStatus", laid_copse_api_ErrStatus), ("copse/api.ErrTxid", laid_copse_api_ErrTxid), ("copse/api.ErrOrder", laid_copse_api_ErrOrder), ("copse/api.ErrKind", laid_copse_api_ErrKind)], narrowed := true }
def FreeBookUptoSaid : Prop := freeBookUptoRow.holds Tryd.pinned (OpenSpec.upto freeBookSpec)

/-- 'copselaw9.FreeSame', WHERE WHAT IT READS IS OF BULK AT MOST 1048576: true; the input reads as it did. -/
def freeSameUptoRow : OpenClaim := { program := "ytdkailccfcijiaadoor", sum := "0a712412afcd0485a5987ba70293b959ae856687e624912e0db515728c86f5a2", func := "copse/copselaw9.FreeSame", spec := "freeSame", named := ["copse/api.ErrArg", "copse/api.ErrFull", "copse/api.ErrTwice", "math/bits.deBruijn64tab", "copse/api.ErrLost", "copse/api.ErrText", "copse/api.ErrMany", "copse/api.ErrShort", "copse/api.ErrDead", "copse/api.ErrCorrupt", "copse/api.ErrStatus", "copse/api.ErrTxid", "copse/api.ErrOrder", "copse/api.ErrKind"], apart := false, laid := [("math/bits.deBruijn64tab", laid_math_bits_deBruijn64tab), ("copse/api.ErrArg", laid_copse_api_ErrArg), ("copse/api.ErrText", laid_copse_api_ErrText), ("copse/api.ErrMany", laid_copse_api_ErrMany), ("copse/api.ErrShort", laid_copse_api_ErrShort), ("copse/api.ErrTwice", laid_copse_api_ErrTwice), ("copse/api.ErrLost", laid_copse_api_ErrLost), ("copse/api.ErrFull", laid_copse_api_ErrFull), ("copse/api.ErrDead", laid_copse_api_ErrDead), ("copse/api.ErrCorrupt", laid_copse_api_ErrCorrupt), ("copse/api.ErrStatus", laid_copse_api_ErrStatus), ("copse/api.ErrTxid", laid_copse_api_ErrTxid), ("copse/api.ErrOrder", laid_copse_api_ErrOrder), ("copse/api.ErrKind", laid_copse_api_ErrKind)], narrowed := true }
def FreeSameUptoSaid : Prop := freeSameUptoRow.holds Tryd.pinned (OpenSpec.upto freeSameSpec)

/-- 'copselaw9.FreePlays', WHERE WHAT IT READS IS OF BULK AT MOST 1048576: true; the input reads as it did. -/
def freePlaysUptoRow : OpenClaim := { program := "ytdkailccfcijiaadoor", sum := "0a712412afcd0485a5987ba70293b959ae856687e624912e0db515728c86f5a2", func := "copse/copselaw9.FreePlays", spec := "freePlays", named := ["copse/api.ErrArg", "copse/api.ErrText", "copse/api.ErrMany", "copse/api.ErrShort", "copse/api.ErrTwice", "copse/api.ErrLost", "copse/api.ErrFull", "copse/api.ErrDead", "copse/api.ErrCorrupt", "copse/api.ErrStatus", "copse/api.ErrTxid", "copse/api.ErrOrder", "copse/api.ErrKind", "math/bits.deBruijn64tab"], apart := false, laid := [("math/bits.deBruijn64tab", laid_math_bits_deBruijn64tab), ("copse/api.ErrArg", laid_copse_api_ErrArg), ("copse/api.ErrText", laid_copse_api_ErrText), ("copse/api.ErrMany", laid_copse_api_ErrMany), ("copse/api.ErrShort", laid_copse_api_ErrShort), ("copse/api.ErrTwice", laid_copse_api_ErrTwice), ("copse/api.ErrLost", laid_copse_api_ErrLost), ("copse/api.ErrFull", laid_copse_api_ErrFull), ("copse/api.ErrDead", laid_copse_api_ErrDead), ("copse/api.ErrCorrupt", laid_copse_api_ErrCorrupt), ("copse/api.ErrStatus", laid_copse_api_ErrStatus), ("copse/api.ErrTxid", laid_copse_api_ErrTxid), ("copse/api.ErrOrder", laid_copse_api_ErrOrder), ("copse/api.ErrKind", laid_copse_api_ErrKind)], narrowed := true }
def FreePlaysUptoSaid : Prop := freePlaysUptoRow.holds Tryd.pinned (OpenSpec.upto freePlaysSpec)

/-- 'copselaw9.FreeCopies', WHERE WHAT IT READS IS OF BULK AT MOST 1048576: true; the input reads as it did. -/
def freeCopiesUptoRow : OpenClaim := { program := "ytdkailccfcijiaadoor", sum := "0a712412afcd0485a5987ba70293b959ae856687e624912e0db515728c86f5a2", func := "copse/copselaw9.FreeCopies", spec := "freeCopies", named := ["copse/api.ErrArg", "copse/api.ErrFull", "copse/api.ErrTwice", "math/bits.deBruijn64tab", "copse/api.ErrLost", "copse/api.ErrText", "copse/api.ErrMany", "copse/api.ErrShort", "copse/api.ErrDead", "copse/api.ErrCorrupt", "copse/api.ErrStatus", "copse/api.ErrTxid", "copse/api.ErrOrder", "copse/api.ErrKind"], apart := false, laid := [("math/bits.deBruijn64tab", laid_math_bits_deBruijn64tab), ("copse/api.ErrArg", laid_copse_api_ErrArg), ("copse/api.ErrText", laid_copse_api_ErrText), ("copse/api.ErrMany", laid_copse_api_ErrMany), ("copse/api.ErrShort", laid_copse_api_ErrShort), ("copse/api.ErrTwice", laid_copse_api_ErrTwice), ("copse/api.ErrLost", laid_copse_api_ErrLost), ("copse/api.ErrFull", laid_copse_api_ErrFull), ("copse/api.ErrDead", laid_copse_api_ErrDead), ("copse/api.ErrCorrupt", laid_copse_api_ErrCorrupt), ("copse/api.ErrStatus", laid_copse_api_ErrStatus), ("copse/api.ErrTxid", laid_copse_api_ErrTxid), ("copse/api.ErrOrder", laid_copse_api_ErrOrder), ("copse/api.ErrKind", laid_copse_api_ErrKind)], narrowed := true }
def FreeCopiesUptoSaid : Prop := freeCopiesUptoRow.holds Tryd.pinned (OpenSpec.upto freeCopiesSpec)

/-- 'copselaw9.FreeGives', WHERE WHAT IT READS IS OF BULK AT MOST 1048576: true; the input reads as it did. -/
def freeGivesUptoRow : OpenClaim := { program := "ytdkailccfcijiaadoor", sum := "0a712412afcd0485a5987ba70293b959ae856687e624912e0db515728c86f5a2", func := "copse/copselaw9.FreeGives", spec := "freeGives", named := ["copse/api.ErrArg", "copse/api.ErrFull", "copse/api.ErrTwice", "math/bits.deBruijn64tab", "copse/api.ErrLost", "copse/api.ErrText", "copse/api.ErrMany", "copse/api.ErrShort", "copse/api.ErrDead", "copse/api.ErrCorrupt", "copse/api.ErrStatus", "copse/api.ErrTxid", "copse/api.ErrOrder", "copse/api.ErrKind"], apart := false, laid := [("math/bits.deBruijn64tab", laid_math_bits_deBruijn64tab), ("copse/api.ErrArg", laid_copse_api_ErrArg), ("copse/api.ErrText", laid_copse_api_ErrText), ("copse/api.ErrMany", laid_copse_api_ErrMany), ("copse/api.ErrShort", laid_copse_api_ErrShort), ("copse/api.ErrTwice", laid_copse_api_ErrTwice), ("copse/api.ErrLost", laid_copse_api_ErrLost), ("copse/api.ErrFull", laid_copse_api_ErrFull), ("copse/api.ErrDead", laid_copse_api_ErrDead), ("copse/api.ErrCorrupt", laid_copse_api_ErrCorrupt), ("copse/api.ErrStatus", laid_copse_api_ErrStatus), ("copse/api.ErrTxid", laid_copse_api_ErrTxid), ("copse/api.ErrOrder", laid_copse_api_ErrOrder), ("copse/api.ErrKind", laid_copse_api_ErrKind)], narrowed := true }
def FreeGivesUptoSaid : Prop := freeGivesUptoRow.holds Tryd.pinned (OpenSpec.upto freeGivesSpec)

/-- 'copselaw23.BackupChecks', WHERE WHAT IT READS IS OF BULK AT MOST 1048576: true; the input reads as it did. -/
def backupChecksUptoRow : OpenClaim := { program := "ytdkailccfcijiaadoor", sum := "0a712412afcd0485a5987ba70293b959ae856687e624912e0db515728c86f5a2", func := "copse/copselaw23.BackupChecks", spec := "backupChecks", unfollowed := true, recurses := true, named := ["copse/api.ErrText", "copse/api.ErrArg", "copse/codec.steps", "copse/sheet.head", "copse/api.ErrMany", "copse/api.ErrShort", "copse/api.ErrTwice", "copse/api.ErrLost", "copse/api.ErrFull", "copse/api.ErrDead", "copse/api.ErrCorrupt", "copse/api.ErrStatus", "copse/api.ErrTxid", "copse/api.ErrOrder", "copse/api.ErrKind"], apart := false, laid := [("copse/api.ErrArg", laid_copse_api_ErrArg), ("copse/api.ErrText", laid_copse_api_ErrText), ("copse/api.ErrMany", laid_copse_api_ErrMany), ("copse/api.ErrShort", laid_copse_api_ErrShort), ("copse/api.ErrTwice", laid_copse_api_ErrTwice), ("copse/api.ErrLost", laid_copse_api_ErrLost), ("copse/api.ErrFull", laid_copse_api_ErrFull), ("copse/api.ErrDead", laid_copse_api_ErrDead), ("copse/api.ErrCorrupt", laid_copse_api_ErrCorrupt), ("copse/api.ErrStatus", laid_copse_api_ErrStatus), ("copse/api.ErrTxid", laid_copse_api_ErrTxid), ("copse/api.ErrOrder", laid_copse_api_ErrOrder), ("copse/api.ErrKind", laid_copse_api_ErrKind), ("copse/codec.steps", laid_copse_codec_steps), ("copse/sheet.head", laid_copse_sheet_head)], narrowed := true }
def BackupChecksUptoSaid : Prop := backupChecksUptoRow.holds Tryd.pinned (OpenSpec.upto backupChecksSpec)

/-- 'copselaw23.BackupMerges', WHERE WHAT IT READS IS OF BULK AT MOST 1048576: true; the input reads as it did. -/
def backupMergesUptoRow : OpenClaim := { program := "ytdkailccfcijiaadoor", sum := "0a712412afcd0485a5987ba70293b959ae856687e624912e0db515728c86f5a2", func := "copse/copselaw23.BackupMerges", spec := "backupMerges", unfollowed := true, recurses := true, named := ["copse/api.ErrText", "copse/api.ErrArg", "copse/api.ErrKind", "copse/api.ErrOrder", "copse/api.ErrShort", "copse/api.ErrLost", "copse/codec.steps", "copse/sheet.head", "copse/api.ErrMany", "copse/api.ErrTwice", "copse/api.ErrFull", "copse/api.ErrDead", "copse/api.ErrCorrupt", "copse/api.ErrStatus", "copse/api.ErrTxid"], apart := false, laid := [("copse/api.ErrArg", laid_copse_api_ErrArg), ("copse/api.ErrText", laid_copse_api_ErrText), ("copse/api.ErrMany", laid_copse_api_ErrMany), ("copse/api.ErrShort", laid_copse_api_ErrShort), ("copse/api.ErrTwice", laid_copse_api_ErrTwice), ("copse/api.ErrLost", laid_copse_api_ErrLost), ("copse/api.ErrFull", laid_copse_api_ErrFull), ("copse/api.ErrDead", laid_copse_api_ErrDead), ("copse/api.ErrCorrupt", laid_copse_api_ErrCorrupt), ("copse/api.ErrStatus", laid_copse_api_ErrStatus), ("copse/api.ErrTxid", laid_copse_api_ErrTxid), ("copse/api.ErrOrder", laid_copse_api_ErrOrder), ("copse/api.ErrKind", laid_copse_api_ErrKind), ("copse/codec.steps", laid_copse_codec_steps), ("copse/sheet.head", laid_copse_sheet_head)], narrowed := true }
def BackupMergesUptoSaid : Prop := backupMergesUptoRow.holds Tryd.pinned (OpenSpec.upto backupMergesSpec)

end Rows
end Go.Proofs.YtdkailccfcijiaaDoor
