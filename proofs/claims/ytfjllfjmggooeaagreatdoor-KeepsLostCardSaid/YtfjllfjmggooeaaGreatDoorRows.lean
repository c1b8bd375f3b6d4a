/-
  NARROWER THAN 'FOR EVERY INPUT', by the rows' own cells (each row's printed sentence says how): WorldEnds: laid · WorldCommits: laid · WorldUndoes: laid · WorldStops: laid · WorldTries: laid · KeepsCrashes: laid · WorldKeeps: laid · KeepsRefused: laid · KeepsFails: laid · KeepsLost: laid.
  DERIVED. THE GIVEN ROWS OF THIS SEAT. 10 by the template 'for every input the law returns true; each argument reads behind the call as it read before'; 0 by the template 'total and deterministic' (their statements: YtfjllfjmggooeaaGreatDoorTotals.lean).
  GIVEN WITH THE SEED: the statements are not yours to turn. If you find one false, say at which input.
  Laid BY PROGRAM, IN A SANDBOX (cutbox-rows.mjs): the forced cells as the released guide's own fill.sh prints them over the translation f6d30e8938f74094… (all of the seat's roots in one cut). By AI agents, Wed Nov 11 2026. No macro, syntax, notation, axiom, sorry.
-/
import Derived.Test.YtfjllfjmggooeaaGreatDoorChecked
import GoSem.Claim
import GoSem.ClaimJoined
import GoSem.ClaimMapViews
import Derived.JoinedTies
import Derived.KernelRfl
namespace Go.Proofs.YtfjllfjmggooeaaGreatDoor
/- THE CELL 'sum', in the pinned program and in every row, IS THE sha256 OF THE DUMP (.gsa) THAT YtfjllfjmggooeaaGreatDoorProg.lean LOADS. Nothing in Lean hashes anything: it is a label: what it is worth is what the hold of that sum in a sandbox is worth. -/
noncomputable def Tryz.pinned : Pinned := { name := "ytfjllfjmggooeaagreatdoor", sum := "f6d30e8938f74094f99a88564b61f465c08c310edbef5ecc974482d6b1940302", checked := Tryz.checked }
namespace Rows
def none {H : Type} : Left H := { results := [], args := [] }

/- WHAT THE LISTED PACKAGE-LEVEL VARIABLES READ AS WHEN THE CALL BEGINS. Each datum BY PROGRAM (the guide's laid-datum.mjs) off the statement by which the dump's own 'gosem.cut.vars' lays the variable. In a bare row this is a premise. The card (YtfjllfjmggooeaaGreatDoorCards.lean) ties it to the program's text. -/
def laid_errors_errorType {H : Type} : DataW H := .iface "internal/reflectlite.rtype" (.agg [.ptr (.lit (.string [101, 114, 114, 111, 114]))])

/-- 'amanuensislaw16.WorldEnds': WHATEVER THE INPUT: true; the input reads as it did. -/
def worldEndsSpec : ChangeSpec := { name := "worldEnds", fn := fun _ => fun
  | [d] => { results := [.lit (.bool true)], args := [d] }
  | _ => none }
def worldEndsRow : OpenClaim := { program := "ytfjllfjmggooeaagreatdoor", sum := "f6d30e8938f74094f99a88564b61f465c08c310edbef5ecc974482d6b1940302", func := "amanuensis/amanuensislaw16.WorldEnds", spec := "worldEnds", inPlace := ["internal/abi.NoEscape", "internal/bytealg.IndexByteString", "slices.overlaps[int]", "internal/reflectlite.TypeOf", "internal/reflectlite.ValueOf", "(internal/reflectlite.Value).Type", "(internal/reflectlite.Value).IsNil", "(internal/reflectlite.Value).Elem", "(internal/reflectlite.Value).Set"], unfollowed := true, recurses := true, named := ["errors.errorType"], apart := false, laid := [("errors.errorType", laid_errors_errorType)] }
def WorldEndsSaid : Prop := worldEndsRow.holds Tryz.pinned (OpenSpec.ofChange worldEndsSpec)

/-- ITS FALSE NEIGHBOUR: 'it returns false'. Refute it at one input. -/
def worldEndsWrong : ChangeSpec := { name := "worldEnds", fn := fun _ => fun
  | [d] => { results := [.lit (.bool false)], args := [d] }
  | _ => none }
def WorldEndsWrongFalsely : Prop := worldEndsRow.holds Tryz.pinned (OpenSpec.ofChange worldEndsWrong)

/-- 'amanuensislaw16.WorldCommits': WHATEVER THE INPUT: true; the input reads as it did. -/
def worldCommitsSpec : ChangeSpec := { name := "worldCommits", fn := fun _ => fun
  | [d] => { results := [.lit (.bool true)], args := [d] }
  | _ => none }
def worldCommitsRow : OpenClaim := { program := "ytfjllfjmggooeaagreatdoor", sum := "f6d30e8938f74094f99a88564b61f465c08c310edbef5ecc974482d6b1940302", func := "amanuensis/amanuensislaw16.WorldCommits", spec := "worldCommits", inPlace := ["internal/abi.NoEscape", "internal/bytealg.IndexByteString", "slices.overlaps[int]", "internal/reflectlite.TypeOf", "internal/reflectlite.ValueOf", "(internal/reflectlite.Value).Type", "(internal/reflectlite.Value).IsNil", "(internal/reflectlite.Value).Elem", "(internal/reflectlite.Value).Set"], unfollowed := true, recurses := true, named := ["errors.errorType"], apart := false, laid := [("errors.errorType", laid_errors_errorType)] }
def WorldCommitsSaid : Prop := worldCommitsRow.holds Tryz.pinned (OpenSpec.ofChange worldCommitsSpec)

/-- ITS FALSE NEIGHBOUR: 'it returns false'. Refute it at one input. -/
def worldCommitsWrong : ChangeSpec := { name := "worldCommits", fn := fun _ => fun
  | [d] => { results := [.lit (.bool false)], args := [d] }
  | _ => none }
def WorldCommitsWrongFalsely : Prop := worldCommitsRow.holds Tryz.pinned (OpenSpec.ofChange worldCommitsWrong)

/-- 'amanuensislaw16.WorldUndoes': WHATEVER THE INPUT: true; the input reads as it did. -/
def worldUndoesSpec : ChangeSpec := { name := "worldUndoes", fn := fun _ => fun
  | [d] => { results := [.lit (.bool true)], args := [d] }
  | _ => none }
def worldUndoesRow : OpenClaim := { program := "ytfjllfjmggooeaagreatdoor", sum := "f6d30e8938f74094f99a88564b61f465c08c310edbef5ecc974482d6b1940302", func := "amanuensis/amanuensislaw16.WorldUndoes", spec := "worldUndoes", inPlace := ["internal/abi.NoEscape", "internal/bytealg.IndexByteString", "slices.overlaps[int]", "internal/reflectlite.TypeOf", "internal/reflectlite.ValueOf", "(internal/reflectlite.Value).Type", "(internal/reflectlite.Value).IsNil", "(internal/reflectlite.Value).Elem", "(internal/reflectlite.Value).Set"], unfollowed := true, recurses := true, named := ["errors.errorType"], apart := false, laid := [("errors.errorType", laid_errors_errorType)] }
def WorldUndoesSaid : Prop := worldUndoesRow.holds Tryz.pinned (OpenSpec.ofChange worldUndoesSpec)

/-- ITS FALSE NEIGHBOUR: 'it returns false'. Refute it at one input. -/
def worldUndoesWrong : ChangeSpec := { name := "worldUndoes", fn := fun _ => fun
  | [d] => { results := [.lit (.bool false)], args := [d] }
  | _ => none }
def WorldUndoesWrongFalsely : Prop := worldUndoesRow.holds Tryz.pinned (OpenSpec.ofChange worldUndoesWrong)

/-- 'amanuensislaw16.WorldStops': WHATEVER THE INPUT: true; the input reads as it did. -/
def worldStopsSpec : ChangeSpec := { name := "worldStops", fn := fun _ => fun
  | [d] => { results := [.lit (.bool true)], args := [d] }
  | _ => none }
def worldStopsRow : OpenClaim := { program := "ytfjllfjmggooeaagreatdoor", sum := "f6d30e8938f74094f99a88564b61f465c08c310edbef5ecc974482d6b1940302", func := "amanuensis/amanuensislaw16.WorldStops", spec := "worldStops", inPlace := ["internal/abi.NoEscape", "internal/bytealg.IndexByteString", "slices.overlaps[int]", "internal/reflectlite.TypeOf", "internal/reflectlite.ValueOf", "(internal/reflectlite.Value).Type", "(internal/reflectlite.Value).IsNil", "(internal/reflectlite.Value).Elem", "(internal/reflectlite.Value).Set"], unfollowed := true, recurses := true, named := ["errors.errorType"], apart := false, laid := [("errors.errorType", laid_errors_errorType)] }
def WorldStopsSaid : Prop := worldStopsRow.holds Tryz.pinned (OpenSpec.ofChange worldStopsSpec)

/-- ITS FALSE NEIGHBOUR: 'it returns false'. Refute it at one input. -/
def worldStopsWrong : ChangeSpec := { name := "worldStops", fn := fun _ => fun
  | [d] => { results := [.lit (.bool false)], args := [d] }
  | _ => none }
def WorldStopsWrongFalsely : Prop := worldStopsRow.holds Tryz.pinned (OpenSpec.ofChange worldStopsWrong)

/-- 'amanuensislaw16.WorldTries': WHATEVER THE INPUT: true; the input reads as it did. -/
def worldTriesSpec : ChangeSpec := { name := "worldTries", fn := fun _ => fun
  | [d] => { results := [.lit (.bool true)], args := [d] }
  | _ => none }
def worldTriesRow : OpenClaim := { program := "ytfjllfjmggooeaagreatdoor", sum := "f6d30e8938f74094f99a88564b61f465c08c310edbef5ecc974482d6b1940302", func := "amanuensis/amanuensislaw16.WorldTries", spec := "worldTries", inPlace := ["internal/abi.NoEscape", "internal/bytealg.IndexByteString", "slices.overlaps[int]", "internal/reflectlite.TypeOf", "internal/reflectlite.ValueOf", "(internal/reflectlite.Value).Type", "(internal/reflectlite.Value).IsNil", "(internal/reflectlite.Value).Elem", "(internal/reflectlite.Value).Set"], unfollowed := true, recurses := true, named := ["errors.errorType"], apart := false, laid := [("errors.errorType", laid_errors_errorType)] }
def WorldTriesSaid : Prop := worldTriesRow.holds Tryz.pinned (OpenSpec.ofChange worldTriesSpec)

/-- ITS FALSE NEIGHBOUR: 'it returns false'. Refute it at one input. -/
def worldTriesWrong : ChangeSpec := { name := "worldTries", fn := fun _ => fun
  | [d] => { results := [.lit (.bool false)], args := [d] }
  | _ => none }
def WorldTriesWrongFalsely : Prop := worldTriesRow.holds Tryz.pinned (OpenSpec.ofChange worldTriesWrong)

/-- 'amanuensislaw16.KeepsCrashes': WHATEVER THE INPUT: true; the input reads as it did. -/
def keepsCrashesSpec : ChangeSpec := { name := "keepsCrashes", fn := fun _ => fun
  | [d] => { results := [.lit (.bool true)], args := [d] }
  | _ => none }
def keepsCrashesRow : OpenClaim := { program := "ytfjllfjmggooeaagreatdoor", sum := "f6d30e8938f74094f99a88564b61f465c08c310edbef5ecc974482d6b1940302", func := "amanuensis/amanuensislaw16.KeepsCrashes", spec := "keepsCrashes", inPlace := ["internal/abi.NoEscape", "internal/bytealg.IndexByteString", "slices.overlaps[int]", "internal/reflectlite.TypeOf", "internal/reflectlite.ValueOf", "(internal/reflectlite.Value).Type", "(internal/reflectlite.Value).IsNil", "(internal/reflectlite.Value).Elem", "(internal/reflectlite.Value).Set"], unfollowed := true, recurses := true, named := ["errors.errorType"], apart := false, laid := [("errors.errorType", laid_errors_errorType)] }
def KeepsCrashesSaid : Prop := keepsCrashesRow.holds Tryz.pinned (OpenSpec.ofChange keepsCrashesSpec)

/-- ITS FALSE NEIGHBOUR: 'it returns false'. Refute it at one input. -/
def keepsCrashesWrong : ChangeSpec := { name := "keepsCrashes", fn := fun _ => fun
  | [d] => { results := [.lit (.bool false)], args := [d] }
  | _ => none }
def KeepsCrashesWrongFalsely : Prop := keepsCrashesRow.holds Tryz.pinned (OpenSpec.ofChange keepsCrashesWrong)

/-- 'amanuensislaw16.WorldKeeps': WHATEVER THE INPUT: true; the input reads as it did. -/
def worldKeepsSpec : ChangeSpec := { name := "worldKeeps", fn := fun _ => fun
  | [d] => { results := [.lit (.bool true)], args := [d] }
  | _ => none }
def worldKeepsRow : OpenClaim := { program := "ytfjllfjmggooeaagreatdoor", sum := "f6d30e8938f74094f99a88564b61f465c08c310edbef5ecc974482d6b1940302", func := "amanuensis/amanuensislaw16.WorldKeeps", spec := "worldKeeps", inPlace := ["internal/abi.NoEscape", "internal/bytealg.IndexByteString", "slices.overlaps[int]", "internal/reflectlite.TypeOf", "internal/reflectlite.ValueOf", "(internal/reflectlite.Value).Type", "(internal/reflectlite.Value).IsNil", "(internal/reflectlite.Value).Elem", "(internal/reflectlite.Value).Set"], unfollowed := true, recurses := true, named := ["errors.errorType"], apart := false, laid := [("errors.errorType", laid_errors_errorType)] }
def WorldKeepsSaid : Prop := worldKeepsRow.holds Tryz.pinned (OpenSpec.ofChange worldKeepsSpec)

/-- ITS FALSE NEIGHBOUR: 'it returns false'. Refute it at one input. -/
def worldKeepsWrong : ChangeSpec := { name := "worldKeeps", fn := fun _ => fun
  | [d] => { results := [.lit (.bool false)], args := [d] }
  | _ => none }
def WorldKeepsWrongFalsely : Prop := worldKeepsRow.holds Tryz.pinned (OpenSpec.ofChange worldKeepsWrong)

/-- 'amanuensislaw16.KeepsRefused': WHATEVER THE INPUT: true; the input reads as it did. -/
def keepsRefusedSpec : ChangeSpec := { name := "keepsRefused", fn := fun _ => fun
  | [d] => { results := [.lit (.bool true)], args := [d] }
  | _ => none }
def keepsRefusedRow : OpenClaim := { program := "ytfjllfjmggooeaagreatdoor", sum := "f6d30e8938f74094f99a88564b61f465c08c310edbef5ecc974482d6b1940302", func := "amanuensis/amanuensislaw16.KeepsRefused", spec := "keepsRefused", inPlace := ["internal/abi.NoEscape", "internal/bytealg.IndexByteString", "slices.overlaps[int]", "internal/reflectlite.TypeOf", "internal/reflectlite.ValueOf", "(internal/reflectlite.Value).Type", "(internal/reflectlite.Value).IsNil", "(internal/reflectlite.Value).Elem", "(internal/reflectlite.Value).Set"], unfollowed := true, recurses := true, named := ["errors.errorType"], apart := false, laid := [("errors.errorType", laid_errors_errorType)] }
def KeepsRefusedSaid : Prop := keepsRefusedRow.holds Tryz.pinned (OpenSpec.ofChange keepsRefusedSpec)

/-- ITS FALSE NEIGHBOUR: 'it returns false'. Refute it at one input. -/
def keepsRefusedWrong : ChangeSpec := { name := "keepsRefused", fn := fun _ => fun
  | [d] => { results := [.lit (.bool false)], args := [d] }
  | _ => none }
def KeepsRefusedWrongFalsely : Prop := keepsRefusedRow.holds Tryz.pinned (OpenSpec.ofChange keepsRefusedWrong)

/-- 'amanuensislaw16.KeepsFails': WHATEVER THE INPUT: true; the input reads as it did. -/
def keepsFailsSpec : ChangeSpec := { name := "keepsFails", fn := fun _ => fun
  | [d] => { results := [.lit (.bool true)], args := [d] }
  | _ => none }
def keepsFailsRow : OpenClaim := { program := "ytfjllfjmggooeaagreatdoor", sum := "f6d30e8938f74094f99a88564b61f465c08c310edbef5ecc974482d6b1940302", func := "amanuensis/amanuensislaw16.KeepsFails", spec := "keepsFails", inPlace := ["internal/abi.NoEscape", "internal/bytealg.IndexByteString", "slices.overlaps[int]", "internal/reflectlite.TypeOf", "internal/reflectlite.ValueOf", "(internal/reflectlite.Value).Type", "(internal/reflectlite.Value).IsNil", "(internal/reflectlite.Value).Elem", "(internal/reflectlite.Value).Set"], unfollowed := true, recurses := true, named := ["errors.errorType"], apart := false, laid := [("errors.errorType", laid_errors_errorType)] }
def KeepsFailsSaid : Prop := keepsFailsRow.holds Tryz.pinned (OpenSpec.ofChange keepsFailsSpec)

/-- ITS FALSE NEIGHBOUR: 'it returns false'. Refute it at one input. -/
def keepsFailsWrong : ChangeSpec := { name := "keepsFails", fn := fun _ => fun
  | [d] => { results := [.lit (.bool false)], args := [d] }
  | _ => none }
def KeepsFailsWrongFalsely : Prop := keepsFailsRow.holds Tryz.pinned (OpenSpec.ofChange keepsFailsWrong)

/-- 'amanuensislaw16.KeepsLost': WHATEVER THE INPUT: true; the input reads as it did. -/
def keepsLostSpec : ChangeSpec := { name := "keepsLost", fn := fun _ => fun
  | [d] => { results := [.lit (.bool true)], args := [d] }
  | _ => none }
def keepsLostRow : OpenClaim := { program := "ytfjllfjmggooeaagreatdoor", sum := "f6d30e8938f74094f99a88564b61f465c08c310edbef5ecc974482d6b1940302", func := "amanuensis/amanuensislaw16.KeepsLost", spec := "keepsLost", inPlace := ["internal/abi.NoEscape", "internal/bytealg.IndexByteString", "slices.overlaps[int]", "internal/reflectlite.TypeOf", "internal/reflectlite.ValueOf", "(internal/reflectlite.Value).Type", "(internal/reflectlite.Value).IsNil", "(internal/reflectlite.Value).Elem", "(internal/reflectlite.Value).Set"], unfollowed := true, recurses := true, named := ["errors.errorType"], apart := false, laid := [("errors.errorType", laid_errors_errorType)] }
def KeepsLostSaid : Prop := keepsLostRow.holds Tryz.pinned (OpenSpec.ofChange keepsLostSpec)

/-- ITS FALSE NEIGHBOUR: 'it returns false'. Refute it at one input. -/
def keepsLostWrong : ChangeSpec := { name := "keepsLost", fn := fun _ => fun
  | [d] => { results := [.lit (.bool false)], args := [d] }
  | _ => none }
def KeepsLostWrongFalsely : Prop := keepsLostRow.holds Tryz.pinned (OpenSpec.ofChange keepsLostWrong)

/- THE SECOND FORM. 'bulk': how many values and letters a reading holds, each counted each time it is reached (what is shared counts as often as it is met; a slice's spare places count too). A statement '..UptoSaid' is the law's where the arguments, and the package variables that the reading takes, are together of bulk at most 1048576: NARROWER than '..Said'. Prove '..Said' where nothing that the law and all that it calls make is longer than what came in: it says more and counts as full. Else prove '..UptoSaid'. A law counts once. -/
mutual
def uptoBulk {H : Type} : DataW H → Nat
  | .lit (.string bytes) => bytes.length + 1
  | .lit _ => 1
  | .nil => 1
  | .ptr d => uptoBulk d + 1
  | .slice elems spare => uptoBulkAll elems + uptoBulkAll spare + 1
  | .agg parts => uptoBulkAll parts + 1
  | .iface _ d => uptoBulk d + 1
  | .map entries => uptoBulkEntries entries + 1
  | .held _ => 1
def uptoBulkAll {H : Type} : List (DataW H) → Nat
  | [] => 0
  | d :: r => uptoBulk d + uptoBulkAll r
def uptoBulkEntries {H : Type} : List (Lit × DataW H) → Nat
  | [] => 0
  | x :: r => uptoBulkEntry x + uptoBulkEntries r
def uptoBulkEntry {H : Type} : Lit × DataW H → Nat
  | (.string bytes, d) => bytes.length + uptoBulk d + 1
  | (_, d) => uptoBulk d + 1
 end
def uptoSmall : (H : Type) → List (DataW H) → Bool := fun _ ds => decide (uptoBulkAll ds ≤ 1048576)
def OpenSpec.upto (s : _root_.Go.ChangeSpec) : _root_.Go.OpenSpec := { _root_.Go.OpenSpec.ofChange s with cond := some uptoSmall }

/-- 'amanuensislaw16.WorldEnds', WHERE WHAT IT READS IS OF BULK AT MOST 1048576: true; the input reads as it did. -/
def worldEndsUptoRow : OpenClaim := { program := "ytfjllfjmggooeaagreatdoor", sum := "f6d30e8938f74094f99a88564b61f465c08c310edbef5ecc974482d6b1940302", func := "amanuensis/amanuensislaw16.WorldEnds", spec := "worldEnds", inPlace := ["internal/abi.NoEscape", "internal/bytealg.IndexByteString", "slices.overlaps[int]", "internal/reflectlite.TypeOf", "internal/reflectlite.ValueOf", "(internal/reflectlite.Value).Type", "(internal/reflectlite.Value).IsNil", "(internal/reflectlite.Value).Elem", "(internal/reflectlite.Value).Set"], unfollowed := true, recurses := true, named := ["errors.errorType"], apart := false, laid := [("errors.errorType", laid_errors_errorType)], narrowed := true }
def WorldEndsUptoSaid : Prop := worldEndsUptoRow.holds Tryz.pinned (OpenSpec.upto worldEndsSpec)

/-- 'amanuensislaw16.WorldCommits', WHERE WHAT IT READS IS OF BULK AT MOST 1048576: true; the input reads as it did. -/
def worldCommitsUptoRow : OpenClaim := { program := "ytfjllfjmggooeaagreatdoor", sum := "f6d30e8938f74094f99a88564b61f465c08c310edbef5ecc974482d6b1940302", func := "amanuensis/amanuensislaw16.WorldCommits", spec := "worldCommits", inPlace := ["internal/abi.NoEscape", "internal/bytealg.IndexByteString", "slices.overlaps[int]", "internal/reflectlite.TypeOf", "internal/reflectlite.ValueOf", "(internal/reflectlite.Value).Type", "(internal/reflectlite.Value).IsNil", "(internal/reflectlite.Value).Elem", "(internal/reflectlite.Value).Set"], unfollowed := true, recurses := true, named := ["errors.errorType"], apart := false, laid := [("errors.errorType", laid_errors_errorType)], narrowed := true }
def WorldCommitsUptoSaid : Prop := worldCommitsUptoRow.holds Tryz.pinned (OpenSpec.upto worldCommitsSpec)

/-- 'amanuensislaw16.WorldUndoes', WHERE WHAT IT READS IS OF BULK AT MOST 1048576: true; the input reads as it did. -/
def worldUndoesUptoRow : OpenClaim := { program := "ytfjllfjmggooeaagreatdoor", sum := "f6d30e8938f74094f99a88564b61f465c08c310edbef5ecc974482d6b1940302", func := "amanuensis/amanuensislaw16.WorldUndoes", spec := "worldUndoes", inPlace := ["internal/abi.NoEscape", "internal/bytealg.IndexByteString", "slices.overlaps[int]", "internal/reflectlite.TypeOf", "internal/reflectlite.ValueOf", "(internal/reflectlite.Value).Type", "(internal/reflectlite.Value).IsNil", "(internal/reflectlite.Value).Elem", "(internal/reflectlite.Value).Set"], unfollowed := true, recurses := true, named := ["errors.errorType"], apart := false, laid := [("errors.errorType", laid_errors_errorType)], narrowed := true }
def WorldUndoesUptoSaid : Prop := worldUndoesUptoRow.holds Tryz.pinned (OpenSpec.upto worldUndoesSpec)

/-- 'amanuensislaw16.WorldStops', WHERE WHAT IT READS IS OF BULK AT MOST 1048576: true; the input reads as it did. -/
def worldStopsUptoRow : OpenClaim := { program := "ytfjllfjmggooeaagreatdoor", sum := "f6d30e8938f74094f99a88564b61f465c08c310edbef5ecc974482d6b1940302", func := "amanuensis/amanuensislaw16.WorldStops", spec := "worldStops", inPlace := ["internal/abi.NoEscape", "internal/bytealg.IndexByteString", "slices.overlaps[int]", "internal/reflectlite.TypeOf", "internal/reflectlite.ValueOf", "(internal/reflectlite.Value).Type", "(internal/reflectlite.Value).IsNil", "(internal/reflectlite.Value).Elem", "(internal/reflectlite.Value).Set"], unfollowed := true, recurses := true, named := ["errors.errorType"], apart := false, laid := [("errors.errorType", laid_errors_errorType)], narrowed := true }
def WorldStopsUptoSaid : Prop := worldStopsUptoRow.holds Tryz.pinned (OpenSpec.upto worldStopsSpec)

/-- 'amanuensislaw16.WorldTries', WHERE WHAT IT READS IS OF BULK AT MOST 1048576: true; the input reads as it did. -/
def worldTriesUptoRow : OpenClaim := { program := "ytfjllfjmggooeaagreatdoor", sum := "f6d30e8938f74094f99a88564b61f465c08c310edbef5ecc974482d6b1940302", func := "amanuensis/amanuensislaw16.WorldTries", spec := "worldTries", inPlace := ["internal/abi.NoEscape", "internal/bytealg.IndexByteString", "slices.overlaps[int]", "internal/reflectlite.TypeOf", "internal/reflectlite.ValueOf", "(internal/reflectlite.Value).Type", "(internal/reflectlite.Value).IsNil", "(internal/reflectlite.Value).Elem", "(internal/reflectlite.Value).Set"], unfollowed := true, recurses := true, named := ["errors.errorType"], apart := false, laid := [("errors.errorType", laid_errors_errorType)], narrowed := true }
def WorldTriesUptoSaid : Prop := worldTriesUptoRow.holds Tryz.pinned (OpenSpec.upto worldTriesSpec)

/-- 'amanuensislaw16.KeepsCrashes', WHERE WHAT IT READS IS OF BULK AT MOST 1048576: true; the input reads as it did. -/
def keepsCrashesUptoRow : OpenClaim := { program := "ytfjllfjmggooeaagreatdoor", sum := "f6d30e8938f74094f99a88564b61f465c08c310edbef5ecc974482d6b1940302", func := "amanuensis/amanuensislaw16.KeepsCrashes", spec := "keepsCrashes", inPlace := ["internal/abi.NoEscape", "internal/bytealg.IndexByteString", "slices.overlaps[int]", "internal/reflectlite.TypeOf", "internal/reflectlite.ValueOf", "(internal/reflectlite.Value).Type", "(internal/reflectlite.Value).IsNil", "(internal/reflectlite.Value).Elem", "(internal/reflectlite.Value).Set"], unfollowed := true, recurses := true, named := ["errors.errorType"], apart := false, laid := [("errors.errorType", laid_errors_errorType)], narrowed := true }
def KeepsCrashesUptoSaid : Prop := keepsCrashesUptoRow.holds Tryz.pinned (OpenSpec.upto keepsCrashesSpec)

/-- 'amanuensislaw16.WorldKeeps', WHERE WHAT IT READS IS OF BULK AT MOST 1048576: true; the input reads as it did. -/
def worldKeepsUptoRow : OpenClaim := { program := "ytfjllfjmggooeaagreatdoor", sum := "f6d30e8938f74094f99a88564b61f465c08c310edbef5ecc974482d6b1940302", func := "amanuensis/amanuensislaw16.WorldKeeps", spec := "worldKeeps", inPlace := ["internal/abi.NoEscape", "internal/bytealg.IndexByteString", "slices.overlaps[int]", "internal/reflectlite.TypeOf", "internal/reflectlite.ValueOf", "(internal/reflectlite.Value).Type", "(internal/reflectlite.Value).IsNil", "(internal/reflectlite.Value).Elem", "(internal/reflectlite.Value).Set"], unfollowed := true, recurses := true, named := ["errors.errorType"], apart := false, laid := [("errors.errorType", laid_errors_errorType)], narrowed := true }
def WorldKeepsUptoSaid : Prop := worldKeepsUptoRow.holds Tryz.pinned (OpenSpec.upto worldKeepsSpec)

/-- 'amanuensislaw16.KeepsRefused', WHERE WHAT IT READS IS OF BULK AT MOST 1048576: true; the input reads as it did. -/
def keepsRefusedUptoRow : OpenClaim := { program := "ytfjllfjmggooeaagreatdoor", sum := "f6d30e8938f74094f99a88564b61f465c08c310edbef5ecc974482d6b1940302", func := "amanuensis/amanuensislaw16.KeepsRefused", spec := "keepsRefused", inPlace := ["internal/abi.NoEscape", "internal/bytealg.IndexByteString", "slices.overlaps[int]", "internal/reflectlite.TypeOf", "internal/reflectlite.ValueOf", "(internal/reflectlite.Value).Type", "(internal/reflectlite.Value).IsNil", "(internal/reflectlite.Value).Elem", "(internal/reflectlite.Value).Set"], unfollowed := true, recurses := true, named := ["errors.errorType"], apart := false, laid := [("errors.errorType", laid_errors_errorType)], narrowed := true }
def KeepsRefusedUptoSaid : Prop := keepsRefusedUptoRow.holds Tryz.pinned (OpenSpec.upto keepsRefusedSpec)

/-- 'amanuensislaw16.KeepsFails', WHERE WHAT IT READS IS OF BULK AT MOST 1048576: true; the input reads as it did. -/
def keepsFailsUptoRow : OpenClaim := { program := "ytfjllfjmggooeaagreatdoor", sum := "f6d30e8938f74094f99a88564b61f465c08c310edbef5ecc974482d6b1940302", func := "amanuensis/amanuensislaw16.KeepsFails", spec := "keepsFails", inPlace := ["internal/abi.NoEscape", "internal/bytealg.IndexByteString", "slices.overlaps[int]", "internal/reflectlite.TypeOf", "internal/reflectlite.ValueOf", "(internal/reflectlite.Value).Type", "(internal/reflectlite.Value).IsNil", "(internal/reflectlite.Value).Elem", "(internal/reflectlite.Value).Set"], unfollowed := true, recurses := true, named := ["errors.errorType"], apart := false, laid := [("errors.errorType", laid_errors_errorType)], narrowed := true }
def KeepsFailsUptoSaid : Prop := keepsFailsUptoRow.holds Tryz.pinned (OpenSpec.upto keepsFailsSpec)

/-- 'amanuensislaw16.KeepsLost', WHERE WHAT IT READS IS OF BULK AT MOST 1048576: true; the input reads as it did. -/
def keepsLostUptoRow : OpenClaim := { program := "ytfjllfjmggooeaagreatdoor", sum := "f6d30e8938f74094f99a88564b61f465c08c310edbef5ecc974482d6b1940302", func := "amanuensis/amanuensislaw16.KeepsLost", spec := "keepsLost", inPlace := ["internal/abi.NoEscape", "internal/bytealg.IndexByteString", "slices.overlaps[int]", "internal/reflectlite.TypeOf", "internal/reflectlite.ValueOf", "(internal/reflectlite.Value).Type", "(internal/reflectlite.Value).IsNil", "(internal/reflectlite.Value).Elem", "(internal/reflectlite.Value).Set"], unfollowed := true, recurses := true, named := ["errors.errorType"], apart := false, laid := [("errors.errorType", laid_errors_errorType)], narrowed := true }
def KeepsLostUptoSaid : Prop := keepsLostUptoRow.holds Tryz.pinned (OpenSpec.upto keepsLostSpec)

end Rows
end Go.Proofs.YtfjllfjmggooeaaGreatDoor
