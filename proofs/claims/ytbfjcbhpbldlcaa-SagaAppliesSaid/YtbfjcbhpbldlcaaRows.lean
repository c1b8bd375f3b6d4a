/-
  No cell of these rows narrows 'for every input' (looked for: loops, veiled, ifaces, maps, wideKeys, modest, calm, conditions, laid).
  DERIVED. THE GIVEN ROWS OF THIS SEAT. 9 by the template 'for every input the law returns true; each argument reads behind the call as it read before'; 0 by the template 'total and deterministic' (their statements: YtbfjcbhpbldlcaaTotals.lean).
  GIVEN WITH THE SEED: the statements are not yours to turn. If you find one false, say at which input.
  Laid BY PROGRAM, IN A SANDBOX (cutbox-rows.mjs): the forced cells as the released guide's own fill.sh prints them over the translation 0f3046bfe8507914… (all of the seat's roots in one cut). By AI agents, Wed Nov 11 2026. No macro, syntax, notation, axiom, sorry.
-/
import Derived.Test.YtbfjcbhpbldlcaaChecked
import GoSem.Claim
import GoSem.ClaimJoined
import GoSem.ClaimMapViews
import Derived.JoinedTies
import Derived.KernelRfl
namespace Go.Proofs.Ytbfjcbhpbldlcaa
/- THE CELL 'sum', in the pinned program and in every row, IS THE sha256 OF THE DUMP (.gsa) THAT YtbfjcbhpbldlcaaProg.lean LOADS. Nothing in Lean hashes anything: it is a label: what it is worth is what the hold of that sum in a sandbox is worth. -/
noncomputable def Try.pinned : Pinned := { name := "ytbfjcbhpbldlcaa", sum := "0f3046bfe85079148a30550cbf6198644151e3d95638fdaebd9225fb8bf92a73", checked := Try.checked }
namespace Rows
def none {H : Type} : Left H := { results := [], args := [] }

/-- 'amanuensislaw14.SagaCall': WHATEVER THE INPUT: true; the input reads as it did. -/
def sagaCallSpec : ChangeSpec := { name := "sagaCall", fn := fun _ => fun
  | [d] => { results := [.lit (.bool true)], args := [d] }
  | _ => none }
def sagaCallRow : OpenClaim := { program := "ytbfjcbhpbldlcaa", sum := "0f3046bfe85079148a30550cbf6198644151e3d95638fdaebd9225fb8bf92a73", func := "amanuensis/amanuensislaw14.SagaCall", spec := "sagaCall", inPlace := ["internal/abi.NoEscape", "internal/bytealg.IndexByteString"], unfollowed := true, recurses := true, apart := false }
def SagaCallSaid : Prop := sagaCallRow.holds Try.pinned (OpenSpec.ofChange sagaCallSpec)

/-- ITS FALSE NEIGHBOUR: 'it returns false'. Refute it at one input. -/
def sagaCallWrong : ChangeSpec := { name := "sagaCall", fn := fun _ => fun
  | [d] => { results := [.lit (.bool false)], args := [d] }
  | _ => none }
def SagaCallWrongFalsely : Prop := sagaCallRow.holds Try.pinned (OpenSpec.ofChange sagaCallWrong)

/-- 'amanuensislaw14.SagaDone': WHATEVER THE INPUT: true; the input reads as it did. -/
def sagaDoneSpec : ChangeSpec := { name := "sagaDone", fn := fun _ => fun
  | [d] => { results := [.lit (.bool true)], args := [d] }
  | _ => none }
def sagaDoneRow : OpenClaim := { program := "ytbfjcbhpbldlcaa", sum := "0f3046bfe85079148a30550cbf6198644151e3d95638fdaebd9225fb8bf92a73", func := "amanuensis/amanuensislaw14.SagaDone", spec := "sagaDone", inPlace := ["internal/abi.NoEscape", "internal/bytealg.IndexByteString"], unfollowed := true, recurses := true, apart := false }
def SagaDoneSaid : Prop := sagaDoneRow.holds Try.pinned (OpenSpec.ofChange sagaDoneSpec)

/-- ITS FALSE NEIGHBOUR: 'it returns false'. Refute it at one input. -/
def sagaDoneWrong : ChangeSpec := { name := "sagaDone", fn := fun _ => fun
  | [d] => { results := [.lit (.bool false)], args := [d] }
  | _ => none }
def SagaDoneWrongFalsely : Prop := sagaDoneRow.holds Try.pinned (OpenSpec.ofChange sagaDoneWrong)

/-- 'amanuensislaw14.SagaAbort': WHATEVER THE INPUT: true; the input reads as it did. -/
def sagaAbortSpec : ChangeSpec := { name := "sagaAbort", fn := fun _ => fun
  | [d] => { results := [.lit (.bool true)], args := [d] }
  | _ => none }
def sagaAbortRow : OpenClaim := { program := "ytbfjcbhpbldlcaa", sum := "0f3046bfe85079148a30550cbf6198644151e3d95638fdaebd9225fb8bf92a73", func := "amanuensis/amanuensislaw14.SagaAbort", spec := "sagaAbort", inPlace := ["internal/abi.NoEscape", "internal/bytealg.IndexByteString"], unfollowed := true, recurses := true, apart := false }
def SagaAbortSaid : Prop := sagaAbortRow.holds Try.pinned (OpenSpec.ofChange sagaAbortSpec)

/-- ITS FALSE NEIGHBOUR: 'it returns false'. Refute it at one input. -/
def sagaAbortWrong : ChangeSpec := { name := "sagaAbort", fn := fun _ => fun
  | [d] => { results := [.lit (.bool false)], args := [d] }
  | _ => none }
def SagaAbortWrongFalsely : Prop := sagaAbortRow.holds Try.pinned (OpenSpec.ofChange sagaAbortWrong)

/-- 'amanuensislaw14.SagaUndone': WHATEVER THE INPUT: true; the input reads as it did. -/
def sagaUndoneSpec : ChangeSpec := { name := "sagaUndone", fn := fun _ => fun
  | [d] => { results := [.lit (.bool true)], args := [d] }
  | _ => none }
def sagaUndoneRow : OpenClaim := { program := "ytbfjcbhpbldlcaa", sum := "0f3046bfe85079148a30550cbf6198644151e3d95638fdaebd9225fb8bf92a73", func := "amanuensis/amanuensislaw14.SagaUndone", spec := "sagaUndone", inPlace := ["internal/abi.NoEscape", "internal/bytealg.IndexByteString"], unfollowed := true, recurses := true, apart := false }
def SagaUndoneSaid : Prop := sagaUndoneRow.holds Try.pinned (OpenSpec.ofChange sagaUndoneSpec)

/-- ITS FALSE NEIGHBOUR: 'it returns false'. Refute it at one input. -/
def sagaUndoneWrong : ChangeSpec := { name := "sagaUndone", fn := fun _ => fun
  | [d] => { results := [.lit (.bool false)], args := [d] }
  | _ => none }
def SagaUndoneWrongFalsely : Prop := sagaUndoneRow.holds Try.pinned (OpenSpec.ofChange sagaUndoneWrong)

/-- 'amanuensislaw14.SagaEnd': WHATEVER THE INPUT: true; the input reads as it did. -/
def sagaEndSpec : ChangeSpec := { name := "sagaEnd", fn := fun _ => fun
  | [d] => { results := [.lit (.bool true)], args := [d] }
  | _ => none }
def sagaEndRow : OpenClaim := { program := "ytbfjcbhpbldlcaa", sum := "0f3046bfe85079148a30550cbf6198644151e3d95638fdaebd9225fb8bf92a73", func := "amanuensis/amanuensislaw14.SagaEnd", spec := "sagaEnd", inPlace := ["internal/abi.NoEscape", "internal/bytealg.IndexByteString"], unfollowed := true, recurses := true, apart := false }
def SagaEndSaid : Prop := sagaEndRow.holds Try.pinned (OpenSpec.ofChange sagaEndSpec)

/-- ITS FALSE NEIGHBOUR: 'it returns false'. Refute it at one input. -/
def sagaEndWrong : ChangeSpec := { name := "sagaEnd", fn := fun _ => fun
  | [d] => { results := [.lit (.bool false)], args := [d] }
  | _ => none }
def SagaEndWrongFalsely : Prop := sagaEndRow.holds Try.pinned (OpenSpec.ofChange sagaEndWrong)

/-- 'amanuensislaw14.SagaEnds': WHATEVER THE INPUT: true; the input reads as it did. -/
def sagaEndsSpec : ChangeSpec := { name := "sagaEnds", fn := fun _ => fun
  | [d] => { results := [.lit (.bool true)], args := [d] }
  | _ => none }
def sagaEndsRow : OpenClaim := { program := "ytbfjcbhpbldlcaa", sum := "0f3046bfe85079148a30550cbf6198644151e3d95638fdaebd9225fb8bf92a73", func := "amanuensis/amanuensislaw14.SagaEnds", spec := "sagaEnds", inPlace := ["internal/abi.NoEscape", "internal/bytealg.IndexByteString"], unfollowed := true, recurses := true, apart := false }
def SagaEndsSaid : Prop := sagaEndsRow.holds Try.pinned (OpenSpec.ofChange sagaEndsSpec)

/-- ITS FALSE NEIGHBOUR: 'it returns false'. Refute it at one input. -/
def sagaEndsWrong : ChangeSpec := { name := "sagaEnds", fn := fun _ => fun
  | [d] => { results := [.lit (.bool false)], args := [d] }
  | _ => none }
def SagaEndsWrongFalsely : Prop := sagaEndsRow.holds Try.pinned (OpenSpec.ofChange sagaEndsWrong)

/-- 'amanuensislaw14.SagaRoads': WHATEVER THE INPUT: true; the input reads as it did. -/
def sagaRoadsSpec : ChangeSpec := { name := "sagaRoads", fn := fun _ => fun
  | [d] => { results := [.lit (.bool true)], args := [d] }
  | _ => none }
def sagaRoadsRow : OpenClaim := { program := "ytbfjcbhpbldlcaa", sum := "0f3046bfe85079148a30550cbf6198644151e3d95638fdaebd9225fb8bf92a73", func := "amanuensis/amanuensislaw14.SagaRoads", spec := "sagaRoads", inPlace := ["internal/abi.NoEscape", "internal/bytealg.IndexByteString"], unfollowed := true, recurses := true, apart := false }
def SagaRoadsSaid : Prop := sagaRoadsRow.holds Try.pinned (OpenSpec.ofChange sagaRoadsSpec)

/-- ITS FALSE NEIGHBOUR: 'it returns false'. Refute it at one input. -/
def sagaRoadsWrong : ChangeSpec := { name := "sagaRoads", fn := fun _ => fun
  | [d] => { results := [.lit (.bool false)], args := [d] }
  | _ => none }
def SagaRoadsWrongFalsely : Prop := sagaRoadsRow.holds Try.pinned (OpenSpec.ofChange sagaRoadsWrong)

/-- 'amanuensislaw14.SagaMarks': WHATEVER THE INPUT: true; the input reads as it did. -/
def sagaMarksSpec : ChangeSpec := { name := "sagaMarks", fn := fun _ => fun
  | [d] => { results := [.lit (.bool true)], args := [d] }
  | _ => none }
def sagaMarksRow : OpenClaim := { program := "ytbfjcbhpbldlcaa", sum := "0f3046bfe85079148a30550cbf6198644151e3d95638fdaebd9225fb8bf92a73", func := "amanuensis/amanuensislaw14.SagaMarks", spec := "sagaMarks", inPlace := ["internal/abi.NoEscape", "internal/bytealg.IndexByteString"], unfollowed := true, recurses := true, apart := false }
def SagaMarksSaid : Prop := sagaMarksRow.holds Try.pinned (OpenSpec.ofChange sagaMarksSpec)

/-- ITS FALSE NEIGHBOUR: 'it returns false'. Refute it at one input. -/
def sagaMarksWrong : ChangeSpec := { name := "sagaMarks", fn := fun _ => fun
  | [d] => { results := [.lit (.bool false)], args := [d] }
  | _ => none }
def SagaMarksWrongFalsely : Prop := sagaMarksRow.holds Try.pinned (OpenSpec.ofChange sagaMarksWrong)

/-- 'amanuensislaw14.SagaApplies': WHATEVER THE INPUT: true; the input reads as it did. -/
def sagaAppliesSpec : ChangeSpec := { name := "sagaApplies", fn := fun _ => fun
  | [d] => { results := [.lit (.bool true)], args := [d] }
  | _ => none }
def sagaAppliesRow : OpenClaim := { program := "ytbfjcbhpbldlcaa", sum := "0f3046bfe85079148a30550cbf6198644151e3d95638fdaebd9225fb8bf92a73", func := "amanuensis/amanuensislaw14.SagaApplies", spec := "sagaApplies", inPlace := ["internal/abi.NoEscape", "internal/bytealg.IndexByteString"], unfollowed := true, recurses := true, apart := false }
def SagaAppliesSaid : Prop := sagaAppliesRow.holds Try.pinned (OpenSpec.ofChange sagaAppliesSpec)

/-- ITS FALSE NEIGHBOUR: 'it returns false'. Refute it at one input. -/
def sagaAppliesWrong : ChangeSpec := { name := "sagaApplies", fn := fun _ => fun
  | [d] => { results := [.lit (.bool false)], args := [d] }
  | _ => none }
def SagaAppliesWrongFalsely : Prop := sagaAppliesRow.holds Try.pinned (OpenSpec.ofChange sagaAppliesWrong)

/- THE SECOND FORM. 'bulk': how many values and letters a reading holds, each counted each time it is reached (what is shared counts as often as it is met; a slice's spare places count too). A statement '..UptoSaid' is the law's where the arguments, and the package variables that the reading takes, are together of bulk at most 1048576: NARROWER than '..Said'. Prove '..Said' where nothing that the law and all that it calls make is longer than what came in: it says more and counts as full. Else prove '..UptoSaid'. A law counts once. -/
mutual
def uptoBulk {H : Type} : DataW H → Nat
  | .lit (.string bytes) => bytes.length + 1
  | .lit _ => 1
  | .nil => 1
  | .ptr d => uptoBulk d + 1
  | .slice elems spare => uptoBulkAll elems + uptoBulkAll spare + 1
  | .agg parts => uptoBulkAll parts + 1
  | .iface _ d => uptoBulk d + 1
  | .map entries => uptoBulkEntries entries + 1
  | .held _ => 1
def uptoBulkAll {H : Type} : List (DataW H) → Nat
  | [] => 0
  | d :: r => uptoBulk d + uptoBulkAll r
def uptoBulkEntries {H : Type} : List (Lit × DataW H) → Nat
  | [] => 0
  | x :: r => uptoBulkEntry x + uptoBulkEntries r
def uptoBulkEntry {H : Type} : Lit × DataW H → Nat
  | (.string bytes, d) => bytes.length + uptoBulk d + 1
  | (_, d) => uptoBulk d + 1
 end
def uptoSmall : (H : Type) → List (DataW H) → Bool := fun _ ds => decide (uptoBulkAll ds ≤ 1048576)
def OpenSpec.upto (s : _root_.Go.ChangeSpec) : _root_.Go.OpenSpec := { _root_.Go.OpenSpec.ofChange s with cond := some uptoSmall }

/-- 'amanuensislaw14.SagaCall', WHERE WHAT IT READS IS OF BULK AT MOST 1048576: true; the input reads as it did. -/
def sagaCallUptoRow : OpenClaim := { program := "ytbfjcbhpbldlcaa", sum := "0f3046bfe85079148a30550cbf6198644151e3d95638fdaebd9225fb8bf92a73", func := "amanuensis/amanuensislaw14.SagaCall", spec := "sagaCall", inPlace := ["internal/abi.NoEscape", "internal/bytealg.IndexByteString"], unfollowed := true, recurses := true, apart := false, narrowed := true }
def SagaCallUptoSaid : Prop := sagaCallUptoRow.holds Try.pinned (OpenSpec.upto sagaCallSpec)

/-- 'amanuensislaw14.SagaDone', WHERE WHAT IT READS IS OF BULK AT MOST 1048576: true; the input reads as it did. -/
def sagaDoneUptoRow : OpenClaim := { program := "ytbfjcbhpbldlcaa", sum := "0f3046bfe85079148a30550cbf6198644151e3d95638fdaebd9225fb8bf92a73", func := "amanuensis/amanuensislaw14.SagaDone", spec := "sagaDone", inPlace := ["internal/abi.NoEscape", "internal/bytealg.IndexByteString"], unfollowed := true, recurses := true, apart := false, narrowed := true }
def SagaDoneUptoSaid : Prop := sagaDoneUptoRow.holds Try.pinned (OpenSpec.upto sagaDoneSpec)

/-- 'amanuensislaw14.SagaAbort', WHERE WHAT IT READS IS OF BULK AT MOST 1048576: true; the input reads as it did. -/
def sagaAbortUptoRow : OpenClaim := { program := "ytbfjcbhpbldlcaa", sum := "0f3046bfe85079148a30550cbf6198644151e3d95638fdaebd9225fb8bf92a73", func := "amanuensis/amanuensislaw14.SagaAbort", spec := "sagaAbort", inPlace := ["internal/abi.NoEscape", "internal/bytealg.IndexByteString"], unfollowed := true, recurses := true, apart := false, narrowed := true }
def SagaAbortUptoSaid : Prop := sagaAbortUptoRow.holds Try.pinned (OpenSpec.upto sagaAbortSpec)

/-- 'amanuensislaw14.SagaUndone', WHERE WHAT IT READS IS OF BULK AT MOST 1048576: true; the input reads as it did. -/
def sagaUndoneUptoRow : OpenClaim := { program := "ytbfjcbhpbldlcaa", sum := "0f3046bfe85079148a30550cbf6198644151e3d95638fdaebd9225fb8bf92a73", func := "amanuensis/amanuensislaw14.SagaUndone", spec := "sagaUndone", inPlace := ["internal/abi.NoEscape", "internal/bytealg.IndexByteString"], unfollowed := true, recurses := true, apart := false, narrowed := true }
def SagaUndoneUptoSaid : Prop := sagaUndoneUptoRow.holds Try.pinned (OpenSpec.upto sagaUndoneSpec)

/-- 'amanuensislaw14.SagaEnd', WHERE WHAT IT READS IS OF BULK AT MOST 1048576: true; the input reads as it did. -/
def sagaEndUptoRow : OpenClaim := { program := "ytbfjcbhpbldlcaa", sum := "0f3046bfe85079148a30550cbf6198644151e3d95638fdaebd9225fb8bf92a73", func := "amanuensis/amanuensislaw14.SagaEnd", spec := "sagaEnd", inPlace := ["internal/abi.NoEscape", "internal/bytealg.IndexByteString"], unfollowed := true, recurses := true, apart := false, narrowed := true }
def SagaEndUptoSaid : Prop := sagaEndUptoRow.holds Try.pinned (OpenSpec.upto sagaEndSpec)

/-- 'amanuensislaw14.SagaEnds', WHERE WHAT IT READS IS OF BULK AT MOST 1048576: true; the input reads as it did. -/
def sagaEndsUptoRow : OpenClaim := { program := "ytbfjcbhpbldlcaa", sum := "0f3046bfe85079148a30550cbf6198644151e3d95638fdaebd9225fb8bf92a73", func := "amanuensis/amanuensislaw14.SagaEnds", spec := "sagaEnds", inPlace := ["internal/abi.NoEscape", "internal/bytealg.IndexByteString"], unfollowed := true, recurses := true, apart := false, narrowed := true }
def SagaEndsUptoSaid : Prop := sagaEndsUptoRow.holds Try.pinned (OpenSpec.upto sagaEndsSpec)

/-- 'amanuensislaw14.SagaRoads', WHERE WHAT IT READS IS OF BULK AT MOST 1048576: true; the input reads as it did. -/
def sagaRoadsUptoRow : OpenClaim := { program := "ytbfjcbhpbldlcaa", sum := "0f3046bfe85079148a30550cbf6198644151e3d95638fdaebd9225fb8bf92a73", func := "amanuensis/amanuensislaw14.SagaRoads", spec := "sagaRoads", inPlace := ["internal/abi.NoEscape", "internal/bytealg.IndexByteString"], unfollowed := true, recurses := true, apart := false, narrowed := true }
def SagaRoadsUptoSaid : Prop := sagaRoadsUptoRow.holds Try.pinned (OpenSpec.upto sagaRoadsSpec)

/-- 'amanuensislaw14.SagaMarks', WHERE WHAT IT READS IS OF BULK AT MOST 1048576: true; the input reads as it did. -/
def sagaMarksUptoRow : OpenClaim := { program := "ytbfjcbhpbldlcaa", sum := "0f3046bfe85079148a30550cbf6198644151e3d95638fdaebd9225fb8bf92a73", func := "amanuensis/amanuensislaw14.SagaMarks", spec := "sagaMarks", inPlace := ["internal/abi.NoEscape", "internal/bytealg.IndexByteString"], unfollowed := true, recurses := true, apart := false, narrowed := true }
def SagaMarksUptoSaid : Prop := sagaMarksUptoRow.holds Try.pinned (OpenSpec.upto sagaMarksSpec)

/-- 'amanuensislaw14.SagaApplies', WHERE WHAT IT READS IS OF BULK AT MOST 1048576: true; the input reads as it did. -/
def sagaAppliesUptoRow : OpenClaim := { program := "ytbfjcbhpbldlcaa", sum := "0f3046bfe85079148a30550cbf6198644151e3d95638fdaebd9225fb8bf92a73", func := "amanuensis/amanuensislaw14.SagaApplies", spec := "sagaApplies", inPlace := ["internal/abi.NoEscape", "internal/bytealg.IndexByteString"], unfollowed := true, recurses := true, apart := false, narrowed := true }
def SagaAppliesUptoSaid : Prop := sagaAppliesUptoRow.holds Try.pinned (OpenSpec.upto sagaAppliesSpec)

end Rows
end Go.Proofs.Ytbfjcbhpbldlcaa
