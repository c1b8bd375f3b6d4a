/-
  No cell of these rows narrows 'for every input' (looked for: loops, veiled, ifaces, maps, wideKeys, modest, calm, conditions, laid).
  DERIVED. THE GIVEN ROWS OF THIS SEAT. 6 by the template 'for every input the law returns true; each argument reads behind the call as it read before'; 0 by the template 'total and deterministic' (their statements: YtdifjeaplceadaaGreatTotals.lean).
  GIVEN WITH THE SEED: the statements are not yours to turn. If you find one false, say at which input.
  Laid BY PROGRAM, IN A SANDBOX (cutbox-rows.mjs): the forced cells as the released guide's own fill.sh prints them over the translation a5ad4ce54e3337ba… (all of the seat's roots in one cut). By AI agents, Wed Nov 11 2026. No macro, syntax, notation, axiom, sorry.
-/
import Derived.Test.YtdifjeaplceadaaGreatChecked
import GoSem.Claim
import GoSem.ClaimJoined
import GoSem.ClaimMapViews
import Derived.JoinedTies
import Derived.KernelRfl
namespace Go.Proofs.YtdifjeaplceadaaGreat
/- THE CELL 'sum', in the pinned program and in every row, IS THE sha256 OF THE DUMP (.gsa) THAT YtdifjeaplceadaaGreatProg.lean LOADS. Nothing in Lean hashes anything: it is a label: what it is worth is what the hold of that sum in a sandbox is worth. -/
noncomputable def Tryz.pinned : Pinned := { name := "ytdifjeaplceadaagreat", sum := "a5ad4ce54e3337ba6edd699bdc58ec296a6602d23431f0eec124446d2385fa4c", checked := Tryz.checked }
namespace Rows
def none {H : Type} : Left H := { results := [], args := [] }

/-- 'amanuensislaw11.RecordBegin': WHATEVER THE INPUT: true; the input reads as it did. -/
def recordBeginSpec : ChangeSpec := { name := "recordBegin", fn := fun _ => fun
  | [d] => { results := [.lit (.bool true)], args := [d] }
  | _ => none }
def recordBeginRow : OpenClaim := { program := "ytdifjeaplceadaagreat", sum := "a5ad4ce54e3337ba6edd699bdc58ec296a6602d23431f0eec124446d2385fa4c", func := "amanuensis/amanuensislaw11.RecordBegin", spec := "recordBegin", inPlace := ["internal/abi.NoEscape", "internal/bytealg.IndexByteString"], unfollowed := true, recurses := true, apart := false }
def RecordBeginSaid : Prop := recordBeginRow.holds Tryz.pinned (OpenSpec.ofChange recordBeginSpec)

/-- ITS FALSE NEIGHBOUR: 'it returns false'. Refute it at one input. -/
def recordBeginWrong : ChangeSpec := { name := "recordBegin", fn := fun _ => fun
  | [d] => { results := [.lit (.bool false)], args := [d] }
  | _ => none }
def RecordBeginWrongFalsely : Prop := recordBeginRow.holds Tryz.pinned (OpenSpec.ofChange recordBeginWrong)

/-- 'amanuensislaw11.RecordCall': WHATEVER THE INPUT: true; the input reads as it did. -/
def recordCallSpec : ChangeSpec := { name := "recordCall", fn := fun _ => fun
  | [d] => { results := [.lit (.bool true)], args := [d] }
  | _ => none }
def recordCallRow : OpenClaim := { program := "ytdifjeaplceadaagreat", sum := "a5ad4ce54e3337ba6edd699bdc58ec296a6602d23431f0eec124446d2385fa4c", func := "amanuensis/amanuensislaw11.RecordCall", spec := "recordCall", inPlace := ["internal/abi.NoEscape", "internal/bytealg.IndexByteString"], unfollowed := true, recurses := true, apart := false }
def RecordCallSaid : Prop := recordCallRow.holds Tryz.pinned (OpenSpec.ofChange recordCallSpec)

/-- ITS FALSE NEIGHBOUR: 'it returns false'. Refute it at one input. -/
def recordCallWrong : ChangeSpec := { name := "recordCall", fn := fun _ => fun
  | [d] => { results := [.lit (.bool false)], args := [d] }
  | _ => none }
def RecordCallWrongFalsely : Prop := recordCallRow.holds Tryz.pinned (OpenSpec.ofChange recordCallWrong)

/-- 'amanuensislaw11.RecordDone': WHATEVER THE INPUT: true; the input reads as it did. -/
def recordDoneSpec : ChangeSpec := { name := "recordDone", fn := fun _ => fun
  | [d] => { results := [.lit (.bool true)], args := [d] }
  | _ => none }
def recordDoneRow : OpenClaim := { program := "ytdifjeaplceadaagreat", sum := "a5ad4ce54e3337ba6edd699bdc58ec296a6602d23431f0eec124446d2385fa4c", func := "amanuensis/amanuensislaw11.RecordDone", spec := "recordDone", inPlace := ["internal/abi.NoEscape", "internal/bytealg.IndexByteString"], unfollowed := true, recurses := true, apart := false }
def RecordDoneSaid : Prop := recordDoneRow.holds Tryz.pinned (OpenSpec.ofChange recordDoneSpec)

/-- ITS FALSE NEIGHBOUR: 'it returns false'. Refute it at one input. -/
def recordDoneWrong : ChangeSpec := { name := "recordDone", fn := fun _ => fun
  | [d] => { results := [.lit (.bool false)], args := [d] }
  | _ => none }
def RecordDoneWrongFalsely : Prop := recordDoneRow.holds Tryz.pinned (OpenSpec.ofChange recordDoneWrong)

/-- 'amanuensislaw11.RecordAbort': WHATEVER THE INPUT: true; the input reads as it did. -/
def recordAbortSpec : ChangeSpec := { name := "recordAbort", fn := fun _ => fun
  | [d] => { results := [.lit (.bool true)], args := [d] }
  | _ => none }
def recordAbortRow : OpenClaim := { program := "ytdifjeaplceadaagreat", sum := "a5ad4ce54e3337ba6edd699bdc58ec296a6602d23431f0eec124446d2385fa4c", func := "amanuensis/amanuensislaw11.RecordAbort", spec := "recordAbort", inPlace := ["internal/abi.NoEscape", "internal/bytealg.IndexByteString"], unfollowed := true, recurses := true, apart := false }
def RecordAbortSaid : Prop := recordAbortRow.holds Tryz.pinned (OpenSpec.ofChange recordAbortSpec)

/-- ITS FALSE NEIGHBOUR: 'it returns false'. Refute it at one input. -/
def recordAbortWrong : ChangeSpec := { name := "recordAbort", fn := fun _ => fun
  | [d] => { results := [.lit (.bool false)], args := [d] }
  | _ => none }
def RecordAbortWrongFalsely : Prop := recordAbortRow.holds Tryz.pinned (OpenSpec.ofChange recordAbortWrong)

/-- 'amanuensislaw11.RecordUndone': WHATEVER THE INPUT: true; the input reads as it did. -/
def recordUndoneSpec : ChangeSpec := { name := "recordUndone", fn := fun _ => fun
  | [d] => { results := [.lit (.bool true)], args := [d] }
  | _ => none }
def recordUndoneRow : OpenClaim := { program := "ytdifjeaplceadaagreat", sum := "a5ad4ce54e3337ba6edd699bdc58ec296a6602d23431f0eec124446d2385fa4c", func := "amanuensis/amanuensislaw11.RecordUndone", spec := "recordUndone", inPlace := ["internal/abi.NoEscape", "internal/bytealg.IndexByteString"], unfollowed := true, recurses := true, apart := false }
def RecordUndoneSaid : Prop := recordUndoneRow.holds Tryz.pinned (OpenSpec.ofChange recordUndoneSpec)

/-- ITS FALSE NEIGHBOUR: 'it returns false'. Refute it at one input. -/
def recordUndoneWrong : ChangeSpec := { name := "recordUndone", fn := fun _ => fun
  | [d] => { results := [.lit (.bool false)], args := [d] }
  | _ => none }
def RecordUndoneWrongFalsely : Prop := recordUndoneRow.holds Tryz.pinned (OpenSpec.ofChange recordUndoneWrong)

/-- 'amanuensislaw11.RecordEnd': WHATEVER THE INPUT: true; the input reads as it did. -/
def recordEndSpec : ChangeSpec := { name := "recordEnd", fn := fun _ => fun
  | [d] => { results := [.lit (.bool true)], args := [d] }
  | _ => none }
def recordEndRow : OpenClaim := { program := "ytdifjeaplceadaagreat", sum := "a5ad4ce54e3337ba6edd699bdc58ec296a6602d23431f0eec124446d2385fa4c", func := "amanuensis/amanuensislaw11.RecordEnd", spec := "recordEnd", inPlace := ["internal/abi.NoEscape", "internal/bytealg.IndexByteString"], unfollowed := true, recurses := true, apart := false }
def RecordEndSaid : Prop := recordEndRow.holds Tryz.pinned (OpenSpec.ofChange recordEndSpec)

/-- ITS FALSE NEIGHBOUR: 'it returns false'. Refute it at one input. -/
def recordEndWrong : ChangeSpec := { name := "recordEnd", fn := fun _ => fun
  | [d] => { results := [.lit (.bool false)], args := [d] }
  | _ => none }
def RecordEndWrongFalsely : Prop := recordEndRow.holds Tryz.pinned (OpenSpec.ofChange recordEndWrong)

/- THE SECOND FORM. 'bulk': how many values and letters a reading holds, each counted each time it is reached (what is shared counts as often as it is met; a slice's spare places count too). A statement '..UptoSaid' is the law's where the arguments, and the package variables that the reading takes, are together of bulk at most 1048576: NARROWER than '..Said'. Prove '..Said' where nothing that the law and all that it calls make is longer than what came in: it says more and counts as full. Else prove '..UptoSaid'. A law counts once. -/
mutual
def uptoBulk {H : Type} : DataW H → Nat
  | .lit (.string bytes) => bytes.length + 1
  | .lit _ => 1
  | .nil => 1
  | .ptr d => uptoBulk d + 1
  | .slice elems spare => uptoBulkAll elems + uptoBulkAll spare + 1
  | .agg parts => uptoBulkAll parts + 1
  | .iface _ d => uptoBulk d + 1
  | .map entries => uptoBulkEntries entries + 1
  | .held _ => 1
def uptoBulkAll {H : Type} : List (DataW H) → Nat
  | [] => 0
  | d :: r => uptoBulk d + uptoBulkAll r
def uptoBulkEntries {H : Type} : List (Lit × DataW H) → Nat
  | [] => 0
  | x :: r => uptoBulkEntry x + uptoBulkEntries r
def uptoBulkEntry {H : Type} : Lit × DataW H → Nat
  | (.string bytes, d) => bytes.length + uptoBulk d + 1
  | (_, d) => uptoBulk d + 1
 end
def uptoSmall : (H : Type) → List (DataW H) → Bool := fun _ ds => decide (uptoBulkAll ds ≤ 1048576)
def OpenSpec.upto (s : _root_.Go.ChangeSpec) : _root_.Go.OpenSpec := { _root_.Go.OpenSpec.ofChange s with cond := some uptoSmall }

/-- 'amanuensislaw11.RecordBegin', WHERE WHAT IT READS IS OF BULK AT MOST 1048576: true; the input reads as it did. -/
def recordBeginUptoRow : OpenClaim := { program := "ytdifjeaplceadaagreat", sum := "a5ad4ce54e3337ba6edd699bdc58ec296a6602d23431f0eec124446d2385fa4c", func := "amanuensis/amanuensislaw11.RecordBegin", spec := "recordBegin", inPlace := ["internal/abi.NoEscape", "internal/bytealg.IndexByteString"], unfollowed := true, recurses := true, apart := false, narrowed := true }
def RecordBeginUptoSaid : Prop := recordBeginUptoRow.holds Tryz.pinned (OpenSpec.upto recordBeginSpec)

/-- 'amanuensislaw11.RecordCall', WHERE WHAT IT READS IS OF BULK AT MOST 1048576: true; the input reads as it did. -/
def recordCallUptoRow : OpenClaim := { program := "ytdifjeaplceadaagreat", sum := "a5ad4ce54e3337ba6edd699bdc58ec296a6602d23431f0eec124446d2385fa4c", func := "amanuensis/amanuensislaw11.RecordCall", spec := "recordCall", inPlace := ["internal/abi.NoEscape", "internal/bytealg.IndexByteString"], unfollowed := true, recurses := true, apart := false, narrowed := true }
def RecordCallUptoSaid : Prop := recordCallUptoRow.holds Tryz.pinned (OpenSpec.upto recordCallSpec)

/-- 'amanuensislaw11.RecordDone', WHERE WHAT IT READS IS OF BULK AT MOST 1048576: true; the input reads as it did. -/
def recordDoneUptoRow : OpenClaim := { program := "ytdifjeaplceadaagreat", sum := "a5ad4ce54e3337ba6edd699bdc58ec296a6602d23431f0eec124446d2385fa4c", func := "amanuensis/amanuensislaw11.RecordDone", spec := "recordDone", inPlace := ["internal/abi.NoEscape", "internal/bytealg.IndexByteString"], unfollowed := true, recurses := true, apart := false, narrowed := true }
def RecordDoneUptoSaid : Prop := recordDoneUptoRow.holds Tryz.pinned (OpenSpec.upto recordDoneSpec)

/-- 'amanuensislaw11.RecordAbort', WHERE WHAT IT READS IS OF BULK AT MOST 1048576: true; the input reads as it did. -/
def recordAbortUptoRow : OpenClaim := { program := "ytdifjeaplceadaagreat", sum := "a5ad4ce54e3337ba6edd699bdc58ec296a6602d23431f0eec124446d2385fa4c", func := "amanuensis/amanuensislaw11.RecordAbort", spec := "recordAbort", inPlace := ["internal/abi.NoEscape", "internal/bytealg.IndexByteString"], unfollowed := true, recurses := true, apart := false, narrowed := true }
def RecordAbortUptoSaid : Prop := recordAbortUptoRow.holds Tryz.pinned (OpenSpec.upto recordAbortSpec)

/-- 'amanuensislaw11.RecordUndone', WHERE WHAT IT READS IS OF BULK AT MOST 1048576: true; the input reads as it did. -/
def recordUndoneUptoRow : OpenClaim := { program := "ytdifjeaplceadaagreat", sum := "a5ad4ce54e3337ba6edd699bdc58ec296a6602d23431f0eec124446d2385fa4c", func := "amanuensis/amanuensislaw11.RecordUndone", spec := "recordUndone", inPlace := ["internal/abi.NoEscape", "internal/bytealg.IndexByteString"], unfollowed := true, recurses := true, apart := false, narrowed := true }
def RecordUndoneUptoSaid : Prop := recordUndoneUptoRow.holds Tryz.pinned (OpenSpec.upto recordUndoneSpec)

/-- 'amanuensislaw11.RecordEnd', WHERE WHAT IT READS IS OF BULK AT MOST 1048576: true; the input reads as it did. -/
def recordEndUptoRow : OpenClaim := { program := "ytdifjeaplceadaagreat", sum := "a5ad4ce54e3337ba6edd699bdc58ec296a6602d23431f0eec124446d2385fa4c", func := "amanuensis/amanuensislaw11.RecordEnd", spec := "recordEnd", inPlace := ["internal/abi.NoEscape", "internal/bytealg.IndexByteString"], unfollowed := true, recurses := true, apart := false, narrowed := true }
def RecordEndUptoSaid : Prop := recordEndUptoRow.holds Tryz.pinned (OpenSpec.upto recordEndSpec)

end Rows
end Go.Proofs.YtdifjeaplceadaaGreat
