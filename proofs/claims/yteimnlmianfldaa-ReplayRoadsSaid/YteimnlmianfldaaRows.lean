/-
  No cell of these rows narrows 'for every input' (looked for: loops, veiled, ifaces, maps, wideKeys, modest, calm, conditions, laid).
  DERIVED. THE GIVEN ROWS OF THIS SEAT. 4 by the template 'for every input the law returns true; each argument reads behind the call as it read before'; 0 by the template 'total and deterministic' (their statements: YteimnlmianfldaaTotals.lean).
  GIVEN WITH THE SEED: the statements are not yours to turn. If you find one false, say at which input.
  Laid BY PROGRAM, IN A SANDBOX (cutbox-rows.mjs): the forced cells as the released guide's own fill.sh prints them over the translation 96a603994691352e… (all of the seat's roots in one cut). By AI agents, Wed Nov 11 2026. No macro, syntax, notation, axiom, sorry.
-/
import Derived.Test.YteimnlmianfldaaChecked
import GoSem.Claim
import GoSem.ClaimJoined
import GoSem.ClaimMapViews
import Derived.JoinedTies
import Derived.KernelRfl
namespace Go.Proofs.Yteimnlmianfldaa
/- THE CELL 'sum', in the pinned program and in every row, IS THE sha256 OF THE DUMP (.gsa) THAT YteimnlmianfldaaProg.lean LOADS. Nothing in Lean hashes anything: it is a label: what it is worth is what the hold of that sum in a sandbox is worth. -/
noncomputable def Try.pinned : Pinned := { name := "yteimnlmianfldaa", sum := "96a603994691352e4ccb2ffe754c0b8f95978847957d917ead735c7fb59ea812", checked := Try.checked }
namespace Rows
def none {H : Type} : Left H := { results := [], args := [] }

/-- 'amanuensislaw15.ReplayBroken': WHATEVER THE INPUT: true; the input reads as it did. -/
def replayBrokenSpec : ChangeSpec := { name := "replayBroken", fn := fun _ => fun
  | [d] => { results := [.lit (.bool true)], args := [d] }
  | _ => none }
def replayBrokenRow : OpenClaim := { program := "yteimnlmianfldaa", sum := "96a603994691352e4ccb2ffe754c0b8f95978847957d917ead735c7fb59ea812", func := "amanuensis/amanuensislaw15.ReplayBroken", spec := "replayBroken", inPlace := ["internal/abi.NoEscape", "internal/bytealg.IndexByteString"], unfollowed := true, recurses := true, apart := false }
def ReplayBrokenSaid : Prop := replayBrokenRow.holds Try.pinned (OpenSpec.ofChange replayBrokenSpec)

/-- ITS FALSE NEIGHBOUR: 'it returns false'. Refute it at one input. -/
def replayBrokenWrong : ChangeSpec := { name := "replayBroken", fn := fun _ => fun
  | [d] => { results := [.lit (.bool false)], args := [d] }
  | _ => none }
def ReplayBrokenWrongFalsely : Prop := replayBrokenRow.holds Try.pinned (OpenSpec.ofChange replayBrokenWrong)

/-- 'amanuensislaw15.ReplayRoads': WHATEVER THE INPUT: true; the input reads as it did. -/
def replayRoadsSpec : ChangeSpec := { name := "replayRoads", fn := fun _ => fun
  | [d] => { results := [.lit (.bool true)], args := [d] }
  | _ => none }
def replayRoadsRow : OpenClaim := { program := "yteimnlmianfldaa", sum := "96a603994691352e4ccb2ffe754c0b8f95978847957d917ead735c7fb59ea812", func := "amanuensis/amanuensislaw15.ReplayRoads", spec := "replayRoads", inPlace := ["internal/abi.NoEscape", "internal/bytealg.IndexByteString"], unfollowed := true, recurses := true, apart := false }
def ReplayRoadsSaid : Prop := replayRoadsRow.holds Try.pinned (OpenSpec.ofChange replayRoadsSpec)

/-- ITS FALSE NEIGHBOUR: 'it returns false'. Refute it at one input. -/
def replayRoadsWrong : ChangeSpec := { name := "replayRoads", fn := fun _ => fun
  | [d] => { results := [.lit (.bool false)], args := [d] }
  | _ => none }
def ReplayRoadsWrongFalsely : Prop := replayRoadsRow.holds Try.pinned (OpenSpec.ofChange replayRoadsWrong)

/-- 'amanuensislaw15.ReplayKeys': WHATEVER THE INPUT: true; the input reads as it did. -/
def replayKeysSpec : ChangeSpec := { name := "replayKeys", fn := fun _ => fun
  | [d] => { results := [.lit (.bool true)], args := [d] }
  | _ => none }
def replayKeysRow : OpenClaim := { program := "yteimnlmianfldaa", sum := "96a603994691352e4ccb2ffe754c0b8f95978847957d917ead735c7fb59ea812", func := "amanuensis/amanuensislaw15.ReplayKeys", spec := "replayKeys", inPlace := ["internal/abi.NoEscape", "internal/bytealg.IndexByteString"], unfollowed := true, recurses := true, apart := false }
def ReplayKeysSaid : Prop := replayKeysRow.holds Try.pinned (OpenSpec.ofChange replayKeysSpec)

/-- ITS FALSE NEIGHBOUR: 'it returns false'. Refute it at one input. -/
def replayKeysWrong : ChangeSpec := { name := "replayKeys", fn := fun _ => fun
  | [d] => { results := [.lit (.bool false)], args := [d] }
  | _ => none }
def ReplayKeysWrongFalsely : Prop := replayKeysRow.holds Try.pinned (OpenSpec.ofChange replayKeysWrong)

/-- 'amanuensislaw15.ReplayMore': WHATEVER THE INPUT: true; the input reads as it did. -/
def replayMoreSpec : ChangeSpec := { name := "replayMore", fn := fun _ => fun
  | [d] => { results := [.lit (.bool true)], args := [d] }
  | _ => none }
def replayMoreRow : OpenClaim := { program := "yteimnlmianfldaa", sum := "96a603994691352e4ccb2ffe754c0b8f95978847957d917ead735c7fb59ea812", func := "amanuensis/amanuensislaw15.ReplayMore", spec := "replayMore", inPlace := ["internal/abi.NoEscape", "internal/bytealg.IndexByteString"], unfollowed := true, recurses := true, apart := false }
def ReplayMoreSaid : Prop := replayMoreRow.holds Try.pinned (OpenSpec.ofChange replayMoreSpec)

/-- ITS FALSE NEIGHBOUR: 'it returns false'. Refute it at one input. -/
def replayMoreWrong : ChangeSpec := { name := "replayMore", fn := fun _ => fun
  | [d] => { results := [.lit (.bool false)], args := [d] }
  | _ => none }
def ReplayMoreWrongFalsely : Prop := replayMoreRow.holds Try.pinned (OpenSpec.ofChange replayMoreWrong)

/- THE SECOND FORM. 'bulk': how many values and letters a reading holds, each counted each time it is reached (what is shared counts as often as it is met; a slice's spare places count too). A statement '..UptoSaid' is the law's where the arguments, and the package variables that the reading takes, are together of bulk at most 1048576: NARROWER than '..Said'. Prove '..Said' where nothing that the law and all that it calls make is longer than what came in: it says more and counts as full. Else prove '..UptoSaid'. A law counts once. -/
mutual
def uptoBulk {H : Type} : DataW H → Nat
  | .lit (.string bytes) => bytes.length + 1
  | .lit _ => 1
  | .nil => 1
  | .ptr d => uptoBulk d + 1
  | .slice elems spare => uptoBulkAll elems + uptoBulkAll spare + 1
  | .agg parts => uptoBulkAll parts + 1
  | .iface _ d => uptoBulk d + 1
  | .map entries => uptoBulkEntries entries + 1
  | .held _ => 1
def uptoBulkAll {H : Type} : List (DataW H) → Nat
  | [] => 0
  | d :: r => uptoBulk d + uptoBulkAll r
def uptoBulkEntries {H : Type} : List (Lit × DataW H) → Nat
  | [] => 0
  | x :: r => uptoBulkEntry x + uptoBulkEntries r
def uptoBulkEntry {H : Type} : Lit × DataW H → Nat
  | (.string bytes, d) => bytes.length + uptoBulk d + 1
  | (_, d) => uptoBulk d + 1
 end
def uptoSmall : (H : Type) → List (DataW H) → Bool := fun _ ds => decide (uptoBulkAll ds ≤ 1048576)
def OpenSpec.upto (s : _root_.Go.ChangeSpec) : _root_.Go.OpenSpec := { _root_.Go.OpenSpec.ofChange s with cond := some uptoSmall }

/-- 'amanuensislaw15.ReplayBroken', WHERE WHAT IT READS IS OF BULK AT MOST 1048576: true; the input reads as it did. -/
def replayBrokenUptoRow : OpenClaim := { program := "yteimnlmianfldaa", sum := "96a603994691352e4ccb2ffe754c0b8f95978847957d917ead735c7fb59ea812", func := "amanuensis/amanuensislaw15.ReplayBroken", spec := "replayBroken", inPlace := ["internal/abi.NoEscape", "internal/bytealg.IndexByteString"], unfollowed := true, recurses := true, apart := false, narrowed := true }
def ReplayBrokenUptoSaid : Prop := replayBrokenUptoRow.holds Try.pinned (OpenSpec.upto replayBrokenSpec)

/-- 'amanuensislaw15.ReplayRoads', WHERE WHAT IT READS IS OF BULK AT MOST 1048576: true; the input reads as it did. -/
def replayRoadsUptoRow : OpenClaim := { program := "yteimnlmianfldaa", sum := "96a603994691352e4ccb2ffe754c0b8f95978847957d917ead735c7fb59ea812", func := "amanuensis/amanuensislaw15.ReplayRoads", spec := "replayRoads", inPlace := ["internal/abi.NoEscape", "internal/bytealg.IndexByteString"], unfollowed := true, recurses := true, apart := false, narrowed := true }
def ReplayRoadsUptoSaid : Prop := replayRoadsUptoRow.holds Try.pinned (OpenSpec.upto replayRoadsSpec)

/-- 'amanuensislaw15.ReplayKeys', WHERE WHAT IT READS IS OF BULK AT MOST 1048576: true; the input reads as it did. -/
def replayKeysUptoRow : OpenClaim := { program := "yteimnlmianfldaa", sum := "96a603994691352e4ccb2ffe754c0b8f95978847957d917ead735c7fb59ea812", func := "amanuensis/amanuensislaw15.ReplayKeys", spec := "replayKeys", inPlace := ["internal/abi.NoEscape", "internal/bytealg.IndexByteString"], unfollowed := true, recurses := true, apart := false, narrowed := true }
def ReplayKeysUptoSaid : Prop := replayKeysUptoRow.holds Try.pinned (OpenSpec.upto replayKeysSpec)

/-- 'amanuensislaw15.ReplayMore', WHERE WHAT IT READS IS OF BULK AT MOST 1048576: true; the input reads as it did. -/
def replayMoreUptoRow : OpenClaim := { program := "yteimnlmianfldaa", sum := "96a603994691352e4ccb2ffe754c0b8f95978847957d917ead735c7fb59ea812", func := "amanuensis/amanuensislaw15.ReplayMore", spec := "replayMore", inPlace := ["internal/abi.NoEscape", "internal/bytealg.IndexByteString"], unfollowed := true, recurses := true, apart := false, narrowed := true }
def ReplayMoreUptoSaid : Prop := replayMoreUptoRow.holds Try.pinned (OpenSpec.upto replayMoreSpec)

end Rows
end Go.Proofs.Yteimnlmianfldaa
