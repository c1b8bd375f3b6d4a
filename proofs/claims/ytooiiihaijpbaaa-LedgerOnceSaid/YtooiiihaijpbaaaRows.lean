/-
  No cell of these rows narrows 'for every input' (looked for: loops, veiled, ifaces, maps, wideKeys, modest, calm, conditions, laid).
  DERIVED. THE GIVEN ROWS OF THIS SEAT. 11 by the template 'for every input the law returns true; each argument reads behind the call as it read before'; 0 by the template 'total and deterministic' (their statements: YtooiiihaijpbaaaTotals.lean).
  GIVEN WITH THE SEED: the statements are not yours to turn. If you find one false, say at which input.
  Laid BY PROGRAM, IN A SANDBOX (cutbox-rows.mjs): the forced cells as the released guide's own fill.sh prints them over the translation a38863766fbb4128… (all of the seat's roots in one cut). By AI agents, Wed Nov 11 2026. No macro, syntax, notation, axiom, sorry.
-/
import Derived.Test.YtooiiihaijpbaaaChecked
import GoSem.Claim
import GoSem.ClaimJoined
import GoSem.ClaimMapViews
import Derived.JoinedTies
import Derived.KernelRfl
namespace Go.Proofs.Ytooiiihaijpbaaa
/- THE CELL 'sum', in the pinned program and in every row, IS THE sha256 OF THE DUMP (.gsa) THAT YtooiiihaijpbaaaProg.lean LOADS. Nothing in Lean hashes anything: it is a label: what it is worth is what the hold of that sum in a sandbox is worth. -/
noncomputable def Try.pinned : Pinned := { name := "ytooiiihaijpbaaa", sum := "a38863766fbb41280dbbfe9d63b31c8b0f5f5089175ed128f8affef7c58b6170", checked := Try.checked }
namespace Rows
def none {H : Type} : Left H := { results := [], args := [] }

/-- 'amanuensislaw9.LedgerFull': WHATEVER THE INPUT: true; the input reads as it did. -/
def ledgerFullSpec : ChangeSpec := { name := "ledgerFull", fn := fun _ => fun
  | [d] => { results := [.lit (.bool true)], args := [d] }
  | _ => none }
def ledgerFullRow : OpenClaim := { program := "ytooiiihaijpbaaa", sum := "a38863766fbb41280dbbfe9d63b31c8b0f5f5089175ed128f8affef7c58b6170", func := "amanuensis/amanuensislaw9.LedgerFull", spec := "ledgerFull", inPlace := ["slices.overlaps[int]"], unfollowed := true, recurses := true, apart := false }
def LedgerFullSaid : Prop := ledgerFullRow.holds Try.pinned (OpenSpec.ofChange ledgerFullSpec)

/-- ITS FALSE NEIGHBOUR: 'it returns false'. Refute it at one input. -/
def ledgerFullWrong : ChangeSpec := { name := "ledgerFull", fn := fun _ => fun
  | [d] => { results := [.lit (.bool false)], args := [d] }
  | _ => none }
def LedgerFullWrongFalsely : Prop := ledgerFullRow.holds Try.pinned (OpenSpec.ofChange ledgerFullWrong)

/-- 'amanuensislaw9.LedgerOnce': WHATEVER THE INPUT: true; the input reads as it did. -/
def ledgerOnceSpec : ChangeSpec := { name := "ledgerOnce", fn := fun _ => fun
  | [d] => { results := [.lit (.bool true)], args := [d] }
  | _ => none }
def ledgerOnceRow : OpenClaim := { program := "ytooiiihaijpbaaa", sum := "a38863766fbb41280dbbfe9d63b31c8b0f5f5089175ed128f8affef7c58b6170", func := "amanuensis/amanuensislaw9.LedgerOnce", spec := "ledgerOnce", inPlace := ["slices.overlaps[int]"], unfollowed := true, recurses := true, apart := false }
def LedgerOnceSaid : Prop := ledgerOnceRow.holds Try.pinned (OpenSpec.ofChange ledgerOnceSpec)

/-- ITS FALSE NEIGHBOUR: 'it returns false'. Refute it at one input. -/
def ledgerOnceWrong : ChangeSpec := { name := "ledgerOnce", fn := fun _ => fun
  | [d] => { results := [.lit (.bool false)], args := [d] }
  | _ => none }
def LedgerOnceWrongFalsely : Prop := ledgerOnceRow.holds Try.pinned (OpenSpec.ofChange ledgerOnceWrong)

/-- 'amanuensislaw9.LedgerExact': WHATEVER THE INPUT: true; the input reads as it did. -/
def ledgerExactSpec : ChangeSpec := { name := "ledgerExact", fn := fun _ => fun
  | [d] => { results := [.lit (.bool true)], args := [d] }
  | _ => none }
def ledgerExactRow : OpenClaim := { program := "ytooiiihaijpbaaa", sum := "a38863766fbb41280dbbfe9d63b31c8b0f5f5089175ed128f8affef7c58b6170", func := "amanuensis/amanuensislaw9.LedgerExact", spec := "ledgerExact", inPlace := ["slices.overlaps[int]"], unfollowed := true, recurses := true, apart := false }
def LedgerExactSaid : Prop := ledgerExactRow.holds Try.pinned (OpenSpec.ofChange ledgerExactSpec)

/-- ITS FALSE NEIGHBOUR: 'it returns false'. Refute it at one input. -/
def ledgerExactWrong : ChangeSpec := { name := "ledgerExact", fn := fun _ => fun
  | [d] => { results := [.lit (.bool false)], args := [d] }
  | _ => none }
def LedgerExactWrongFalsely : Prop := ledgerExactRow.holds Try.pinned (OpenSpec.ofChange ledgerExactWrong)

/-- 'amanuensislaw9.LedgerCalls': WHATEVER THE INPUT: true; the input reads as it did. -/
def ledgerCallsSpec : ChangeSpec := { name := "ledgerCalls", fn := fun _ => fun
  | [d] => { results := [.lit (.bool true)], args := [d] }
  | _ => none }
def ledgerCallsRow : OpenClaim := { program := "ytooiiihaijpbaaa", sum := "a38863766fbb41280dbbfe9d63b31c8b0f5f5089175ed128f8affef7c58b6170", func := "amanuensis/amanuensislaw9.LedgerCalls", spec := "ledgerCalls", inPlace := ["slices.overlaps[int]"], unfollowed := true, recurses := true, apart := false }
def LedgerCallsSaid : Prop := ledgerCallsRow.holds Try.pinned (OpenSpec.ofChange ledgerCallsSpec)

/-- ITS FALSE NEIGHBOUR: 'it returns false'. Refute it at one input. -/
def ledgerCallsWrong : ChangeSpec := { name := "ledgerCalls", fn := fun _ => fun
  | [d] => { results := [.lit (.bool false)], args := [d] }
  | _ => none }
def LedgerCallsWrongFalsely : Prop := ledgerCallsRow.holds Try.pinned (OpenSpec.ofChange ledgerCallsWrong)

/-- 'amanuensislaw9.LedgerUndos': WHATEVER THE INPUT: true; the input reads as it did. -/
def ledgerUndosSpec : ChangeSpec := { name := "ledgerUndos", fn := fun _ => fun
  | [d] => { results := [.lit (.bool true)], args := [d] }
  | _ => none }
def ledgerUndosRow : OpenClaim := { program := "ytooiiihaijpbaaa", sum := "a38863766fbb41280dbbfe9d63b31c8b0f5f5089175ed128f8affef7c58b6170", func := "amanuensis/amanuensislaw9.LedgerUndos", spec := "ledgerUndos", inPlace := ["slices.overlaps[int]"], unfollowed := true, recurses := true, apart := false }
def LedgerUndosSaid : Prop := ledgerUndosRow.holds Try.pinned (OpenSpec.ofChange ledgerUndosSpec)

/-- ITS FALSE NEIGHBOUR: 'it returns false'. Refute it at one input. -/
def ledgerUndosWrong : ChangeSpec := { name := "ledgerUndos", fn := fun _ => fun
  | [d] => { results := [.lit (.bool false)], args := [d] }
  | _ => none }
def LedgerUndosWrongFalsely : Prop := ledgerUndosRow.holds Try.pinned (OpenSpec.ofChange ledgerUndosWrong)

/-- 'amanuensislaw9.LedgerLost': WHATEVER THE INPUT: true; the input reads as it did. -/
def ledgerLostSpec : ChangeSpec := { name := "ledgerLost", fn := fun _ => fun
  | [d] => { results := [.lit (.bool true)], args := [d] }
  | _ => none }
def ledgerLostRow : OpenClaim := { program := "ytooiiihaijpbaaa", sum := "a38863766fbb41280dbbfe9d63b31c8b0f5f5089175ed128f8affef7c58b6170", func := "amanuensis/amanuensislaw9.LedgerLost", spec := "ledgerLost", inPlace := ["slices.overlaps[int]"], unfollowed := true, recurses := true, apart := false }
def LedgerLostSaid : Prop := ledgerLostRow.holds Try.pinned (OpenSpec.ofChange ledgerLostSpec)

/-- ITS FALSE NEIGHBOUR: 'it returns false'. Refute it at one input. -/
def ledgerLostWrong : ChangeSpec := { name := "ledgerLost", fn := fun _ => fun
  | [d] => { results := [.lit (.bool false)], args := [d] }
  | _ => none }
def LedgerLostWrongFalsely : Prop := ledgerLostRow.holds Try.pinned (OpenSpec.ofChange ledgerLostWrong)

/-- 'amanuensislaw9.LedgerRefused': WHATEVER THE INPUT: true; the input reads as it did. -/
def ledgerRefusedSpec : ChangeSpec := { name := "ledgerRefused", fn := fun _ => fun
  | [d] => { results := [.lit (.bool true)], args := [d] }
  | _ => none }
def ledgerRefusedRow : OpenClaim := { program := "ytooiiihaijpbaaa", sum := "a38863766fbb41280dbbfe9d63b31c8b0f5f5089175ed128f8affef7c58b6170", func := "amanuensis/amanuensislaw9.LedgerRefused", spec := "ledgerRefused", inPlace := ["slices.overlaps[int]"], unfollowed := true, recurses := true, apart := false }
def LedgerRefusedSaid : Prop := ledgerRefusedRow.holds Try.pinned (OpenSpec.ofChange ledgerRefusedSpec)

/-- ITS FALSE NEIGHBOUR: 'it returns false'. Refute it at one input. -/
def ledgerRefusedWrong : ChangeSpec := { name := "ledgerRefused", fn := fun _ => fun
  | [d] => { results := [.lit (.bool false)], args := [d] }
  | _ => none }
def LedgerRefusedWrongFalsely : Prop := ledgerRefusedRow.holds Try.pinned (OpenSpec.ofChange ledgerRefusedWrong)

/-- 'amanuensislaw9.LedgerAccount': WHATEVER THE INPUT: true; the input reads as it did. -/
def ledgerAccountSpec : ChangeSpec := { name := "ledgerAccount", fn := fun _ => fun
  | [d] => { results := [.lit (.bool true)], args := [d] }
  | _ => none }
def ledgerAccountRow : OpenClaim := { program := "ytooiiihaijpbaaa", sum := "a38863766fbb41280dbbfe9d63b31c8b0f5f5089175ed128f8affef7c58b6170", func := "amanuensis/amanuensislaw9.LedgerAccount", spec := "ledgerAccount", inPlace := ["slices.overlaps[int]"], unfollowed := true, recurses := true, apart := false }
def LedgerAccountSaid : Prop := ledgerAccountRow.holds Try.pinned (OpenSpec.ofChange ledgerAccountSpec)

/-- ITS FALSE NEIGHBOUR: 'it returns false'. Refute it at one input. -/
def ledgerAccountWrong : ChangeSpec := { name := "ledgerAccount", fn := fun _ => fun
  | [d] => { results := [.lit (.bool false)], args := [d] }
  | _ => none }
def LedgerAccountWrongFalsely : Prop := ledgerAccountRow.holds Try.pinned (OpenSpec.ofChange ledgerAccountWrong)

/-- 'amanuensislaw9.LedgerInventory': WHATEVER THE INPUT: true; the input reads as it did. -/
def ledgerInventorySpec : ChangeSpec := { name := "ledgerInventory", fn := fun _ => fun
  | [d] => { results := [.lit (.bool true)], args := [d] }
  | _ => none }
def ledgerInventoryRow : OpenClaim := { program := "ytooiiihaijpbaaa", sum := "a38863766fbb41280dbbfe9d63b31c8b0f5f5089175ed128f8affef7c58b6170", func := "amanuensis/amanuensislaw9.LedgerInventory", spec := "ledgerInventory", inPlace := ["slices.overlaps[int]"], unfollowed := true, recurses := true, apart := false }
def LedgerInventorySaid : Prop := ledgerInventoryRow.holds Try.pinned (OpenSpec.ofChange ledgerInventorySpec)

/-- ITS FALSE NEIGHBOUR: 'it returns false'. Refute it at one input. -/
def ledgerInventoryWrong : ChangeSpec := { name := "ledgerInventory", fn := fun _ => fun
  | [d] => { results := [.lit (.bool false)], args := [d] }
  | _ => none }
def LedgerInventoryWrongFalsely : Prop := ledgerInventoryRow.holds Try.pinned (OpenSpec.ofChange ledgerInventoryWrong)

/-- 'amanuensislaw9.LedgerBooking': WHATEVER THE INPUT: true; the input reads as it did. -/
def ledgerBookingSpec : ChangeSpec := { name := "ledgerBooking", fn := fun _ => fun
  | [d] => { results := [.lit (.bool true)], args := [d] }
  | _ => none }
def ledgerBookingRow : OpenClaim := { program := "ytooiiihaijpbaaa", sum := "a38863766fbb41280dbbfe9d63b31c8b0f5f5089175ed128f8affef7c58b6170", func := "amanuensis/amanuensislaw9.LedgerBooking", spec := "ledgerBooking", inPlace := ["slices.overlaps[int]"], unfollowed := true, recurses := true, apart := false }
def LedgerBookingSaid : Prop := ledgerBookingRow.holds Try.pinned (OpenSpec.ofChange ledgerBookingSpec)

/-- ITS FALSE NEIGHBOUR: 'it returns false'. Refute it at one input. -/
def ledgerBookingWrong : ChangeSpec := { name := "ledgerBooking", fn := fun _ => fun
  | [d] => { results := [.lit (.bool false)], args := [d] }
  | _ => none }
def LedgerBookingWrongFalsely : Prop := ledgerBookingRow.holds Try.pinned (OpenSpec.ofChange ledgerBookingWrong)

/-- 'amanuensislaw9.LedgerNotifier': WHATEVER THE INPUT: true; the input reads as it did. -/
def ledgerNotifierSpec : ChangeSpec := { name := "ledgerNotifier", fn := fun _ => fun
  | [d] => { results := [.lit (.bool true)], args := [d] }
  | _ => none }
def ledgerNotifierRow : OpenClaim := { program := "ytooiiihaijpbaaa", sum := "a38863766fbb41280dbbfe9d63b31c8b0f5f5089175ed128f8affef7c58b6170", func := "amanuensis/amanuensislaw9.LedgerNotifier", spec := "ledgerNotifier", inPlace := ["slices.overlaps[int]"], unfollowed := true, recurses := true, apart := false }
def LedgerNotifierSaid : Prop := ledgerNotifierRow.holds Try.pinned (OpenSpec.ofChange ledgerNotifierSpec)

/-- ITS FALSE NEIGHBOUR: 'it returns false'. Refute it at one input. -/
def ledgerNotifierWrong : ChangeSpec := { name := "ledgerNotifier", fn := fun _ => fun
  | [d] => { results := [.lit (.bool false)], args := [d] }
  | _ => none }
def LedgerNotifierWrongFalsely : Prop := ledgerNotifierRow.holds Try.pinned (OpenSpec.ofChange ledgerNotifierWrong)

/- THE SECOND FORM. 'bulk': how many values and letters a reading holds, each counted each time it is reached (what is shared counts as often as it is met; a slice's spare places count too). A statement '..UptoSaid' is the law's where the arguments, and the package variables that the reading takes, are together of bulk at most 1048576: NARROWER than '..Said'. Prove '..Said' where nothing that the law and all that it calls make is longer than what came in: it says more and counts as full. Else prove '..UptoSaid'. A law counts once. -/
mutual
def uptoBulk {H : Type} : DataW H → Nat
  | .lit (.string bytes) => bytes.length + 1
  | .lit _ => 1
  | .nil => 1
  | .ptr d => uptoBulk d + 1
  | .slice elems spare => uptoBulkAll elems + uptoBulkAll spare + 1
  | .agg parts => uptoBulkAll parts + 1
  | .iface _ d => uptoBulk d + 1
  | .map entries => uptoBulkEntries entries + 1
  | .held _ => 1
def uptoBulkAll {H : Type} : List (DataW H) → Nat
  | [] => 0
  | d :: r => uptoBulk d + uptoBulkAll r
def uptoBulkEntries {H : Type} : List (Lit × DataW H) → Nat
  | [] => 0
  | x :: r => uptoBulkEntry x + uptoBulkEntries r
def uptoBulkEntry {H : Type} : Lit × DataW H → Nat
  | (.string bytes, d) => bytes.length + uptoBulk d + 1
  | (_, d) => uptoBulk d + 1
 end
def uptoSmall : (H : Type) → List (DataW H) → Bool := fun _ ds => decide (uptoBulkAll ds ≤ 1048576)
def OpenSpec.upto (s : _root_.Go.ChangeSpec) : _root_.Go.OpenSpec := { _root_.Go.OpenSpec.ofChange s with cond := some uptoSmall }

/-- 'amanuensislaw9.LedgerFull', WHERE WHAT IT READS IS OF BULK AT MOST 1048576: true; the input reads as it did. -/
def ledgerFullUptoRow : OpenClaim := { program := "ytooiiihaijpbaaa", sum := "a38863766fbb41280dbbfe9d63b31c8b0f5f5089175ed128f8affef7c58b6170", func := "amanuensis/amanuensislaw9.LedgerFull", spec := "ledgerFull", inPlace := ["slices.overlaps[int]"], unfollowed := true, recurses := true, apart := false, narrowed := true }
def LedgerFullUptoSaid : Prop := ledgerFullUptoRow.holds Try.pinned (OpenSpec.upto ledgerFullSpec)

/-- 'amanuensislaw9.LedgerOnce', WHERE WHAT IT READS IS OF BULK AT MOST 1048576: true; the input reads as it did. -/
def ledgerOnceUptoRow : OpenClaim := { program := "ytooiiihaijpbaaa", sum := "a38863766fbb41280dbbfe9d63b31c8b0f5f5089175ed128f8affef7c58b6170", func := "amanuensis/amanuensislaw9.LedgerOnce", spec := "ledgerOnce", inPlace := ["slices.overlaps[int]"], unfollowed := true, recurses := true, apart := false, narrowed := true }
def LedgerOnceUptoSaid : Prop := ledgerOnceUptoRow.holds Try.pinned (OpenSpec.upto ledgerOnceSpec)

/-- 'amanuensislaw9.LedgerExact', WHERE WHAT IT READS IS OF BULK AT MOST 1048576: true; the input reads as it did. -/
def ledgerExactUptoRow : OpenClaim := { program := "ytooiiihaijpbaaa", sum := "a38863766fbb41280dbbfe9d63b31c8b0f5f5089175ed128f8affef7c58b6170", func := "amanuensis/amanuensislaw9.LedgerExact", spec := "ledgerExact", inPlace := ["slices.overlaps[int]"], unfollowed := true, recurses := true, apart := false, narrowed := true }
def LedgerExactUptoSaid : Prop := ledgerExactUptoRow.holds Try.pinned (OpenSpec.upto ledgerExactSpec)

/-- 'amanuensislaw9.LedgerCalls', WHERE WHAT IT READS IS OF BULK AT MOST 1048576: true; the input reads as it did. -/
def ledgerCallsUptoRow : OpenClaim := { program := "ytooiiihaijpbaaa", sum := "a38863766fbb41280dbbfe9d63b31c8b0f5f5089175ed128f8affef7c58b6170", func := "amanuensis/amanuensislaw9.LedgerCalls", spec := "ledgerCalls", inPlace := ["slices.overlaps[int]"], unfollowed := true, recurses := true, apart := false, narrowed := true }
def LedgerCallsUptoSaid : Prop := ledgerCallsUptoRow.holds Try.pinned (OpenSpec.upto ledgerCallsSpec)

/-- 'amanuensislaw9.LedgerUndos', WHERE WHAT IT READS IS OF BULK AT MOST 1048576: true; the input reads as it did. -/
def ledgerUndosUptoRow : OpenClaim := { program := "ytooiiihaijpbaaa", sum := "a38863766fbb41280dbbfe9d63b31c8b0f5f5089175ed128f8affef7c58b6170", func := "amanuensis/amanuensislaw9.LedgerUndos", spec := "ledgerUndos", inPlace := ["slices.overlaps[int]"], unfollowed := true, recurses := true, apart := false, narrowed := true }
def LedgerUndosUptoSaid : Prop := ledgerUndosUptoRow.holds Try.pinned (OpenSpec.upto ledgerUndosSpec)

/-- 'amanuensislaw9.LedgerLost', WHERE WHAT IT READS IS OF BULK AT MOST 1048576: true; the input reads as it did. -/
def ledgerLostUptoRow : OpenClaim := { program := "ytooiiihaijpbaaa", sum := "a38863766fbb41280dbbfe9d63b31c8b0f5f5089175ed128f8affef7c58b6170", func := "amanuensis/amanuensislaw9.LedgerLost", spec := "ledgerLost", inPlace := ["slices.overlaps[int]"], unfollowed := true, recurses := true, apart := false, narrowed := true }
def LedgerLostUptoSaid : Prop := ledgerLostUptoRow.holds Try.pinned (OpenSpec.upto ledgerLostSpec)

/-- 'amanuensislaw9.LedgerRefused', WHERE WHAT IT READS IS OF BULK AT MOST 1048576: true; the input reads as it did. -/
def ledgerRefusedUptoRow : OpenClaim := { program := "ytooiiihaijpbaaa", sum := "a38863766fbb41280dbbfe9d63b31c8b0f5f5089175ed128f8affef7c58b6170", func := "amanuensis/amanuensislaw9.LedgerRefused", spec := "ledgerRefused", inPlace := ["slices.overlaps[int]"], unfollowed := true, recurses := true, apart := false, narrowed := true }
def LedgerRefusedUptoSaid : Prop := ledgerRefusedUptoRow.holds Try.pinned (OpenSpec.upto ledgerRefusedSpec)

/-- 'amanuensislaw9.LedgerAccount', WHERE WHAT IT READS IS OF BULK AT MOST 1048576: true; the input reads as it did. -/
def ledgerAccountUptoRow : OpenClaim := { program := "ytooiiihaijpbaaa", sum := "a38863766fbb41280dbbfe9d63b31c8b0f5f5089175ed128f8affef7c58b6170", func := "amanuensis/amanuensislaw9.LedgerAccount", spec := "ledgerAccount", inPlace := ["slices.overlaps[int]"], unfollowed := true, recurses := true, apart := false, narrowed := true }
def LedgerAccountUptoSaid : Prop := ledgerAccountUptoRow.holds Try.pinned (OpenSpec.upto ledgerAccountSpec)

/-- 'amanuensislaw9.LedgerInventory', WHERE WHAT IT READS IS OF BULK AT MOST 1048576: true; the input reads as it did. -/
def ledgerInventoryUptoRow : OpenClaim := { program := "ytooiiihaijpbaaa", sum := "a38863766fbb41280dbbfe9d63b31c8b0f5f5089175ed128f8affef7c58b6170", func := "amanuensis/amanuensislaw9.LedgerInventory", spec := "ledgerInventory", inPlace := ["slices.overlaps[int]"], unfollowed := true, recurses := true, apart := false, narrowed := true }
def LedgerInventoryUptoSaid : Prop := ledgerInventoryUptoRow.holds Try.pinned (OpenSpec.upto ledgerInventorySpec)

/-- 'amanuensislaw9.LedgerBooking', WHERE WHAT IT READS IS OF BULK AT MOST 1048576: true; the input reads as it did. -/
def ledgerBookingUptoRow : OpenClaim := { program := "ytooiiihaijpbaaa", sum := "a38863766fbb41280dbbfe9d63b31c8b0f5f5089175ed128f8affef7c58b6170", func := "amanuensis/amanuensislaw9.LedgerBooking", spec := "ledgerBooking", inPlace := ["slices.overlaps[int]"], unfollowed := true, recurses := true, apart := false, narrowed := true }
def LedgerBookingUptoSaid : Prop := ledgerBookingUptoRow.holds Try.pinned (OpenSpec.upto ledgerBookingSpec)

/-- 'amanuensislaw9.LedgerNotifier', WHERE WHAT IT READS IS OF BULK AT MOST 1048576: true; the input reads as it did. -/
def ledgerNotifierUptoRow : OpenClaim := { program := "ytooiiihaijpbaaa", sum := "a38863766fbb41280dbbfe9d63b31c8b0f5f5089175ed128f8affef7c58b6170", func := "amanuensis/amanuensislaw9.LedgerNotifier", spec := "ledgerNotifier", inPlace := ["slices.overlaps[int]"], unfollowed := true, recurses := true, apart := false, narrowed := true }
def LedgerNotifierUptoSaid : Prop := ledgerNotifierUptoRow.holds Try.pinned (OpenSpec.upto ledgerNotifierSpec)

end Rows
end Go.Proofs.Ytooiiihaijpbaaa
