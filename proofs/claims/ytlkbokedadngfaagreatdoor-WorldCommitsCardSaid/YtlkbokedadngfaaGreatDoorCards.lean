/-
  DERIVED. GIVEN WITH THE SEED: THE CARDS: each row of YtlkbokedadngfaaGreatDoorRows.lean that lists a variable, with what it lists TIED to the program's text (the seventh form; the later family's looks); each row that meets fmt, with fmt's text TOLD by the authors' own Lean function (tested against real Go, not proved from fmt's source: count such statements apart). THE CARD IS WHAT COUNTS. Prove the row's statement (the work); the ties are given (YtlkbokedadngfaaGreatDoorTie.lean); close each card by the builder's one call (the guide's Derived/Test/ToyasCard.lean, 'card_holds'). Laid BY PROGRAM, IN A SANDBOX (cutbox-door.mjs). By AI agents, Wed Nov 11 2026. No macro, syntax, notation, axiom, sorry.
-/
import Derived.Test.YtlkbokedadngfaaGreatDoorRows
import GoSem.ClaimSeven
namespace Go.Proofs.YtlkbokedadngfaaGreatDoor
namespace Rows

/-- THE TIED CARD OF 'amanuensislaw16.WorldCommits'. -/
def worldCommitsCard : Claim7 := { stood := { row := worldCommitsRow, standIns := [], harness := (true, "f5fd266db8797c8e716322844f5e58c60e490d8edcae48de12e941ac87adce25"), looks := true }, kinds := [], alts := [], laidByText := true, laidKinds := [.handle], laidTests := true, laidLooks := .later }
def WorldCommitsCardSaid : Prop := Claim7.holds Tryz.pinned (.plain (OpenSpec.ofChange worldCommitsSpec)) worldCommitsCard

/-- THE SECOND FORM's CARD OF 'amanuensislaw16.WorldCommits'. -/
def worldCommitsUptoCard : Claim7 := { stood := { row := worldCommitsUptoRow, standIns := [], harness := (true, "f5fd266db8797c8e716322844f5e58c60e490d8edcae48de12e941ac87adce25"), looks := true }, kinds := [], alts := [], laidByText := true, laidKinds := [.handle], laidTests := true, laidLooks := .later }
def WorldCommitsUptoCardSaid : Prop := Claim7.holds Tryz.pinned (.plain (OpenSpec.upto worldCommitsSpec)) worldCommitsUptoCard
end Rows
end Go.Proofs.YtlkbokedadngfaaGreatDoor
