/-
  DERIVED. GIVEN WITH THE SEED: THE CARDS: each row of YtfjllfjmggooeaaGreatDoorRows.lean that lists a variable, with what it lists TIED to the program's text (the seventh form; the later family's looks); each row that meets fmt, with fmt's text TOLD by the authors' own Lean function (tested against real Go, not proved from fmt's source: count such statements apart). THE CARD IS WHAT COUNTS. Prove the row's statement (the work); the ties are given (YtfjllfjmggooeaaGreatDoorTie.lean); close each card by the builder's one call (the guide's Derived/Test/ToyasCard.lean, 'card_holds'). Laid BY PROGRAM, IN A SANDBOX (cutbox-door.mjs). By AI agents, Wed Nov 11 2026. No macro, syntax, notation, axiom, sorry.
-/
import Derived.Test.YtfjllfjmggooeaaGreatDoorRows
import GoSem.ClaimSeven
namespace Go.Proofs.YtfjllfjmggooeaaGreatDoor
namespace Rows

/-- THE TIED CARD OF 'amanuensislaw16.WorldEnds'. -/
def worldEndsCard : Claim7 := { stood := { row := worldEndsRow, standIns := [], harness := (true, "95678b0004f07dbbce8c69b6422fe3943dd46513f172e4c5c60e96bac4042983"), looks := true }, kinds := [], alts := [], laidByText := true, laidKinds := [.handle], laidTests := true, laidLooks := .later }
def WorldEndsCardSaid : Prop := Claim7.holds Tryz.pinned (.plain (OpenSpec.ofChange worldEndsSpec)) worldEndsCard

/-- THE TIED CARD OF 'amanuensislaw16.WorldCommits'. -/
def worldCommitsCard : Claim7 := { stood := { row := worldCommitsRow, standIns := [], harness := (true, "95678b0004f07dbbce8c69b6422fe3943dd46513f172e4c5c60e96bac4042983"), looks := true }, kinds := [], alts := [], laidByText := true, laidKinds := [.handle], laidTests := true, laidLooks := .later }
def WorldCommitsCardSaid : Prop := Claim7.holds Tryz.pinned (.plain (OpenSpec.ofChange worldCommitsSpec)) worldCommitsCard

/-- THE TIED CARD OF 'amanuensislaw16.WorldUndoes'. -/
def worldUndoesCard : Claim7 := { stood := { row := worldUndoesRow, standIns := [], harness := (true, "95678b0004f07dbbce8c69b6422fe3943dd46513f172e4c5c60e96bac4042983"), looks := true }, kinds := [], alts := [], laidByText := true, laidKinds := [.handle], laidTests := true, laidLooks := .later }
def WorldUndoesCardSaid : Prop := Claim7.holds Tryz.pinned (.plain (OpenSpec.ofChange worldUndoesSpec)) worldUndoesCard

/-- THE TIED CARD OF 'amanuensislaw16.WorldStops'. -/
def worldStopsCard : Claim7 := { stood := { row := worldStopsRow, standIns := [], harness := (true, "95678b0004f07dbbce8c69b6422fe3943dd46513f172e4c5c60e96bac4042983"), looks := true }, kinds := [], alts := [], laidByText := true, laidKinds := [.handle], laidTests := true, laidLooks := .later }
def WorldStopsCardSaid : Prop := Claim7.holds Tryz.pinned (.plain (OpenSpec.ofChange worldStopsSpec)) worldStopsCard

/-- THE TIED CARD OF 'amanuensislaw16.WorldTries'. -/
def worldTriesCard : Claim7 := { stood := { row := worldTriesRow, standIns := [], harness := (true, "95678b0004f07dbbce8c69b6422fe3943dd46513f172e4c5c60e96bac4042983"), looks := true }, kinds := [], alts := [], laidByText := true, laidKinds := [.handle], laidTests := true, laidLooks := .later }
def WorldTriesCardSaid : Prop := Claim7.holds Tryz.pinned (.plain (OpenSpec.ofChange worldTriesSpec)) worldTriesCard

/-- THE TIED CARD OF 'amanuensislaw16.KeepsCrashes'. -/
def keepsCrashesCard : Claim7 := { stood := { row := keepsCrashesRow, standIns := [], harness := (true, "95678b0004f07dbbce8c69b6422fe3943dd46513f172e4c5c60e96bac4042983"), looks := true }, kinds := [], alts := [], laidByText := true, laidKinds := [.handle], laidTests := true, laidLooks := .later }
def KeepsCrashesCardSaid : Prop := Claim7.holds Tryz.pinned (.plain (OpenSpec.ofChange keepsCrashesSpec)) keepsCrashesCard

/-- THE TIED CARD OF 'amanuensislaw16.WorldKeeps'. -/
def worldKeepsCard : Claim7 := { stood := { row := worldKeepsRow, standIns := [], harness := (true, "95678b0004f07dbbce8c69b6422fe3943dd46513f172e4c5c60e96bac4042983"), looks := true }, kinds := [], alts := [], laidByText := true, laidKinds := [.handle], laidTests := true, laidLooks := .later }
def WorldKeepsCardSaid : Prop := Claim7.holds Tryz.pinned (.plain (OpenSpec.ofChange worldKeepsSpec)) worldKeepsCard

/-- THE TIED CARD OF 'amanuensislaw16.KeepsRefused'. -/
def keepsRefusedCard : Claim7 := { stood := { row := keepsRefusedRow, standIns := [], harness := (true, "95678b0004f07dbbce8c69b6422fe3943dd46513f172e4c5c60e96bac4042983"), looks := true }, kinds := [], alts := [], laidByText := true, laidKinds := [.handle], laidTests := true, laidLooks := .later }
def KeepsRefusedCardSaid : Prop := Claim7.holds Tryz.pinned (.plain (OpenSpec.ofChange keepsRefusedSpec)) keepsRefusedCard

/-- THE TIED CARD OF 'amanuensislaw16.KeepsFails'. -/
def keepsFailsCard : Claim7 := { stood := { row := keepsFailsRow, standIns := [], harness := (true, "95678b0004f07dbbce8c69b6422fe3943dd46513f172e4c5c60e96bac4042983"), looks := true }, kinds := [], alts := [], laidByText := true, laidKinds := [.handle], laidTests := true, laidLooks := .later }
def KeepsFailsCardSaid : Prop := Claim7.holds Tryz.pinned (.plain (OpenSpec.ofChange keepsFailsSpec)) keepsFailsCard

/-- THE TIED CARD OF 'amanuensislaw16.KeepsLost'. -/
def keepsLostCard : Claim7 := { stood := { row := keepsLostRow, standIns := [], harness := (true, "95678b0004f07dbbce8c69b6422fe3943dd46513f172e4c5c60e96bac4042983"), looks := true }, kinds := [], alts := [], laidByText := true, laidKinds := [.handle], laidTests := true, laidLooks := .later }
def KeepsLostCardSaid : Prop := Claim7.holds Tryz.pinned (.plain (OpenSpec.ofChange keepsLostSpec)) keepsLostCard

/-- THE SECOND FORM's CARD OF 'amanuensislaw16.WorldEnds'. -/
def worldEndsUptoCard : Claim7 := { stood := { row := worldEndsUptoRow, standIns := [], harness := (true, "95678b0004f07dbbce8c69b6422fe3943dd46513f172e4c5c60e96bac4042983"), looks := true }, kinds := [], alts := [], laidByText := true, laidKinds := [.handle], laidTests := true, laidLooks := .later }
def WorldEndsUptoCardSaid : Prop := Claim7.holds Tryz.pinned (.plain (OpenSpec.upto worldEndsSpec)) worldEndsUptoCard

/-- THE SECOND FORM's CARD OF 'amanuensislaw16.WorldCommits'. -/
def worldCommitsUptoCard : Claim7 := { stood := { row := worldCommitsUptoRow, standIns := [], harness := (true, "95678b0004f07dbbce8c69b6422fe3943dd46513f172e4c5c60e96bac4042983"), looks := true }, kinds := [], alts := [], laidByText := true, laidKinds := [.handle], laidTests := true, laidLooks := .later }
def WorldCommitsUptoCardSaid : Prop := Claim7.holds Tryz.pinned (.plain (OpenSpec.upto worldCommitsSpec)) worldCommitsUptoCard

/-- THE SECOND FORM's CARD OF 'amanuensislaw16.WorldUndoes'. -/
def worldUndoesUptoCard : Claim7 := { stood := { row := worldUndoesUptoRow, standIns := [], harness := (true, "95678b0004f07dbbce8c69b6422fe3943dd46513f172e4c5c60e96bac4042983"), looks := true }, kinds := [], alts := [], laidByText := true, laidKinds := [.handle], laidTests := true, laidLooks := .later }
def WorldUndoesUptoCardSaid : Prop := Claim7.holds Tryz.pinned (.plain (OpenSpec.upto worldUndoesSpec)) worldUndoesUptoCard

/-- THE SECOND FORM's CARD OF 'amanuensislaw16.WorldStops'. -/
def worldStopsUptoCard : Claim7 := { stood := { row := worldStopsUptoRow, standIns := [], harness := (true, "95678b0004f07dbbce8c69b6422fe3943dd46513f172e4c5c60e96bac4042983"), looks := true }, kinds := [], alts := [], laidByText := true, laidKinds := [.handle], laidTests := true, laidLooks := .later }
def WorldStopsUptoCardSaid : Prop := Claim7.holds Tryz.pinned (.plain (OpenSpec.upto worldStopsSpec)) worldStopsUptoCard

/-- THE SECOND FORM's CARD OF 'amanuensislaw16.WorldTries'. -/
def worldTriesUptoCard : Claim7 := { stood := { row := worldTriesUptoRow, standIns := [], harness := (true, "95678b0004f07dbbce8c69b6422fe3943dd46513f172e4c5c60e96bac4042983"), looks := true }, kinds := [], alts := [], laidByText := true, laidKinds := [.handle], laidTests := true, laidLooks := .later }
def WorldTriesUptoCardSaid : Prop := Claim7.holds Tryz.pinned (.plain (OpenSpec.upto worldTriesSpec)) worldTriesUptoCard

/-- THE SECOND FORM's CARD OF 'amanuensislaw16.KeepsCrashes'. -/
def keepsCrashesUptoCard : Claim7 := { stood := { row := keepsCrashesUptoRow, standIns := [], harness := (true, "95678b0004f07dbbce8c69b6422fe3943dd46513f172e4c5c60e96bac4042983"), looks := true }, kinds := [], alts := [], laidByText := true, laidKinds := [.handle], laidTests := true, laidLooks := .later }
def KeepsCrashesUptoCardSaid : Prop := Claim7.holds Tryz.pinned (.plain (OpenSpec.upto keepsCrashesSpec)) keepsCrashesUptoCard

/-- THE SECOND FORM's CARD OF 'amanuensislaw16.WorldKeeps'. -/
def worldKeepsUptoCard : Claim7 := { stood := { row := worldKeepsUptoRow, standIns := [], harness := (true, "95678b0004f07dbbce8c69b6422fe3943dd46513f172e4c5c60e96bac4042983"), looks := true }, kinds := [], alts := [], laidByText := true, laidKinds := [.handle], laidTests := true, laidLooks := .later }
def WorldKeepsUptoCardSaid : Prop := Claim7.holds Tryz.pinned (.plain (OpenSpec.upto worldKeepsSpec)) worldKeepsUptoCard

/-- THE SECOND FORM's CARD OF 'amanuensislaw16.KeepsRefused'. -/
def keepsRefusedUptoCard : Claim7 := { stood := { row := keepsRefusedUptoRow, standIns := [], harness := (true, "95678b0004f07dbbce8c69b6422fe3943dd46513f172e4c5c60e96bac4042983"), looks := true }, kinds := [], alts := [], laidByText := true, laidKinds := [.handle], laidTests := true, laidLooks := .later }
def KeepsRefusedUptoCardSaid : Prop := Claim7.holds Tryz.pinned (.plain (OpenSpec.upto keepsRefusedSpec)) keepsRefusedUptoCard

/-- THE SECOND FORM's CARD OF 'amanuensislaw16.KeepsFails'. -/
def keepsFailsUptoCard : Claim7 := { stood := { row := keepsFailsUptoRow, standIns := [], harness := (true, "95678b0004f07dbbce8c69b6422fe3943dd46513f172e4c5c60e96bac4042983"), looks := true }, kinds := [], alts := [], laidByText := true, laidKinds := [.handle], laidTests := true, laidLooks := .later }
def KeepsFailsUptoCardSaid : Prop := Claim7.holds Tryz.pinned (.plain (OpenSpec.upto keepsFailsSpec)) keepsFailsUptoCard

/-- THE SECOND FORM's CARD OF 'amanuensislaw16.KeepsLost'. -/
def keepsLostUptoCard : Claim7 := { stood := { row := keepsLostUptoRow, standIns := [], harness := (true, "95678b0004f07dbbce8c69b6422fe3943dd46513f172e4c5c60e96bac4042983"), looks := true }, kinds := [], alts := [], laidByText := true, laidKinds := [.handle], laidTests := true, laidLooks := .later }
def KeepsLostUptoCardSaid : Prop := Claim7.holds Tryz.pinned (.plain (OpenSpec.upto keepsLostSpec)) keepsLostUptoCard
end Rows
end Go.Proofs.YtfjllfjmggooeaaGreatDoor
