/-
  DERIVED. GIVEN WITH THE SEED: THE CARDS: each row of YtjmlimogmmikoaaGreatDoorRows.lean that lists a variable, with what it lists TIED to the program's text (the seventh form; the later family's looks); each row that meets fmt, with fmt's text TOLD by the authors' own Lean function (tested against real Go, not proved from fmt's source: count such statements apart). THE CARD IS WHAT COUNTS. Prove the row's statement (the work); the ties are given (YtjmlimogmmikoaaGreatDoorTie.lean); close each card by the builder's one call (the guide's Derived/Test/ToyasCard.lean, 'card_holds'). Laid BY PROGRAM, IN A SANDBOX (cutbox-door.mjs). By AI agents, Wed Nov 11 2026. No macro, syntax, notation, axiom, sorry.
-/
import Derived.Test.YtjmlimogmmikoaaGreatDoorRows
import GoSem.ClaimSeven
namespace Go.Proofs.YtjmlimogmmikoaaGreatDoor
namespace Rows

/-- THE TIED CARD OF 'billetlaw35.StateWrong'. -/
def stateWrongCard : Claim7 := { stood := { row := stateWrongRow, standIns := [], harness := (true, "b36466267045841ba179f48f8b7c606d324ab97fb9925f71a671647023948e43"), looks := true }, kinds := [], alts := [], laidByText := true, laidKinds := [.data, .pinned], laidTests := true, laidLooks := .later }
def StateWrongCardSaid : Prop := Claim7.holds Tryz.pinned (.plain (OpenSpec.ofChange stateWrongSpec)) stateWrongCard

/-- THE TIED CARD OF 'billetlaw35.StateSame'. -/
def stateSameCard : Claim7 := { stood := { row := stateSameRow, standIns := [], harness := (true, "b36466267045841ba179f48f8b7c606d324ab97fb9925f71a671647023948e43"), looks := true }, kinds := [], alts := [], laidByText := true, laidKinds := [.data, .pinned], laidTests := true, laidLooks := .later }
def StateSameCardSaid : Prop := Claim7.holds Tryz.pinned (.plain (OpenSpec.ofChange stateSameSpec)) stateSameCard

/-- THE TIED CARD OF 'billetlaw35.StateEntries'. -/
def stateEntriesCard : Claim7 := { stood := { row := stateEntriesRow, standIns := [], harness := (true, "b36466267045841ba179f48f8b7c606d324ab97fb9925f71a671647023948e43"), looks := true }, kinds := [], alts := [], laidByText := true, laidKinds := [.data, .pinned], laidTests := true, laidLooks := .later }
def StateEntriesCardSaid : Prop := Claim7.holds Tryz.pinned (.plain (OpenSpec.ofChange stateEntriesSpec)) stateEntriesCard

/-- THE SECOND FORM's CARD OF 'billetlaw35.StateWrong'. -/
def stateWrongUptoCard : Claim7 := { stood := { row := stateWrongUptoRow, standIns := [], harness := (true, "b36466267045841ba179f48f8b7c606d324ab97fb9925f71a671647023948e43"), looks := true }, kinds := [], alts := [], laidByText := true, laidKinds := [.data, .pinned], laidTests := true, laidLooks := .later }
def StateWrongUptoCardSaid : Prop := Claim7.holds Tryz.pinned (.plain (OpenSpec.upto stateWrongSpec)) stateWrongUptoCard

/-- THE SECOND FORM's CARD OF 'billetlaw35.StateSame'. -/
def stateSameUptoCard : Claim7 := { stood := { row := stateSameUptoRow, standIns := [], harness := (true, "b36466267045841ba179f48f8b7c606d324ab97fb9925f71a671647023948e43"), looks := true }, kinds := [], alts := [], laidByText := true, laidKinds := [.data, .pinned], laidTests := true, laidLooks := .later }
def StateSameUptoCardSaid : Prop := Claim7.holds Tryz.pinned (.plain (OpenSpec.upto stateSameSpec)) stateSameUptoCard

/-- THE SECOND FORM's CARD OF 'billetlaw35.StateEntries'. -/
def stateEntriesUptoCard : Claim7 := { stood := { row := stateEntriesUptoRow, standIns := [], harness := (true, "b36466267045841ba179f48f8b7c606d324ab97fb9925f71a671647023948e43"), looks := true }, kinds := [], alts := [], laidByText := true, laidKinds := [.data, .pinned], laidTests := true, laidLooks := .later }
def StateEntriesUptoCardSaid : Prop := Claim7.holds Tryz.pinned (.plain (OpenSpec.upto stateEntriesSpec)) stateEntriesUptoCard
end Rows
end Go.Proofs.YtjmlimogmmikoaaGreatDoor
