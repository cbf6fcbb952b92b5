/-
  DERIVED. GIVEN WITH THE SEED: THE CARDS: each row of YtnjabndkaabogaaGreatDoorRows.lean that lists a variable, with what it lists TIED to the program's text (the seventh form; the later family's looks); each row that meets fmt, with fmt's text TOLD by the authors' own Lean function (tested against real Go, not proved from fmt's source: count such statements apart). THE CARD IS WHAT COUNTS. Prove the row's statement (the work); the ties are given (YtnjabndkaabogaaGreatDoorTie.lean); close each card by the builder's one call (the guide's Derived/Test/ToyasCard.lean, 'card_holds'). Laid BY PROGRAM, IN A SANDBOX (cutbox-door.mjs). By AI agents, Wed Nov 11 2026. No macro, syntax, notation, axiom, sorry.
-/
import Derived.Test.YtnjabndkaabogaaGreatDoorRows
import GoSem.ClaimSeven
namespace Go.Proofs.YtnjabndkaabogaaGreatDoor
namespace Rows

/-- THE TIED CARD OF 'billetlaw42.TraceSame'. -/
def traceSameCard : Claim7 := { stood := { row := traceSameRow, standIns := [], harness := (true, "bc1fdd9c80589dc7c77971135da1c41966cd009a03d75fcb06d77e8167a59814"), looks := true }, kinds := [], alts := [], laidByText := true, laidKinds := [.data, .pinned], laidTests := true, laidLooks := .later }
def TraceSameCardSaid : Prop := Claim7.holds Tryz.pinned (.plain (OpenSpec.ofChange traceSameSpec)) traceSameCard

/-- THE SECOND FORM's CARD OF 'billetlaw42.TraceSame'. -/
def traceSameUptoCard : Claim7 := { stood := { row := traceSameUptoRow, standIns := [], harness := (true, "bc1fdd9c80589dc7c77971135da1c41966cd009a03d75fcb06d77e8167a59814"), looks := true }, kinds := [], alts := [], laidByText := true, laidKinds := [.data, .pinned], laidTests := true, laidLooks := .later }
def TraceSameUptoCardSaid : Prop := Claim7.holds Tryz.pinned (.plain (OpenSpec.upto traceSameSpec)) traceSameUptoCard
end Rows
end Go.Proofs.YtnjabndkaabogaaGreatDoor
