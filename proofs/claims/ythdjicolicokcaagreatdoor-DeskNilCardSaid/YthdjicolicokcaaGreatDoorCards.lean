/-
  DERIVED. GIVEN WITH THE SEED: THE CARDS: each row of YthdjicolicokcaaGreatDoorRows.lean that lists a variable, with what it lists TIED to the program's text (the seventh form; the later family's looks); each row that meets fmt, with fmt's text TOLD by the authors' own Lean function (tested against real Go, not proved from fmt's source: count such statements apart). THE CARD IS WHAT COUNTS. Prove the row's statement (the work); the ties are given (YthdjicolicokcaaGreatDoorTie.lean); close each card by the builder's one call (the guide's Derived/Test/ToyasCard.lean, 'card_holds'). Laid BY PROGRAM, IN A SANDBOX (cutbox-door.mjs). By AI agents, Wed Nov 11 2026. No macro, syntax, notation, axiom, sorry.
-/
import Derived.Test.YthdjicolicokcaaGreatDoorRows
import GoSem.ClaimSeven
namespace Go.Proofs.YthdjicolicokcaaGreatDoor
namespace Rows

/-- THE TIED CARD OF 'billetlaw46.DeskParses'. -/
def deskParsesCard : Claim7 := { stood := { row := deskParsesRow, standIns := [], harness := (true, "651fac96360f9314caf9fb968b53a085da185dce80f5f59ab03835882d8afa5c"), looks := true }, kinds := [], alts := [], laidByText := true, laidKinds := [.pinned, .data, .handle, .data, .data, .data], laidTests := true, laidLooks := .later }
def DeskParsesCardSaid : Prop := Claim7.holds Tryz.pinned (.plain (OpenSpec.ofChange deskParsesSpec)) deskParsesCard

/-- THE TIED CARD OF 'billetlaw46.DeskNil'. -/
def deskNilCard : Claim7 := { stood := { row := deskNilRow, standIns := [], harness := (true, "651fac96360f9314caf9fb968b53a085da185dce80f5f59ab03835882d8afa5c"), looks := true }, kinds := [], alts := [], laidByText := true, laidKinds := [.data, .data, .data, .pinned, .data, .handle], laidTests := true, laidLooks := .later }
def DeskNilCardSaid : Prop := Claim7.holds Tryz.pinned (.plain (OpenSpec.ofChange deskNilSpec)) deskNilCard

/-- THE SECOND FORM's CARD OF 'billetlaw46.DeskParses'. -/
def deskParsesUptoCard : Claim7 := { stood := { row := deskParsesUptoRow, standIns := [], harness := (true, "651fac96360f9314caf9fb968b53a085da185dce80f5f59ab03835882d8afa5c"), looks := true }, kinds := [], alts := [], laidByText := true, laidKinds := [.pinned, .data, .handle, .data, .data, .data], laidTests := true, laidLooks := .later }
def DeskParsesUptoCardSaid : Prop := Claim7.holds Tryz.pinned (.plain (OpenSpec.upto deskParsesSpec)) deskParsesUptoCard

/-- THE SECOND FORM's CARD OF 'billetlaw46.DeskNil'. -/
def deskNilUptoCard : Claim7 := { stood := { row := deskNilUptoRow, standIns := [], harness := (true, "651fac96360f9314caf9fb968b53a085da185dce80f5f59ab03835882d8afa5c"), looks := true }, kinds := [], alts := [], laidByText := true, laidKinds := [.data, .data, .data, .pinned, .data, .handle], laidTests := true, laidLooks := .later }
def DeskNilUptoCardSaid : Prop := Claim7.holds Tryz.pinned (.plain (OpenSpec.upto deskNilSpec)) deskNilUptoCard
end Rows
end Go.Proofs.YthdjicolicokcaaGreatDoor
