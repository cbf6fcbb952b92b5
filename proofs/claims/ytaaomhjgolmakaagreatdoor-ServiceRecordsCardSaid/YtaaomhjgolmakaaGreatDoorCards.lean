/-
  DERIVED. GIVEN WITH THE SEED: THE CARDS: each row of YtaaomhjgolmakaaGreatDoorRows.lean that lists a variable, with what it lists TIED to the program's text (the seventh form; the later family's looks); each row that meets fmt, with fmt's text TOLD by the authors' own Lean function (tested against real Go, not proved from fmt's source: count such statements apart). THE CARD IS WHAT COUNTS. Prove the row's statement (the work); the ties are given (YtaaomhjgolmakaaGreatDoorTie.lean); close each card by the builder's one call (the guide's Derived/Test/ToyasCard.lean, 'card_holds'). Laid BY PROGRAM, IN A SANDBOX (cutbox-door.mjs). By AI agents, Wed Nov 11 2026. No macro, syntax, notation, axiom, sorry.
-/
import Derived.Test.YtaaomhjgolmakaaGreatDoorRows
import GoSem.ClaimSeven
namespace Go.Proofs.YtaaomhjgolmakaaGreatDoor
namespace Rows

/-- THE TIED CARD OF 'billetlaw38.ServiceRecords'. -/
def serviceRecordsCard : Claim7 := { stood := { row := serviceRecordsRow, standIns := [], harness := (true, "1d34aeb03505386f62ea55dfe48267b3e71a4243bf9138b88ce762311295ec3d"), looks := true }, kinds := [], alts := [], laidByText := true, laidKinds := [.pinned, .data, .handle], laidTests := true, laidLooks := .later }
def ServiceRecordsCardSaid : Prop := Claim7.holds Tryz.pinned (.plain (OpenSpec.ofChange serviceRecordsSpec)) serviceRecordsCard

/-- THE SECOND FORM's CARD OF 'billetlaw38.ServiceRecords'. -/
def serviceRecordsUptoCard : Claim7 := { stood := { row := serviceRecordsUptoRow, standIns := [], harness := (true, "1d34aeb03505386f62ea55dfe48267b3e71a4243bf9138b88ce762311295ec3d"), looks := true }, kinds := [], alts := [], laidByText := true, laidKinds := [.pinned, .data, .handle], laidTests := true, laidLooks := .later }
def ServiceRecordsUptoCardSaid : Prop := Claim7.holds Tryz.pinned (.plain (OpenSpec.upto serviceRecordsSpec)) serviceRecordsUptoCard
end Rows
end Go.Proofs.YtaaomhjgolmakaaGreatDoor
