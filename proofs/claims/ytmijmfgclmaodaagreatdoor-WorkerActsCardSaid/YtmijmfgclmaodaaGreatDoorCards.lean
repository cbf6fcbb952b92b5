/-
  DERIVED. GIVEN WITH THE SEED: THE CARDS: each row of YtmijmfgclmaodaaGreatDoorRows.lean that lists a variable, with what it lists TIED to the program's text (the seventh form; the later family's looks); each row that meets fmt, with fmt's text TOLD by the authors' own Lean function (tested against real Go, not proved from fmt's source: count such statements apart). THE CARD IS WHAT COUNTS. Prove the row's statement (the work); the ties are given (YtmijmfgclmaodaaGreatDoorTie.lean); close each card by the builder's one call (the guide's Derived/Test/ToyasCard.lean, 'card_holds'). Laid BY PROGRAM, IN A SANDBOX (cutbox-door.mjs). By AI agents, Wed Nov 11 2026. No macro, syntax, notation, axiom, sorry.
-/
import Derived.Test.YtmijmfgclmaodaaGreatDoorRows
import GoSem.ClaimSeven
namespace Go.Proofs.YtmijmfgclmaodaaGreatDoor
namespace Rows

/-- THE TIED CARD OF 'billetlaw29.WorkerActs'. -/
def workerActsCard : Claim7 := { stood := { row := workerActsRow, standIns := [], harness := (true, "39f04a308b64d7fdb9d85751ba84c58a133273a29398dd5e1e944db67bdbc575"), looks := false }, kinds := [], alts := [], laidByText := true, laidKinds := [.data, .pinned], laidTests := true, laidLooks := .later }
def WorkerActsCardSaid : Prop := Claim7.holds Tryz.pinned (.plain (OpenSpec.ofChange workerActsSpec)) workerActsCard

/-- THE TIED CARD OF 'billetlaw30.OpRuns'. -/
def opRunsCard : Claim7 := { stood := { row := opRunsRow, standIns := [], harness := (true, "39f04a308b64d7fdb9d85751ba84c58a133273a29398dd5e1e944db67bdbc575"), looks := false }, kinds := [], alts := [], laidByText := true, laidKinds := [.data, .pinned], laidTests := true, laidLooks := .later }
def OpRunsCardSaid : Prop := Claim7.holds Tryz.pinned (.plain (OpenSpec.ofChange opRunsSpec)) opRunsCard

/-- THE SECOND FORM's CARD OF 'billetlaw29.WorkerActs'. -/
def workerActsUptoCard : Claim7 := { stood := { row := workerActsUptoRow, standIns := [], harness := (true, "39f04a308b64d7fdb9d85751ba84c58a133273a29398dd5e1e944db67bdbc575"), looks := false }, kinds := [], alts := [], laidByText := true, laidKinds := [.data, .pinned], laidTests := true, laidLooks := .later }
def WorkerActsUptoCardSaid : Prop := Claim7.holds Tryz.pinned (.plain (OpenSpec.upto workerActsSpec)) workerActsUptoCard

/-- THE SECOND FORM's CARD OF 'billetlaw30.OpRuns'. -/
def opRunsUptoCard : Claim7 := { stood := { row := opRunsUptoRow, standIns := [], harness := (true, "39f04a308b64d7fdb9d85751ba84c58a133273a29398dd5e1e944db67bdbc575"), looks := false }, kinds := [], alts := [], laidByText := true, laidKinds := [.data, .pinned], laidTests := true, laidLooks := .later }
def OpRunsUptoCardSaid : Prop := Claim7.holds Tryz.pinned (.plain (OpenSpec.upto opRunsSpec)) opRunsUptoCard
end Rows
end Go.Proofs.YtmijmfgclmaodaaGreatDoor
