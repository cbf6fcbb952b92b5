/-
  DERIVED. GIVEN WITH THE SEED: THE CARDS: each row of YtdbjihkgafhakaaGreatDoorRows.lean that lists a variable, with what it lists TIED to the program's text (the seventh form; the later family's looks); each row that meets fmt, with fmt's text TOLD by the authors' own Lean function (tested against real Go, not proved from fmt's source: count such statements apart). THE CARD IS WHAT COUNTS. Prove the row's statement (the work); the ties are given (YtdbjihkgafhakaaGreatDoorTie.lean); close each card by the builder's one call (the guide's Derived/Test/ToyasCard.lean, 'card_holds'). Laid BY PROGRAM, IN A SANDBOX (cutbox-door.mjs). By AI agents, Wed Nov 11 2026. No macro, syntax, notation, axiom, sorry.
-/
import Derived.Test.YtdbjihkgafhakaaGreatDoorRows
import GoSem.ClaimSeven
namespace Go.Proofs.YtdbjihkgafhakaaGreatDoor
namespace Rows

/-- THE TIED CARD OF 'billetlaw17.PoolTurn'. -/
def poolTurnCard : Claim7 := { stood := { row := poolTurnRow, standIns := [], harness := (true, "5711b82e8bcaa12464d3b078eb31645943aa331ee9b6dcf5701e782b3c267843"), looks := true }, kinds := [], alts := [], laidByText := true, laidKinds := [.data, .pinned], laidTests := true, laidLooks := .later }
def PoolTurnCardSaid : Prop := Claim7.holds Tryz.pinned (.plain (OpenSpec.ofChange poolTurnSpec)) poolTurnCard

/-- THE TIED CARD OF 'billetlaw17.PoolActs'. -/
def poolActsCard : Claim7 := { stood := { row := poolActsRow, standIns := [], harness := (true, "5711b82e8bcaa12464d3b078eb31645943aa331ee9b6dcf5701e782b3c267843"), looks := true }, kinds := [], alts := [], laidByText := true, laidKinds := [.data, .pinned], laidTests := true, laidLooks := .later }
def PoolActsCardSaid : Prop := Claim7.holds Tryz.pinned (.plain (OpenSpec.ofChange poolActsSpec)) poolActsCard

/-- THE TIED CARD OF 'billetlaw17.PoolLoads'. -/
def poolLoadsCard : Claim7 := { stood := { row := poolLoadsRow, standIns := [], harness := (true, "5711b82e8bcaa12464d3b078eb31645943aa331ee9b6dcf5701e782b3c267843"), looks := true }, kinds := [], alts := [], laidByText := true, laidKinds := [.data, .pinned], laidTests := true, laidLooks := .later }
def PoolLoadsCardSaid : Prop := Claim7.holds Tryz.pinned (.plain (OpenSpec.ofChange poolLoadsSpec)) poolLoadsCard

/-- THE SECOND FORM's CARD OF 'billetlaw17.PoolTurn'. -/
def poolTurnUptoCard : Claim7 := { stood := { row := poolTurnUptoRow, standIns := [], harness := (true, "5711b82e8bcaa12464d3b078eb31645943aa331ee9b6dcf5701e782b3c267843"), looks := true }, kinds := [], alts := [], laidByText := true, laidKinds := [.data, .pinned], laidTests := true, laidLooks := .later }
def PoolTurnUptoCardSaid : Prop := Claim7.holds Tryz.pinned (.plain (OpenSpec.upto poolTurnSpec)) poolTurnUptoCard

/-- THE SECOND FORM's CARD OF 'billetlaw17.PoolActs'. -/
def poolActsUptoCard : Claim7 := { stood := { row := poolActsUptoRow, standIns := [], harness := (true, "5711b82e8bcaa12464d3b078eb31645943aa331ee9b6dcf5701e782b3c267843"), looks := true }, kinds := [], alts := [], laidByText := true, laidKinds := [.data, .pinned], laidTests := true, laidLooks := .later }
def PoolActsUptoCardSaid : Prop := Claim7.holds Tryz.pinned (.plain (OpenSpec.upto poolActsSpec)) poolActsUptoCard

/-- THE SECOND FORM's CARD OF 'billetlaw17.PoolLoads'. -/
def poolLoadsUptoCard : Claim7 := { stood := { row := poolLoadsUptoRow, standIns := [], harness := (true, "5711b82e8bcaa12464d3b078eb31645943aa331ee9b6dcf5701e782b3c267843"), looks := true }, kinds := [], alts := [], laidByText := true, laidKinds := [.data, .pinned], laidTests := true, laidLooks := .later }
def PoolLoadsUptoCardSaid : Prop := Claim7.holds Tryz.pinned (.plain (OpenSpec.upto poolLoadsSpec)) poolLoadsUptoCard
end Rows
end Go.Proofs.YtdbjihkgafhakaaGreatDoor
