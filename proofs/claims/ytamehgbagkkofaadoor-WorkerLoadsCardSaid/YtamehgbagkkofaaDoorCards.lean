/-
  DERIVED. GIVEN WITH THE SEED: THE CARDS: each row of YtamehgbagkkofaaDoorRows.lean that lists a variable, with what it lists TIED to the program's text (the seventh form; the later family's looks); each row that meets fmt, with fmt's text TOLD by the authors' own Lean function (tested against real Go, not proved from fmt's source: count such statements apart). THE CARD IS WHAT COUNTS. Prove the row's statement (the work); the ties are given (YtamehgbagkkofaaDoorTie.lean); close each card by the builder's one call (the guide's Derived/Test/ToyasCard.lean, 'card_holds'). Laid BY PROGRAM, IN A SANDBOX (cutbox-door.mjs). By AI agents, Wed Nov 11 2026. No macro, syntax, notation, axiom, sorry.
-/
import Derived.Test.YtamehgbagkkofaaDoorRows
import GoSem.ClaimSeven
namespace Go.Proofs.YtamehgbagkkofaaDoor
namespace Rows

/-- THE TIED CARD OF 'billetlaw04.PropParses'. -/
def propParsesCard : Claim7 := { stood := { row := propParsesRow, standIns := [], harness := (true, "df1fc212716e8f2b93237e911d5603cc11f16e219ba9aa40e6895f41db8c0184"), looks := false }, kinds := [], alts := [], laidByText := true, laidKinds := [.data, .pinned], laidTests := true, laidLooks := .later }
def PropParsesCardSaid : Prop := Claim7.holds Tryd.pinned (.plain (OpenSpec.ofChange propParsesSpec)) propParsesCard

/-- THE TIED CARD OF 'billetlaw04.PropMatches'. -/
def propMatchesCard : Claim7 := { stood := { row := propMatchesRow, standIns := [], harness := (true, "df1fc212716e8f2b93237e911d5603cc11f16e219ba9aa40e6895f41db8c0184"), looks := false }, kinds := [], alts := [], laidByText := true, laidKinds := [.data, .pinned], laidTests := true, laidLooks := .later }
def PropMatchesCardSaid : Prop := Claim7.holds Tryd.pinned (.plain (OpenSpec.ofChange propMatchesSpec)) propMatchesCard

/-- THE TIED CARD OF 'billetlaw04.PropOrder'. -/
def propOrderCard : Claim7 := { stood := { row := propOrderRow, standIns := [], harness := (true, "df1fc212716e8f2b93237e911d5603cc11f16e219ba9aa40e6895f41db8c0184"), looks := false }, kinds := [], alts := [], laidByText := true, laidKinds := [.data, .pinned], laidTests := true, laidLooks := .later }
def PropOrderCardSaid : Prop := Claim7.holds Tryd.pinned (.plain (OpenSpec.ofChange propOrderSpec)) propOrderCard

/-- THE TIED CARD OF 'billetlaw18.ActionOf'. -/
def actionOfCard : Claim7 := { stood := { row := actionOfRow, standIns := [], harness := (true, "df1fc212716e8f2b93237e911d5603cc11f16e219ba9aa40e6895f41db8c0184"), looks := false }, kinds := [], alts := [], laidByText := true, laidKinds := [.data, .pinned], laidTests := true, laidLooks := .later }
def ActionOfCardSaid : Prop := Claim7.holds Tryd.pinned (.plain (OpenSpec.ofChange actionOfSpec)) actionOfCard

/-- THE TIED CARD OF 'billetlaw18.ActionTells'. -/
def actionTellsCard : Claim7 := { stood := { row := actionTellsRow, standIns := [], harness := (true, "df1fc212716e8f2b93237e911d5603cc11f16e219ba9aa40e6895f41db8c0184"), looks := false }, kinds := [], alts := [], laidByText := true, laidKinds := [.data, .pinned], laidTests := true, laidLooks := .later }
def ActionTellsCardSaid : Prop := Claim7.holds Tryd.pinned (.plain (OpenSpec.ofChange actionTellsSpec)) actionTellsCard

/-- THE TIED CARD OF 'billetlaw29.WorkerOnce'. -/
def workerOnceCard : Claim7 := { stood := { row := workerOnceRow, standIns := [], harness := (true, "df1fc212716e8f2b93237e911d5603cc11f16e219ba9aa40e6895f41db8c0184"), looks := false }, kinds := [], alts := [], laidByText := true, laidKinds := [.data, .pinned], laidTests := true, laidLooks := .later }
def WorkerOnceCardSaid : Prop := Claim7.holds Tryd.pinned (.plain (OpenSpec.ofChange workerOnceSpec)) workerOnceCard

/-- THE TIED CARD OF 'billetlaw29.WorkerLoads'. -/
def workerLoadsCard : Claim7 := { stood := { row := workerLoadsRow, standIns := [], harness := (true, "df1fc212716e8f2b93237e911d5603cc11f16e219ba9aa40e6895f41db8c0184"), looks := false }, kinds := [], alts := [], laidByText := true, laidKinds := [.data, .pinned], laidTests := true, laidLooks := .later }
def WorkerLoadsCardSaid : Prop := Claim7.holds Tryd.pinned (.plain (OpenSpec.ofChange workerLoadsSpec)) workerLoadsCard

/-- THE SECOND FORM's CARD OF 'billetlaw04.PropParses'. -/
def propParsesUptoCard : Claim7 := { stood := { row := propParsesUptoRow, standIns := [], harness := (true, "df1fc212716e8f2b93237e911d5603cc11f16e219ba9aa40e6895f41db8c0184"), looks := false }, kinds := [], alts := [], laidByText := true, laidKinds := [.data, .pinned], laidTests := true, laidLooks := .later }
def PropParsesUptoCardSaid : Prop := Claim7.holds Tryd.pinned (.plain (OpenSpec.upto propParsesSpec)) propParsesUptoCard

/-- THE SECOND FORM's CARD OF 'billetlaw04.PropMatches'. -/
def propMatchesUptoCard : Claim7 := { stood := { row := propMatchesUptoRow, standIns := [], harness := (true, "df1fc212716e8f2b93237e911d5603cc11f16e219ba9aa40e6895f41db8c0184"), looks := false }, kinds := [], alts := [], laidByText := true, laidKinds := [.data, .pinned], laidTests := true, laidLooks := .later }
def PropMatchesUptoCardSaid : Prop := Claim7.holds Tryd.pinned (.plain (OpenSpec.upto propMatchesSpec)) propMatchesUptoCard

/-- THE SECOND FORM's CARD OF 'billetlaw04.PropOrder'. -/
def propOrderUptoCard : Claim7 := { stood := { row := propOrderUptoRow, standIns := [], harness := (true, "df1fc212716e8f2b93237e911d5603cc11f16e219ba9aa40e6895f41db8c0184"), looks := false }, kinds := [], alts := [], laidByText := true, laidKinds := [.data, .pinned], laidTests := true, laidLooks := .later }
def PropOrderUptoCardSaid : Prop := Claim7.holds Tryd.pinned (.plain (OpenSpec.upto propOrderSpec)) propOrderUptoCard

/-- THE SECOND FORM's CARD OF 'billetlaw18.ActionOf'. -/
def actionOfUptoCard : Claim7 := { stood := { row := actionOfUptoRow, standIns := [], harness := (true, "df1fc212716e8f2b93237e911d5603cc11f16e219ba9aa40e6895f41db8c0184"), looks := false }, kinds := [], alts := [], laidByText := true, laidKinds := [.data, .pinned], laidTests := true, laidLooks := .later }
def ActionOfUptoCardSaid : Prop := Claim7.holds Tryd.pinned (.plain (OpenSpec.upto actionOfSpec)) actionOfUptoCard

/-- THE SECOND FORM's CARD OF 'billetlaw18.ActionTells'. -/
def actionTellsUptoCard : Claim7 := { stood := { row := actionTellsUptoRow, standIns := [], harness := (true, "df1fc212716e8f2b93237e911d5603cc11f16e219ba9aa40e6895f41db8c0184"), looks := false }, kinds := [], alts := [], laidByText := true, laidKinds := [.data, .pinned], laidTests := true, laidLooks := .later }
def ActionTellsUptoCardSaid : Prop := Claim7.holds Tryd.pinned (.plain (OpenSpec.upto actionTellsSpec)) actionTellsUptoCard

/-- THE SECOND FORM's CARD OF 'billetlaw29.WorkerOnce'. -/
def workerOnceUptoCard : Claim7 := { stood := { row := workerOnceUptoRow, standIns := [], harness := (true, "df1fc212716e8f2b93237e911d5603cc11f16e219ba9aa40e6895f41db8c0184"), looks := false }, kinds := [], alts := [], laidByText := true, laidKinds := [.data, .pinned], laidTests := true, laidLooks := .later }
def WorkerOnceUptoCardSaid : Prop := Claim7.holds Tryd.pinned (.plain (OpenSpec.upto workerOnceSpec)) workerOnceUptoCard

/-- THE SECOND FORM's CARD OF 'billetlaw29.WorkerLoads'. -/
def workerLoadsUptoCard : Claim7 := { stood := { row := workerLoadsUptoRow, standIns := [], harness := (true, "df1fc212716e8f2b93237e911d5603cc11f16e219ba9aa40e6895f41db8c0184"), looks := false }, kinds := [], alts := [], laidByText := true, laidKinds := [.data, .pinned], laidTests := true, laidLooks := .later }
def WorkerLoadsUptoCardSaid : Prop := Claim7.holds Tryd.pinned (.plain (OpenSpec.upto workerLoadsSpec)) workerLoadsUptoCard
end Rows
end Go.Proofs.YtamehgbagkkofaaDoor
