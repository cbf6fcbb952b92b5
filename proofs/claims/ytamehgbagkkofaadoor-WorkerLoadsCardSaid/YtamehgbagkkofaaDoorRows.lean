/-
  NARROWER THAN 'FOR EVERY INPUT', by the rows' own cells (each row's printed sentence says how): PropParses: laid · PropMatches: laid · PropOrder: laid · ActionOf: laid · ActionTells: laid · WorkerOnce: laid · WorkerLoads: laid.
  DERIVED. THE GIVEN ROWS OF THIS SEAT. 7 by the template 'for every input the law returns true; each argument reads behind the call as it read before'; 0 by the template 'total and deterministic' (their statements: YtamehgbagkkofaaDoorTotals.lean).
  GIVEN WITH THE SEED: the statements are not yours to turn. If you find one false, say at which input.
  Laid BY PROGRAM, IN A SANDBOX (cutbox-rows.mjs): the forced cells as the released guide's own fill.sh prints them over the translation 44ca75da0e601c44… (all of the seat's roots in one cut). By AI agents, Wed Nov 11 2026. No macro, syntax, notation, axiom, sorry.
-/
import Derived.Test.YtamehgbagkkofaaDoorChecked
import GoSem.PinnedTables
import GoSem.Claim
import GoSem.ClaimJoined
import GoSem.ClaimMapViews
import Derived.JoinedTies
import Derived.KernelRfl
namespace Go.Proofs.YtamehgbagkkofaaDoor
/- THE CELL 'sum', in the pinned program and in every row, IS THE sha256 OF THE DUMP (.gsa) THAT YtamehgbagkkofaaDoorProg.lean LOADS. Nothing in Lean hashes anything: it is a label: what it is worth is what the hold of that sum in a sandbox is worth. -/
noncomputable def Tryd.pinned : Pinned := { name := "ytamehgbagkkofaadoor", sum := "44ca75da0e601c448eac2036fecd6b564fbce0832d4f103d8552cc24855769d2", checked := Tryd.checked }
namespace Rows
def none {H : Type} : Left H := { results := [], args := [] }

/- WHAT THE LISTED PACKAGE-LEVEL VARIABLES READ AS WHEN THE CALL BEGINS. Each datum BY PROGRAM (the guide's laid-datum.mjs) off the statement by which the dump's own 'gosem.cut.vars' lays the variable. In a bare row this is a premise. The card (YtamehgbagkkofaaDoorCards.lean) ties it to the program's text. -/
def laid_unicode_utf8_acceptRanges {H : Type} : DataW H := .agg [.agg [.lit (.int .u8 128), .lit (.int .u8 191)], .agg [.lit (.int .u8 160), .lit (.int .u8 191)], .agg [.lit (.int .u8 128), .lit (.int .u8 159)], .agg [.lit (.int .u8 144), .lit (.int .u8 191)], .agg [.lit (.int .u8 128), .lit (.int .u8 143)], .agg [.lit (.int .u8 0), .lit (.int .u8 0)], .agg [.lit (.int .u8 0), .lit (.int .u8 0)], .agg [.lit (.int .u8 0), .lit (.int .u8 0)], .agg [.lit (.int .u8 0), .lit (.int .u8 0)], .agg [.lit (.int .u8 0), .lit (.int .u8 0)], .agg [.lit (.int .u8 0), .lit (.int .u8 0)], .agg [.lit (.int .u8 0), .lit (.int .u8 0)], .agg [.lit (.int .u8 0), .lit (.int .u8 0)], .agg [.lit (.int .u8 0), .lit (.int .u8 0)], .agg [.lit (.int .u8 0), .lit (.int .u8 0)], .agg [.lit (.int .u8 0), .lit (.int .u8 0)]]
/-- One of Go's own tables, pinned by name: the form's constant. -/
def laid_unicode_utf8_first : DataW Unit := Go.Pinned.utf8First

/-- 'billetlaw04.PropParses': WHATEVER THE INPUT: true; the input reads as it did. -/
def propParsesSpec : ChangeSpec := { name := "propParses", fn := fun _ => fun
  | [d] => { results := [.lit (.bool true)], args := [d] }
  | _ => none }
def propParsesRow : OpenClaim := { program := "ytamehgbagkkofaadoor", sum := "44ca75da0e601c448eac2036fecd6b564fbce0832d4f103d8552cc24855769d2", func := "billet/billetlaw04.PropParses", spec := "propParses", inPlace := ["internal/bytealg.CountString", "internal/bytealg.IndexByteString", "internal/bytealg.IndexString", "internal/bytealg.abigen_runtime_cmpstring", "internal/abi.NoEscape", "internal/bytealg.MakeNoZero"], unfollowed := true, recurses := true, named := ["unicode/utf8.first", "unicode/utf8.acceptRanges", "internal/bytealg.MaxLen"], apart := false, laid := [("unicode/utf8.acceptRanges", laid_unicode_utf8_acceptRanges), ("unicode/utf8.first", laid_unicode_utf8_first)] }
def PropParsesSaid : Prop := propParsesRow.holds Tryd.pinned (OpenSpec.ofChange propParsesSpec)

/-- ITS FALSE NEIGHBOUR: 'it returns false'. Refute it at one input. -/
def propParsesWrong : ChangeSpec := { name := "propParses", fn := fun _ => fun
  | [d] => { results := [.lit (.bool false)], args := [d] }
  | _ => none }
def PropParsesWrongFalsely : Prop := propParsesRow.holds Tryd.pinned (OpenSpec.ofChange propParsesWrong)

/-- 'billetlaw04.PropMatches': WHATEVER THE INPUT: true; the input reads as it did. -/
def propMatchesSpec : ChangeSpec := { name := "propMatches", fn := fun _ => fun
  | [d1, d2] => { results := [.lit (.bool true)], args := [d1, d2] }
  | _ => none }
def propMatchesRow : OpenClaim := { program := "ytamehgbagkkofaadoor", sum := "44ca75da0e601c448eac2036fecd6b564fbce0832d4f103d8552cc24855769d2", func := "billet/billetlaw04.PropMatches", spec := "propMatches", inPlace := ["internal/bytealg.CountString", "internal/bytealg.IndexByteString", "internal/bytealg.IndexString", "internal/bytealg.abigen_runtime_cmpstring", "internal/abi.NoEscape", "internal/bytealg.MakeNoZero"], unfollowed := true, recurses := true, named := ["unicode/utf8.first", "unicode/utf8.acceptRanges", "internal/bytealg.MaxLen"], apart := false, laid := [("unicode/utf8.acceptRanges", laid_unicode_utf8_acceptRanges), ("unicode/utf8.first", laid_unicode_utf8_first)] }
def PropMatchesSaid : Prop := propMatchesRow.holds Tryd.pinned (OpenSpec.ofChange propMatchesSpec)

/-- ITS FALSE NEIGHBOUR: 'it returns false'. Refute it at one input. -/
def propMatchesWrong : ChangeSpec := { name := "propMatches", fn := fun _ => fun
  | [d1, d2] => { results := [.lit (.bool false)], args := [d1, d2] }
  | _ => none }
def PropMatchesWrongFalsely : Prop := propMatchesRow.holds Tryd.pinned (OpenSpec.ofChange propMatchesWrong)

/-- 'billetlaw04.PropOrder': WHATEVER THE INPUT: true; the input reads as it did. -/
def propOrderSpec : ChangeSpec := { name := "propOrder", fn := fun _ => fun
  | [d1, d2] => { results := [.lit (.bool true)], args := [d1, d2] }
  | _ => none }
def propOrderRow : OpenClaim := { program := "ytamehgbagkkofaadoor", sum := "44ca75da0e601c448eac2036fecd6b564fbce0832d4f103d8552cc24855769d2", func := "billet/billetlaw04.PropOrder", spec := "propOrder", inPlace := ["internal/bytealg.CountString", "internal/bytealg.IndexByteString", "internal/bytealg.IndexString", "internal/bytealg.abigen_runtime_cmpstring", "internal/abi.NoEscape", "internal/bytealg.MakeNoZero"], unfollowed := true, recurses := true, named := ["unicode/utf8.first", "unicode/utf8.acceptRanges", "internal/bytealg.MaxLen"], apart := false, laid := [("unicode/utf8.acceptRanges", laid_unicode_utf8_acceptRanges), ("unicode/utf8.first", laid_unicode_utf8_first)] }
def PropOrderSaid : Prop := propOrderRow.holds Tryd.pinned (OpenSpec.ofChange propOrderSpec)

/-- ITS FALSE NEIGHBOUR: 'it returns false'. Refute it at one input. -/
def propOrderWrong : ChangeSpec := { name := "propOrder", fn := fun _ => fun
  | [d1, d2] => { results := [.lit (.bool false)], args := [d1, d2] }
  | _ => none }
def PropOrderWrongFalsely : Prop := propOrderRow.holds Tryd.pinned (OpenSpec.ofChange propOrderWrong)

/-- 'billetlaw18.ActionOf': WHATEVER THE INPUT: true; the input reads as it did. -/
def actionOfSpec : ChangeSpec := { name := "actionOf", fn := fun _ => fun
  | [d1, d2, d3] => { results := [.lit (.bool true)], args := [d1, d2, d3] }
  | _ => none }
def actionOfRow : OpenClaim := { program := "ytamehgbagkkofaadoor", sum := "44ca75da0e601c448eac2036fecd6b564fbce0832d4f103d8552cc24855769d2", func := "billet/billetlaw18.ActionOf", spec := "actionOf", inPlace := ["internal/abi.NoEscape", "internal/bytealg.CountString", "internal/bytealg.IndexByteString", "internal/bytealg.IndexString", "internal/bytealg.abigen_runtime_cmpstring", "internal/bytealg.MakeNoZero"], unfollowed := true, recurses := true, named := ["unicode/utf8.first", "unicode/utf8.acceptRanges", "internal/bytealg.MaxLen"], apart := false, laid := [("unicode/utf8.acceptRanges", laid_unicode_utf8_acceptRanges), ("unicode/utf8.first", laid_unicode_utf8_first)] }
def ActionOfSaid : Prop := actionOfRow.holds Tryd.pinned (OpenSpec.ofChange actionOfSpec)

/-- ITS FALSE NEIGHBOUR: 'it returns false'. Refute it at one input. -/
def actionOfWrong : ChangeSpec := { name := "actionOf", fn := fun _ => fun
  | [d1, d2, d3] => { results := [.lit (.bool false)], args := [d1, d2, d3] }
  | _ => none }
def ActionOfWrongFalsely : Prop := actionOfRow.holds Tryd.pinned (OpenSpec.ofChange actionOfWrong)

/-- 'billetlaw18.ActionTells': WHATEVER THE INPUT: true; the input reads as it did. -/
def actionTellsSpec : ChangeSpec := { name := "actionTells", fn := fun _ => fun
  | [d1, d2] => { results := [.lit (.bool true)], args := [d1, d2] }
  | _ => none }
def actionTellsRow : OpenClaim := { program := "ytamehgbagkkofaadoor", sum := "44ca75da0e601c448eac2036fecd6b564fbce0832d4f103d8552cc24855769d2", func := "billet/billetlaw18.ActionTells", spec := "actionTells", inPlace := ["internal/abi.NoEscape", "internal/bytealg.CountString", "internal/bytealg.IndexByteString", "internal/bytealg.IndexString", "internal/bytealg.abigen_runtime_cmpstring", "internal/bytealg.MakeNoZero"], unfollowed := true, recurses := true, named := ["unicode/utf8.first", "unicode/utf8.acceptRanges", "internal/bytealg.MaxLen"], apart := false, laid := [("unicode/utf8.acceptRanges", laid_unicode_utf8_acceptRanges), ("unicode/utf8.first", laid_unicode_utf8_first)] }
def ActionTellsSaid : Prop := actionTellsRow.holds Tryd.pinned (OpenSpec.ofChange actionTellsSpec)

/-- ITS FALSE NEIGHBOUR: 'it returns false'. Refute it at one input. -/
def actionTellsWrong : ChangeSpec := { name := "actionTells", fn := fun _ => fun
  | [d1, d2] => { results := [.lit (.bool false)], args := [d1, d2] }
  | _ => none }
def ActionTellsWrongFalsely : Prop := actionTellsRow.holds Tryd.pinned (OpenSpec.ofChange actionTellsWrong)

/-- 'billetlaw29.WorkerOnce': WHATEVER THE INPUT: true; the input reads as it did. -/
def workerOnceSpec : ChangeSpec := { name := "workerOnce", fn := fun _ => fun
  | [d1, d2] => { results := [.lit (.bool true)], args := [d1, d2] }
  | _ => none }
def workerOnceRow : OpenClaim := { program := "ytamehgbagkkofaadoor", sum := "44ca75da0e601c448eac2036fecd6b564fbce0832d4f103d8552cc24855769d2", func := "billet/billetlaw29.WorkerOnce", spec := "workerOnce", inPlace := ["internal/bytealg.CountString", "internal/bytealg.IndexByteString", "internal/bytealg.IndexString", "internal/bytealg.abigen_runtime_cmpstring", "internal/abi.NoEscape", "internal/bytealg.MakeNoZero"], unfollowed := true, recurses := true, named := ["unicode/utf8.first", "unicode/utf8.acceptRanges", "internal/bytealg.MaxLen"], apart := false, laid := [("unicode/utf8.acceptRanges", laid_unicode_utf8_acceptRanges), ("unicode/utf8.first", laid_unicode_utf8_first)] }
def WorkerOnceSaid : Prop := workerOnceRow.holds Tryd.pinned (OpenSpec.ofChange workerOnceSpec)

/-- ITS FALSE NEIGHBOUR: 'it returns false'. Refute it at one input. -/
def workerOnceWrong : ChangeSpec := { name := "workerOnce", fn := fun _ => fun
  | [d1, d2] => { results := [.lit (.bool false)], args := [d1, d2] }
  | _ => none }
def WorkerOnceWrongFalsely : Prop := workerOnceRow.holds Tryd.pinned (OpenSpec.ofChange workerOnceWrong)

/-- 'billetlaw29.WorkerLoads': WHATEVER THE INPUT: true; the input reads as it did. -/
def workerLoadsSpec : ChangeSpec := { name := "workerLoads", fn := fun _ => fun
  | [d1, d2, d3] => { results := [.lit (.bool true)], args := [d1, d2, d3] }
  | _ => none }
def workerLoadsRow : OpenClaim := { program := "ytamehgbagkkofaadoor", sum := "44ca75da0e601c448eac2036fecd6b564fbce0832d4f103d8552cc24855769d2", func := "billet/billetlaw29.WorkerLoads", spec := "workerLoads", inPlace := ["internal/bytealg.CountString", "internal/bytealg.IndexByteString", "internal/bytealg.IndexString", "internal/bytealg.abigen_runtime_cmpstring", "internal/abi.NoEscape", "internal/bytealg.MakeNoZero"], unfollowed := true, recurses := true, named := ["unicode/utf8.first", "unicode/utf8.acceptRanges", "internal/bytealg.MaxLen"], apart := false, laid := [("unicode/utf8.acceptRanges", laid_unicode_utf8_acceptRanges), ("unicode/utf8.first", laid_unicode_utf8_first)] }
def WorkerLoadsSaid : Prop := workerLoadsRow.holds Tryd.pinned (OpenSpec.ofChange workerLoadsSpec)

/-- ITS FALSE NEIGHBOUR: 'it returns false'. Refute it at one input. -/
def workerLoadsWrong : ChangeSpec := { name := "workerLoads", fn := fun _ => fun
  | [d1, d2, d3] => { results := [.lit (.bool false)], args := [d1, d2, d3] }
  | _ => none }
def WorkerLoadsWrongFalsely : Prop := workerLoadsRow.holds Tryd.pinned (OpenSpec.ofChange workerLoadsWrong)

/- THE SECOND FORM. 'bulk': how many values and letters a reading holds, each counted each time it is reached (what is shared counts as often as it is met; a slice's spare places count too). A statement '..UptoSaid' is the law's where the arguments, and the package variables that the reading takes, are together of bulk at most 1048576: NARROWER than '..Said'. Prove '..Said' where nothing that the law and all that it calls make is longer than what came in: it says more and counts as full. Else prove '..UptoSaid'. A law counts once. -/
mutual
def uptoBulk {H : Type} : DataW H → Nat
  | .lit (.string bytes) => bytes.length + 1
  | .lit _ => 1
  | .nil => 1
  | .ptr d => uptoBulk d + 1
  | .slice elems spare => uptoBulkAll elems + uptoBulkAll spare + 1
  | .agg parts => uptoBulkAll parts + 1
  | .iface _ d => uptoBulk d + 1
  | .map entries => uptoBulkEntries entries + 1
  | .held _ => 1
def uptoBulkAll {H : Type} : List (DataW H) → Nat
  | [] => 0
  | d :: r => uptoBulk d + uptoBulkAll r
def uptoBulkEntries {H : Type} : List (Lit × DataW H) → Nat
  | [] => 0
  | x :: r => uptoBulkEntry x + uptoBulkEntries r
def uptoBulkEntry {H : Type} : Lit × DataW H → Nat
  | (.string bytes, d) => bytes.length + uptoBulk d + 1
  | (_, d) => uptoBulk d + 1
 end
def uptoSmall : (H : Type) → List (DataW H) → Bool := fun _ ds => decide (uptoBulkAll ds ≤ 1048576)
def OpenSpec.upto (s : _root_.Go.ChangeSpec) : _root_.Go.OpenSpec := { _root_.Go.OpenSpec.ofChange s with cond := some uptoSmall }

/-- 'billetlaw04.PropParses', WHERE WHAT IT READS IS OF BULK AT MOST 1048576: true; the input reads as it did. -/
def propParsesUptoRow : OpenClaim := { program := "ytamehgbagkkofaadoor", sum := "44ca75da0e601c448eac2036fecd6b564fbce0832d4f103d8552cc24855769d2", func := "billet/billetlaw04.PropParses", spec := "propParses", inPlace := ["internal/bytealg.CountString", "internal/bytealg.IndexByteString", "internal/bytealg.IndexString", "internal/bytealg.abigen_runtime_cmpstring", "internal/abi.NoEscape", "internal/bytealg.MakeNoZero"], unfollowed := true, recurses := true, named := ["unicode/utf8.first", "unicode/utf8.acceptRanges", "internal/bytealg.MaxLen"], apart := false, laid := [("unicode/utf8.acceptRanges", laid_unicode_utf8_acceptRanges), ("unicode/utf8.first", laid_unicode_utf8_first)], narrowed := true }
def PropParsesUptoSaid : Prop := propParsesUptoRow.holds Tryd.pinned (OpenSpec.upto propParsesSpec)

/-- 'billetlaw04.PropMatches', WHERE WHAT IT READS IS OF BULK AT MOST 1048576: true; the input reads as it did. -/
def propMatchesUptoRow : OpenClaim := { program := "ytamehgbagkkofaadoor", sum := "44ca75da0e601c448eac2036fecd6b564fbce0832d4f103d8552cc24855769d2", func := "billet/billetlaw04.PropMatches", spec := "propMatches", inPlace := ["internal/bytealg.CountString", "internal/bytealg.IndexByteString", "internal/bytealg.IndexString", "internal/bytealg.abigen_runtime_cmpstring", "internal/abi.NoEscape", "internal/bytealg.MakeNoZero"], unfollowed := true, recurses := true, named := ["unicode/utf8.first", "unicode/utf8.acceptRanges", "internal/bytealg.MaxLen"], apart := false, laid := [("unicode/utf8.acceptRanges", laid_unicode_utf8_acceptRanges), ("unicode/utf8.first", laid_unicode_utf8_first)], narrowed := true }
def PropMatchesUptoSaid : Prop := propMatchesUptoRow.holds Tryd.pinned (OpenSpec.upto propMatchesSpec)

/-- 'billetlaw04.PropOrder', WHERE WHAT IT READS IS OF BULK AT MOST 1048576: true; the input reads as it did. -/
def propOrderUptoRow : OpenClaim := { program := "ytamehgbagkkofaadoor", sum := "44ca75da0e601c448eac2036fecd6b564fbce0832d4f103d8552cc24855769d2", func := "billet/billetlaw04.PropOrder", spec := "propOrder", inPlace := ["internal/bytealg.CountString", "internal/bytealg.IndexByteString", "internal/bytealg.IndexString", "internal/bytealg.abigen_runtime_cmpstring", "internal/abi.NoEscape", "internal/bytealg.MakeNoZero"], unfollowed := true, recurses := true, named := ["unicode/utf8.first", "unicode/utf8.acceptRanges", "internal/bytealg.MaxLen"], apart := false, laid := [("unicode/utf8.acceptRanges", laid_unicode_utf8_acceptRanges), ("unicode/utf8.first", laid_unicode_utf8_first)], narrowed := true }
def PropOrderUptoSaid : Prop := propOrderUptoRow.holds Tryd.pinned (OpenSpec.upto propOrderSpec)

/-- 'billetlaw18.ActionOf', WHERE WHAT IT READS IS OF BULK AT MOST 1048576: true; the input reads as it did. -/
def actionOfUptoRow : OpenClaim := { program := "ytamehgbagkkofaadoor", sum := "44ca75da0e601c448eac2036fecd6b564fbce0832d4f103d8552cc24855769d2", func := "billet/billetlaw18.ActionOf", spec := "actionOf", inPlace := ["internal/abi.NoEscape", "internal/bytealg.CountString", "internal/bytealg.IndexByteString", "internal/bytealg.IndexString", "internal/bytealg.abigen_runtime_cmpstring", "internal/bytealg.MakeNoZero"], unfollowed := true, recurses := true, named := ["unicode/utf8.first", "unicode/utf8.acceptRanges", "internal/bytealg.MaxLen"], apart := false, laid := [("unicode/utf8.acceptRanges", laid_unicode_utf8_acceptRanges), ("unicode/utf8.first", laid_unicode_utf8_first)], narrowed := true }
def ActionOfUptoSaid : Prop := actionOfUptoRow.holds Tryd.pinned (OpenSpec.upto actionOfSpec)

/-- 'billetlaw18.ActionTells', WHERE WHAT IT READS IS OF BULK AT MOST 1048576: true; the input reads as it did. -/
def actionTellsUptoRow : OpenClaim := { program := "ytamehgbagkkofaadoor", sum := "44ca75da0e601c448eac2036fecd6b564fbce0832d4f103d8552cc24855769d2", func := "billet/billetlaw18.ActionTells", spec := "actionTells", inPlace := ["internal/abi.NoEscape", "internal/bytealg.CountString", "internal/bytealg.IndexByteString", "internal/bytealg.IndexString", "internal/bytealg.abigen_runtime_cmpstring", "internal/bytealg.MakeNoZero"], unfollowed := true, recurses := true, named := ["unicode/utf8.first", "unicode/utf8.acceptRanges", "internal/bytealg.MaxLen"], apart := false, laid := [("unicode/utf8.acceptRanges", laid_unicode_utf8_acceptRanges), ("unicode/utf8.first", laid_unicode_utf8_first)], narrowed := true }
def ActionTellsUptoSaid : Prop := actionTellsUptoRow.holds Tryd.pinned (OpenSpec.upto actionTellsSpec)

/-- 'billetlaw29.WorkerOnce', WHERE WHAT IT READS IS OF BULK AT MOST 1048576: true; the input reads as it did. -/
def workerOnceUptoRow : OpenClaim := { program := "ytamehgbagkkofaadoor", sum := "44ca75da0e601c448eac2036fecd6b564fbce0832d4f103d8552cc24855769d2", func := "billet/billetlaw29.WorkerOnce", spec := "workerOnce", inPlace := ["internal/bytealg.CountString", "internal/bytealg.IndexByteString", "internal/bytealg.IndexString", "internal/bytealg.abigen_runtime_cmpstring", "internal/abi.NoEscape", "internal/bytealg.MakeNoZero"], unfollowed := true, recurses := true, named := ["unicode/utf8.first", "unicode/utf8.acceptRanges", "internal/bytealg.MaxLen"], apart := false, laid := [("unicode/utf8.acceptRanges", laid_unicode_utf8_acceptRanges), ("unicode/utf8.first", laid_unicode_utf8_first)], narrowed := true }
def WorkerOnceUptoSaid : Prop := workerOnceUptoRow.holds Tryd.pinned (OpenSpec.upto workerOnceSpec)

/-- 'billetlaw29.WorkerLoads', WHERE WHAT IT READS IS OF BULK AT MOST 1048576: true; the input reads as it did. -/
def workerLoadsUptoRow : OpenClaim := { program := "ytamehgbagkkofaadoor", sum := "44ca75da0e601c448eac2036fecd6b564fbce0832d4f103d8552cc24855769d2", func := "billet/billetlaw29.WorkerLoads", spec := "workerLoads", inPlace := ["internal/bytealg.CountString", "internal/bytealg.IndexByteString", "internal/bytealg.IndexString", "internal/bytealg.abigen_runtime_cmpstring", "internal/abi.NoEscape", "internal/bytealg.MakeNoZero"], unfollowed := true, recurses := true, named := ["unicode/utf8.first", "unicode/utf8.acceptRanges", "internal/bytealg.MaxLen"], apart := false, laid := [("unicode/utf8.acceptRanges", laid_unicode_utf8_acceptRanges), ("unicode/utf8.first", laid_unicode_utf8_first)], narrowed := true }
def WorkerLoadsUptoSaid : Prop := workerLoadsUptoRow.holds Tryd.pinned (OpenSpec.upto workerLoadsSpec)

end Rows
end Go.Proofs.YtamehgbagkkofaaDoor
