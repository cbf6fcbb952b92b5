/-
  No cell of these rows narrows 'for every input' (looked for: loops, veiled, ifaces, maps, wideKeys, modest, calm, conditions, laid).
  DERIVED. THE GIVEN ROWS OF THIS SEAT. 7 by the template 'for every input the law returns true; each argument reads behind the call as it read before'; 0 by the template 'total and deterministic' (their statements: YtohkchilogmneaaTotals.lean).
  GIVEN WITH THE SEED: the statements are not yours to turn. If you find one false, say at which input.
  Laid BY PROGRAM, IN A SANDBOX (cutbox-rows.mjs): the forced cells as the released guide's own fill.sh prints them over the translation 8ed5dc5a89d620cc… (all of the seat's roots in one cut). By AI agents, Wed Nov 11 2026. No macro, syntax, notation, axiom, sorry.
-/
import Derived.Test.YtohkchilogmneaaChecked
import GoSem.Claim
import GoSem.ClaimJoined
import GoSem.ClaimMapViews
import Derived.JoinedTies
import Derived.KernelRfl
namespace Go.Proofs.Ytohkchilogmneaa
/- THE CELL 'sum', in the pinned program and in every row, IS THE sha256 OF THE DUMP (.gsa) THAT YtohkchilogmneaaProg.lean LOADS. Nothing in Lean hashes anything: it is a label: what it is worth is what the hold of that sum in a sandbox is worth. -/
noncomputable def Try.pinned : Pinned := { name := "ytohkchilogmneaa", sum := "8ed5dc5a89d620ccb6f74a52d1cb14be53e30b9852981d39f1bb166b908b459b", checked := Try.checked }
namespace Rows
def none {H : Type} : Left H := { results := [], args := [] }

/-- 'billetlaw15.FlowFair': WHATEVER THE INPUT: true; the input reads as it did. -/
def flowFairSpec : ChangeSpec := { name := "flowFair", fn := fun _ => fun
  | [d1, d2, d3] => { results := [.lit (.bool true)], args := [d1, d2, d3] }
  | _ => none }
def flowFairRow : OpenClaim := { program := "ytohkchilogmneaa", sum := "8ed5dc5a89d620ccb6f74a52d1cb14be53e30b9852981d39f1bb166b908b459b", func := "billet/billetlaw15.FlowFair", spec := "flowFair", unfollowed := true, recurses := true, apart := false }
def FlowFairSaid : Prop := flowFairRow.holds Try.pinned (OpenSpec.ofChange flowFairSpec)

/-- ITS FALSE NEIGHBOUR: 'it returns false'. Refute it at one input. -/
def flowFairWrong : ChangeSpec := { name := "flowFair", fn := fun _ => fun
  | [d1, d2, d3] => { results := [.lit (.bool false)], args := [d1, d2, d3] }
  | _ => none }
def FlowFairWrongFalsely : Prop := flowFairRow.holds Try.pinned (OpenSpec.ofChange flowFairWrong)

/-- 'billetlaw15.FlowPicks': WHATEVER THE INPUT: true; the input reads as it did. -/
def flowPicksSpec : ChangeSpec := { name := "flowPicks", fn := fun _ => fun
  | [d1, d2] => { results := [.lit (.bool true)], args := [d1, d2] }
  | _ => none }
def flowPicksRow : OpenClaim := { program := "ytohkchilogmneaa", sum := "8ed5dc5a89d620ccb6f74a52d1cb14be53e30b9852981d39f1bb166b908b459b", func := "billet/billetlaw15.FlowPicks", spec := "flowPicks", unfollowed := true, recurses := true, apart := false }
def FlowPicksSaid : Prop := flowPicksRow.holds Try.pinned (OpenSpec.ofChange flowPicksSpec)

/-- ITS FALSE NEIGHBOUR: 'it returns false'. Refute it at one input. -/
def flowPicksWrong : ChangeSpec := { name := "flowPicks", fn := fun _ => fun
  | [d1, d2] => { results := [.lit (.bool false)], args := [d1, d2] }
  | _ => none }
def FlowPicksWrongFalsely : Prop := flowPicksRow.holds Try.pinned (OpenSpec.ofChange flowPicksWrong)

/-- 'billetlaw15.FlowActs': WHATEVER THE INPUT: true; the input reads as it did. -/
def flowActsSpec : ChangeSpec := { name := "flowActs", fn := fun _ => fun
  | [d1, d2] => { results := [.lit (.bool true)], args := [d1, d2] }
  | _ => none }
def flowActsRow : OpenClaim := { program := "ytohkchilogmneaa", sum := "8ed5dc5a89d620ccb6f74a52d1cb14be53e30b9852981d39f1bb166b908b459b", func := "billet/billetlaw15.FlowActs", spec := "flowActs", unfollowed := true, recurses := true, apart := false }
def FlowActsSaid : Prop := flowActsRow.holds Try.pinned (OpenSpec.ofChange flowActsSpec)

/-- ITS FALSE NEIGHBOUR: 'it returns false'. Refute it at one input. -/
def flowActsWrong : ChangeSpec := { name := "flowActs", fn := fun _ => fun
  | [d1, d2] => { results := [.lit (.bool false)], args := [d1, d2] }
  | _ => none }
def FlowActsWrongFalsely : Prop := flowActsRow.holds Try.pinned (OpenSpec.ofChange flowActsWrong)

/-- 'billetlaw15.FlowLoads': WHATEVER THE INPUT: true; the input reads as it did. -/
def flowLoadsSpec : ChangeSpec := { name := "flowLoads", fn := fun _ => fun
  | [d1, d2, d3] => { results := [.lit (.bool true)], args := [d1, d2, d3] }
  | _ => none }
def flowLoadsRow : OpenClaim := { program := "ytohkchilogmneaa", sum := "8ed5dc5a89d620ccb6f74a52d1cb14be53e30b9852981d39f1bb166b908b459b", func := "billet/billetlaw15.FlowLoads", spec := "flowLoads", unfollowed := true, recurses := true, apart := false }
def FlowLoadsSaid : Prop := flowLoadsRow.holds Try.pinned (OpenSpec.ofChange flowLoadsSpec)

/-- ITS FALSE NEIGHBOUR: 'it returns false'. Refute it at one input. -/
def flowLoadsWrong : ChangeSpec := { name := "flowLoads", fn := fun _ => fun
  | [d1, d2, d3] => { results := [.lit (.bool false)], args := [d1, d2, d3] }
  | _ => none }
def FlowLoadsWrongFalsely : Prop := flowLoadsRow.holds Try.pinned (OpenSpec.ofChange flowLoadsWrong)

/-- 'billetlaw16.ShareFair': WHATEVER THE INPUT: true; the input reads as it did. -/
def shareFairSpec : ChangeSpec := { name := "shareFair", fn := fun _ => fun
  | [d1, d2, d3] => { results := [.lit (.bool true)], args := [d1, d2, d3] }
  | _ => none }
def shareFairRow : OpenClaim := { program := "ytohkchilogmneaa", sum := "8ed5dc5a89d620ccb6f74a52d1cb14be53e30b9852981d39f1bb166b908b459b", func := "billet/billetlaw16.ShareFair", spec := "shareFair", unfollowed := true, recurses := true, apart := false }
def ShareFairSaid : Prop := shareFairRow.holds Try.pinned (OpenSpec.ofChange shareFairSpec)

/-- ITS FALSE NEIGHBOUR: 'it returns false'. Refute it at one input. -/
def shareFairWrong : ChangeSpec := { name := "shareFair", fn := fun _ => fun
  | [d1, d2, d3] => { results := [.lit (.bool false)], args := [d1, d2, d3] }
  | _ => none }
def ShareFairWrongFalsely : Prop := shareFairRow.holds Try.pinned (OpenSpec.ofChange shareFairWrong)

/-- 'billetlaw16.ShareActs': WHATEVER THE INPUT: true; the input reads as it did. -/
def shareActsSpec : ChangeSpec := { name := "shareActs", fn := fun _ => fun
  | [d1, d2] => { results := [.lit (.bool true)], args := [d1, d2] }
  | _ => none }
def shareActsRow : OpenClaim := { program := "ytohkchilogmneaa", sum := "8ed5dc5a89d620ccb6f74a52d1cb14be53e30b9852981d39f1bb166b908b459b", func := "billet/billetlaw16.ShareActs", spec := "shareActs", unfollowed := true, recurses := true, apart := false }
def ShareActsSaid : Prop := shareActsRow.holds Try.pinned (OpenSpec.ofChange shareActsSpec)

/-- ITS FALSE NEIGHBOUR: 'it returns false'. Refute it at one input. -/
def shareActsWrong : ChangeSpec := { name := "shareActs", fn := fun _ => fun
  | [d1, d2] => { results := [.lit (.bool false)], args := [d1, d2] }
  | _ => none }
def ShareActsWrongFalsely : Prop := shareActsRow.holds Try.pinned (OpenSpec.ofChange shareActsWrong)

/-- 'billetlaw16.ShareLoads': WHATEVER THE INPUT: true; the input reads as it did. -/
def shareLoadsSpec : ChangeSpec := { name := "shareLoads", fn := fun _ => fun
  | [d1, d2, d3] => { results := [.lit (.bool true)], args := [d1, d2, d3] }
  | _ => none }
def shareLoadsRow : OpenClaim := { program := "ytohkchilogmneaa", sum := "8ed5dc5a89d620ccb6f74a52d1cb14be53e30b9852981d39f1bb166b908b459b", func := "billet/billetlaw16.ShareLoads", spec := "shareLoads", unfollowed := true, recurses := true, apart := false }
def ShareLoadsSaid : Prop := shareLoadsRow.holds Try.pinned (OpenSpec.ofChange shareLoadsSpec)

/-- ITS FALSE NEIGHBOUR: 'it returns false'. Refute it at one input. -/
def shareLoadsWrong : ChangeSpec := { name := "shareLoads", fn := fun _ => fun
  | [d1, d2, d3] => { results := [.lit (.bool false)], args := [d1, d2, d3] }
  | _ => none }
def ShareLoadsWrongFalsely : Prop := shareLoadsRow.holds Try.pinned (OpenSpec.ofChange shareLoadsWrong)

/- THE SECOND FORM. 'bulk': how many values and letters a reading holds, each counted each time it is reached (what is shared counts as often as it is met; a slice's spare places count too). A statement '..UptoSaid' is the law's where the arguments, and the package variables that the reading takes, are together of bulk at most 1048576: NARROWER than '..Said'. Prove '..Said' where nothing that the law and all that it calls make is longer than what came in: it says more and counts as full. Else prove '..UptoSaid'. A law counts once. -/
mutual
def uptoBulk {H : Type} : DataW H → Nat
  | .lit (.string bytes) => bytes.length + 1
  | .lit _ => 1
  | .nil => 1
  | .ptr d => uptoBulk d + 1
  | .slice elems spare => uptoBulkAll elems + uptoBulkAll spare + 1
  | .agg parts => uptoBulkAll parts + 1
  | .iface _ d => uptoBulk d + 1
  | .map entries => uptoBulkEntries entries + 1
  | .held _ => 1
def uptoBulkAll {H : Type} : List (DataW H) → Nat
  | [] => 0
  | d :: r => uptoBulk d + uptoBulkAll r
def uptoBulkEntries {H : Type} : List (Lit × DataW H) → Nat
  | [] => 0
  | x :: r => uptoBulkEntry x + uptoBulkEntries r
def uptoBulkEntry {H : Type} : Lit × DataW H → Nat
  | (.string bytes, d) => bytes.length + uptoBulk d + 1
  | (_, d) => uptoBulk d + 1
 end
def uptoSmall : (H : Type) → List (DataW H) → Bool := fun _ ds => decide (uptoBulkAll ds ≤ 1048576)
def OpenSpec.upto (s : _root_.Go.ChangeSpec) : _root_.Go.OpenSpec := { _root_.Go.OpenSpec.ofChange s with cond := some uptoSmall }

/-- 'billetlaw15.FlowFair', WHERE WHAT IT READS IS OF BULK AT MOST 1048576: true; the input reads as it did. -/
def flowFairUptoRow : OpenClaim := { program := "ytohkchilogmneaa", sum := "8ed5dc5a89d620ccb6f74a52d1cb14be53e30b9852981d39f1bb166b908b459b", func := "billet/billetlaw15.FlowFair", spec := "flowFair", unfollowed := true, recurses := true, apart := false, narrowed := true }
def FlowFairUptoSaid : Prop := flowFairUptoRow.holds Try.pinned (OpenSpec.upto flowFairSpec)

/-- 'billetlaw15.FlowPicks', WHERE WHAT IT READS IS OF BULK AT MOST 1048576: true; the input reads as it did. -/
def flowPicksUptoRow : OpenClaim := { program := "ytohkchilogmneaa", sum := "8ed5dc5a89d620ccb6f74a52d1cb14be53e30b9852981d39f1bb166b908b459b", func := "billet/billetlaw15.FlowPicks", spec := "flowPicks", unfollowed := true, recurses := true, apart := false, narrowed := true }
def FlowPicksUptoSaid : Prop := flowPicksUptoRow.holds Try.pinned (OpenSpec.upto flowPicksSpec)

/-- 'billetlaw15.FlowActs', WHERE WHAT IT READS IS OF BULK AT MOST 1048576: true; the input reads as it did. -/
def flowActsUptoRow : OpenClaim := { program := "ytohkchilogmneaa", sum := "8ed5dc5a89d620ccb6f74a52d1cb14be53e30b9852981d39f1bb166b908b459b", func := "billet/billetlaw15.FlowActs", spec := "flowActs", unfollowed := true, recurses := true, apart := false, narrowed := true }
def FlowActsUptoSaid : Prop := flowActsUptoRow.holds Try.pinned (OpenSpec.upto flowActsSpec)

/-- 'billetlaw15.FlowLoads', WHERE WHAT IT READS IS OF BULK AT MOST 1048576: true; the input reads as it did. -/
def flowLoadsUptoRow : OpenClaim := { program := "ytohkchilogmneaa", sum := "8ed5dc5a89d620ccb6f74a52d1cb14be53e30b9852981d39f1bb166b908b459b", func := "billet/billetlaw15.FlowLoads", spec := "flowLoads", unfollowed := true, recurses := true, apart := false, narrowed := true }
def FlowLoadsUptoSaid : Prop := flowLoadsUptoRow.holds Try.pinned (OpenSpec.upto flowLoadsSpec)

/-- 'billetlaw16.ShareFair', WHERE WHAT IT READS IS OF BULK AT MOST 1048576: true; the input reads as it did. -/
def shareFairUptoRow : OpenClaim := { program := "ytohkchilogmneaa", sum := "8ed5dc5a89d620ccb6f74a52d1cb14be53e30b9852981d39f1bb166b908b459b", func := "billet/billetlaw16.ShareFair", spec := "shareFair", unfollowed := true, recurses := true, apart := false, narrowed := true }
def ShareFairUptoSaid : Prop := shareFairUptoRow.holds Try.pinned (OpenSpec.upto shareFairSpec)

/-- 'billetlaw16.ShareActs', WHERE WHAT IT READS IS OF BULK AT MOST 1048576: true; the input reads as it did. -/
def shareActsUptoRow : OpenClaim := { program := "ytohkchilogmneaa", sum := "8ed5dc5a89d620ccb6f74a52d1cb14be53e30b9852981d39f1bb166b908b459b", func := "billet/billetlaw16.ShareActs", spec := "shareActs", unfollowed := true, recurses := true, apart := false, narrowed := true }
def ShareActsUptoSaid : Prop := shareActsUptoRow.holds Try.pinned (OpenSpec.upto shareActsSpec)

/-- 'billetlaw16.ShareLoads', WHERE WHAT IT READS IS OF BULK AT MOST 1048576: true; the input reads as it did. -/
def shareLoadsUptoRow : OpenClaim := { program := "ytohkchilogmneaa", sum := "8ed5dc5a89d620ccb6f74a52d1cb14be53e30b9852981d39f1bb166b908b459b", func := "billet/billetlaw16.ShareLoads", spec := "shareLoads", unfollowed := true, recurses := true, apart := false, narrowed := true }
def ShareLoadsUptoSaid : Prop := shareLoadsUptoRow.holds Try.pinned (OpenSpec.upto shareLoadsSpec)

end Rows
end Go.Proofs.Ytohkchilogmneaa
