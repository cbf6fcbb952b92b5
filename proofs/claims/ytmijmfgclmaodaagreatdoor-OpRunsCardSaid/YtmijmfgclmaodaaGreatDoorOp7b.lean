/-
  The two documents' Right, with an explicit result.
-/
import Derived.Test.YtmijmfgclmaodaaGreatDoorOp5
import Derived.Test.YtmijmfgclmaodaaGreatDoorOp6
import Derived.Test.YtmijmfgclmaodaaGreatDoorOp7
import Derived.Test.YtmijmfgclmaodaaGreatDoorOpEq
namespace Go.Proofs.YtmijmfgclmaodaaGreatDoor
open Go.RowKit

theorem rright_q {c : Cfg} (q : Bool) (hq : (checkE c == 0) = q) (cs : Array Value) (tv lv : Value) (w : World) (hc : CfgCells cs tv lv c) (hC : CfgAt w tv lv c) :
    Calls Tryz.prog 38 #[.agg cs] w fun e w' => e = .returned (.bool q) ∧ Below w.heap.size w w' := by
  subst hq
  exact rright_any cs tv lv c w hc hC
theorem araright_q {k m n : ByteArray} (q : Bool) (hq : rightB k m n = q) (w : World) (hk : k.size ≤ 140737488351232) (hc : m.size ≤ 140737488351232) (hp : n.size ≤ 1048576) :
    Calls Tryz.prog 39 #[.agg #[.string k, .string m, .string n]] w fun e w' => e = .returned (.bool q) ∧ Below w.heap.size w w' := by
  subst hq
  exact araright_any k m n w hk hc hp
end Go.Proofs.YtmijmfgclmaodaaGreatDoor
