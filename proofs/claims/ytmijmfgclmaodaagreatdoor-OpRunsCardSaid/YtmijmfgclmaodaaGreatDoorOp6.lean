/-
  large: the walk.
-/
import Derived.Test.YtmijmfgclmaodaaGreatDoorOp2
namespace Go.Proofs.YtmijmfgclmaodaaGreatDoor
open Go.RowKit

/-- What is gone through. -/
structure Gone (c : Cfg) (o : Opr) : Prop where
  g0 : o.att ≤ 1099511627776
  g1 : o.ret ≤ 1099511627776
  g2 : o.pre ≤ 1099511627776
  g3 : o.cls ≤ 1099511627776
  g4 : (c.ts.length : Int) ≤ 20
  g5 : (c.ls.length : Int) ≤ 20
  g6 : (o.key.size : Int) ≤ 300
  g7 : (o.cmd.size : Int) ≤ 300
  g8 : (o.need.size : Int) ≤ 300
set_option maxRecDepth 100000 in
set_option maxHeartbeats 8000000 in
theorem large30_any (cs os : Array Value) (tv lv : Value) (c : Cfg) (o : Opr) (w : World) (hc : CfgCells cs tv lv c) (hC : CfgAt w tv lv c) (ho : OpCells os o) :
    Calls Tryz.prog 10 #[.agg cs, .agg os] w fun e w' => ∃ b, e = .returned (.bool b) ∧ (b = false → Gone c o) ∧ Below w.heap.size w w' := by
  obtain ⟨⟨ta, tc, rfl, -, -⟩, ⟨la, lc, rfl, -, -⟩⟩ := hC
  have HC := Lib.hid hc
  have HO := Lib.hid ho
  clear hc ho
  go_enter Tryz.func10, Tryz.ntmps10
  go_upto_region 1 with fail
  obtain ⟨w2, hw2⟩ : ∃ w2 : World, w2 = (w.alloc (.cells cs 42)).alloc (.cells os 46) := ⟨_, rfl⟩
  rw [← hw2]
  have HX := Lib.hid (show Box2 w cs os w2 by rw [hw2]; exact box2_new w cs os)
  clear hw2
  have e3 := fr_cell_of_heap HX.out.op HO.out.f3
  have e4 := fr_cell_of_heap HX.out.op HO.out.f4
  have e5 := fr_cell_of_heap HX.out.op HO.out.f5
  have e7 := fr_cell_of_heap HX.out.op HO.out.f7
  have e9 := fr_cell_of_heap HX.out.op HO.out.f9
  have e10 := fr_cell_of_heap HX.out.op HO.out.f10
  have e11 := fr_cell_of_heap HX.out.op HO.out.f11
  have m0 := fr_cell_of_heap HX.out.cfg HC.out.f0
  have m1 := fr_cell_of_heap HX.out.cfg HC.out.f1
  by_cases g0 : o.att ≤ 1099511627776
  · skip
    by_cases g1 : o.ret ≤ 1099511627776
    · skip
      by_cases g2 : o.pre ≤ 1099511627776
      · skip
        by_cases g3 : o.cls ≤ 1099511627776
        · skip
          by_cases g4 : (c.ts.length : Int) ≤ 20
          · skip
            by_cases g5 : (c.ls.length : Int) ≤ 20
            · skip
              by_cases g6 : (o.key.size : Int) ≤ 300
              · skip
                by_cases g7 : (o.cmd.size : Int) ≤ 300
                · skip
                  by_cases g8 : (o.need.size : Int) ≤ 300
                  · have HG := Lib.hid (show Gone c o from ⟨g0, g1, g2, g3, g4, g5, g6, g7, g8⟩)
                    go_wp2_with fail
                    go_ret
                    exact ⟨_, rfl, fun _ => HG.out, HX.out.below⟩
                  · have n8 : (300 : Int) < o.need.size := by omega
                    clear g8
                    go_wp2_with fail
                    go_ret
                    exact ⟨_, rfl, fun h => (by simp at h; first | done | omega), HX.out.below⟩
                · have n7 : (300 : Int) < o.cmd.size := by omega
                  clear g7
                  go_wp2_with fail
                  go_ret
                  exact ⟨_, rfl, fun h => (by simp at h; first | done | omega), HX.out.below⟩
              · have n6 : (300 : Int) < o.key.size := by omega
                clear g6
                go_wp2_with fail
                go_ret
                exact ⟨_, rfl, fun h => (by simp at h; first | done | omega), HX.out.below⟩
            · have n5 : (20 : Int) < c.ls.length := by omega
              clear g5
              go_wp2_with fail
              go_ret
              exact ⟨_, rfl, fun h => (by simp at h; first | done | omega), HX.out.below⟩
          · have n4 : (20 : Int) < c.ts.length := by omega
            clear g4
            go_wp2_with fail
            go_ret
            exact ⟨_, rfl, fun h => (by simp at h; first | done | omega), HX.out.below⟩
        · have n3 : 1099511627776 < o.cls := by omega
          clear g3
          go_wp2_with fail
          go_ret
          exact ⟨_, rfl, fun h => (by simp at h; first | done | omega), HX.out.below⟩
      · have n2 : 1099511627776 < o.pre := by omega
        clear g2
        go_wp2_with fail
        go_ret
        exact ⟨_, rfl, fun h => (by simp at h; first | done | omega), HX.out.below⟩
    · have n1 : 1099511627776 < o.ret := by omega
      clear g1
      go_wp2_with fail
      go_ret
      exact ⟨_, rfl, fun h => (by simp at h; first | done | omega), HX.out.below⟩
  · have n0 : 1099511627776 < o.att := by omega
    clear g0
    go_wp2_with fail
    go_ret
    exact ⟨_, rfl, fun h => (by simp at h; first | done | omega), HX.out.below⟩
end Go.Proofs.YtmijmfgclmaodaaGreatDoor
