/-
  law17: pools in a law's walk; a call's texts' length: the walks.
-/
import Derived.Test.YtdbjihkgafhakaaGreatDoorPool12
import Derived.Test.YtdbjihkgafhakaaGreatDoorRMatch
namespace Go.Proofs.YtdbjihkgafhakaaGreatDoor
open Go.RowKit

/-- Pools in a law's walk. -/
structure PlState (W : World) (P : Nat) (x : PX) (next : Int) (v : Value) (L : List PN) (ρ : Roles) (wr : World) : Prop where
  pool : PoolAt ρ wr P x next v L
  below : Below W.heap.size W wr
  old : ∀ j, j < W.heap.size → ρ j = []
section
variable {W wr w' : World} {P : Nat} {x : PX} {next next' : Int} {v v' : Value} {L L' : List PN} {ρ ρ' : Roles}
theorem PlState.on (h : PlState W P x next v L ρ wr) (hb : Below wr.heap.size wr w') : PlState W P x next v L ρ w' := ⟨h.pool.below hb, h.below.trans (hb.mono h.below.size), h.old⟩
theorem PlState.step (h : PlState W P x next v L ρ wr) (hl : Later ρ ρ' wr) (hp : PoolAt ρ' w' P x next' v' L') (hF : Fp (Part ρ [0]) wr w') : PlState W P x next' v' L' ρ' w' :=
  ⟨hp, h.below.trans (hF.below h.below.size (fun j hj ⟨t, e⟩ => by rw [h.old j hj] at e; simp at e)), fun j hj => (hl j (Nat.lt_of_lt_of_le hj h.below.size)).trans (h.old j hj)⟩
theorem PlState.fence (h : PlState W P x next v L ρ wr) : PlState W P x next v L (fence ρ wr) wr :=
  ⟨h.pool.later (fence_later ρ wr), h.below, fun j hj => (fence_later ρ wr j (Nat.lt_of_lt_of_le hj h.below.size)).trans (h.old j hj)⟩
/-- A block that is nobody's stays as it is. -/
theorem pkeep (hF : Fp (Part ρ [0]) wr w') {b : Nat} {o : Obj} (hb : wr.heap[b]? = some o) (hr : ρ b = []) : w'.heap[b]? = some o := hF.heap hb (fun ⟨t, e⟩ => by rw [hr] at e; simp at e)
end
set_option maxRecDepth 100000 in
set_option maxHeartbeats 1000000 in
/-- THE WALK: num. -/
theorem num17_any (e : Int) (w : World) : Calls Tryz.prog 26 #[.int .i64 e] w fun v w' => v = .returned (.int .i64 e) ∧ w = w' := by
  go_enter Tryz.func26, Tryz.ntmps26
  go_wp2
  go_ret
  exact ⟨rfl, rfl⟩
/-- A call of pools. -/
structure Pa where
  kind : Int
  e : Ent
  plat : ByteArray
def encPa (a : Pa) : List Value := [.int .i64 a.kind, .string a.e.need, .int .i64 a.e.cls, .int .i64 a.e.ten, .int .i64 a.e.tw, .int .i64 a.e.inv, .int .i64 a.e.iw, .int .i64 a.e.id, .int .i64 a.e.cost, .string a.plat]
def paC (a : Pa) : Array Value := #[.int .i64 a.kind, .string a.e.need, .int .i64 a.e.cls, .int .i64 a.e.ten, .int .i64 a.e.tw, .int .i64 a.e.inv, .int .i64 a.e.iw, .int .i64 a.e.id, .int .i64 a.e.cost, .string a.plat]
theorem pa_sz (a : Pa) : (Tryz.prog.info? 27).map (·.size) = some (paC a).size := by
  rw [show (paC a).size = 10 from rfl]
  kernel_rfl
theorem pa_szE (a : Pa) : (Tryz.prog.info? 27).map (·.size) = some (encPa a).length := by
  rw [show (encPa a).length = 10 from rfl]
  kernel_rfl
theorem pa_one (a : Pa) : (encPa a).toArray.all (·.oneCell') = true := by simp [encPa, Value.oneCell']
def longB (a : Pa) : Bool := decide (200 < (a.e.need.size : Int)) || decide (200 < (a.plat.size : Int))
set_option maxRecDepth 100000 in
set_option maxHeartbeats 2000000 in
/-- THE WALK: long. -/
theorem long17_any (a : Pa) (w : World) : Calls Tryz.prog 7 #[.agg (paC a)] w fun e w' => e = .returned (.bool (longB a)) ∧ Below w.heap.size w w' := by
  unfold paC
  by_cases g1 : 200 < (a.e.need.size : Int)
  · have HV := Lib.hid (show longB a = true by unfold longB; rw [decide_eq_true g1]; rfl)
    go_enter Tryz.func7, Tryz.ntmps7
    go_wp2_with fail
    go_ret
    exact ⟨by rw [HV.out]; rfl, box_below⟩
  · have HV := Lib.hid (show longB a = decide (200 < (a.plat.size : Int)) by unfold longB; rw [decide_eq_false g1]; rfl)
    go_enter Tryz.func7, Tryz.ntmps7
    go_wp2_with fail
    go_ret
    refine ⟨?_, box_below⟩
    rw [HV.out]
    rfl
end Go.Proofs.YtdbjihkgafhakaaGreatDoor
