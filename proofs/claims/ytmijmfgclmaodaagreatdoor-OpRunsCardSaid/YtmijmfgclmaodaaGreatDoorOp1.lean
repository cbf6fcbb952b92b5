/-
  Operations: how one lies in memory; tried, of, New: the walks.
-/
import Derived.Test.YtmijmfgclmaodaaGreatDoorActRight
import Derived.Test.YtmijmfgclmaodaaGreatDoorRight7
import Derived.Test.YtmijmfgclmaodaaGreatDoorStore
namespace Go.Proofs.YtmijmfgclmaodaaGreatDoor
open Go.RowKit

structure Opr where
  id : Int
  tenant : Int
  inv : Int
  key : ByteArray
  cmd : ByteArray
  need : ByteArray
  cost : Int
  cls : Int
  state : Int
  att : Int
  ret : Int
  pre : Int
  code : Int
  ep : Int
  wk : Int
  dl : Int
  wake : Int
  st : Int

/-- The cells of an operation. -/
structure OpCells (os : Array Value) (o : Opr) : Prop where
  size : os.size = 18
  f0 : os[0]? = some (.int .i64 o.id)
  f1 : os[1]? = some (.int .i64 o.tenant)
  f2 : os[2]? = some (.int .i64 o.inv)
  f3 : os[3]? = some (.string o.key)
  f4 : os[4]? = some (.string o.cmd)
  f5 : os[5]? = some (.string o.need)
  f6 : os[6]? = some (.int .i64 o.cost)
  f7 : os[7]? = some (.int .i64 o.cls)
  f8 : os[8]? = some (.int .i64 o.state)
  f9 : os[9]? = some (.int .i64 o.att)
  f10 : os[10]? = some (.int .i64 o.ret)
  f11 : os[11]? = some (.int .i64 o.pre)
  f12 : os[12]? = some (.int .i64 o.code)
  f13 : os[13]? = some (.int .i64 o.ep)
  f14 : os[14]? = some (.int .i64 o.wk)
  f15 : os[15]? = some (.int .u64 o.dl)
  f16 : os[16]? = some (.int .u64 o.wake)
  f17 : os[17]? = some (.int .u64 o.st)
theorem op_info : (Tryz.prog.info? 46).map (·.size) = some 18 := by kernel_rfl
theorem op_sz {os : Array Value} {o : Opr} (h : OpCells os o) : (Tryz.prog.info? 46).map (·.size) = some os.size := by rw [h.size]; exact op_info
/-- How often it should have been tried. -/
def moreV (o : Opr) : Int := o.att - o.ret - o.pre
def triedB (o : Opr) : Bool :=
  if o.state = 1 then moreV o == 0 else if o.state = 2 then moreV o == 0 else if o.state = 3 then moreV o == 1 else if o.state = 4 then moreV o == 1 else if o.state = 5 then moreV o == 1 else moreV o == 0 || moreV o == 1
/-- Counts that do not wrap. -/
structure OpSmall (o : Opr) : Prop where
  a0 : -4398046511104 ≤ o.att
  a1 : o.att ≤ 4398046511104
  r0 : -4398046511104 ≤ o.ret
  r1 : o.ret ≤ 4398046511104
  p0 : -4398046511104 ≤ o.pre
  p1 : o.pre ≤ 4398046511104
set_option maxRecDepth 100000 in
set_option maxHeartbeats 2000000 in
theorem tried_any (os : Array Value) (o : Opr) (w : World) (hc : OpCells os o) (hs : OpSmall o) :
    Calls Tryz.prog 52 #[.agg os] w fun e w' => e = .returned (.bool (triedB o)) ∧ Below w.heap.size w w' := by
  have HC := Lib.hid hc
  obtain ⟨a0, a1, r0, r1, p0, p1⟩ := hs
  clear hc
  have e8 := cell_alloc_at (w := w) (t := 46) HC.out.f8
  have e9 := cell_alloc_at (w := w) (t := 46) HC.out.f9
  have e10 := cell_alloc_at (w := w) (t := 46) HC.out.f10
  have e11 := cell_alloc_at (w := w) (t := 46) HC.out.f11
  by_cases s1 : o.state = 1
  · have HV := Lib.hid (show triedB o = (o.att - o.ret - o.pre == 0) by unfold triedB moreV; simp [s1])
    rw [s1] at e8
    clear s1
    go_enter Tryz.func52, Tryz.ntmps52
    go_wp2
    go_ret
    exact ⟨ret_bool (by rw [HV.out]), box_below⟩
  have s1b : (o.state == 1) = false := beq_eq_false_iff_ne.2 s1
  by_cases s2 : o.state = 2
  · have HV := Lib.hid (show triedB o = (o.att - o.ret - o.pre == 0) by unfold triedB moreV; simp [s2])
    rw [s2] at e8
    clear s2 s1 s1b
    go_enter Tryz.func52, Tryz.ntmps52
    go_wp2
    go_ret
    exact ⟨ret_bool (by rw [HV.out]), box_below⟩
  have s2b : (o.state == 2) = false := beq_eq_false_iff_ne.2 s2
  by_cases s3 : o.state = 3
  · have HV := Lib.hid (show triedB o = (o.att - o.ret - o.pre == 1) by unfold triedB moreV; simp [s3])
    rw [s3] at e8
    clear s3 s1 s1b s2 s2b
    go_enter Tryz.func52, Tryz.ntmps52
    go_wp2
    go_ret
    exact ⟨ret_bool (by rw [HV.out]), box_below⟩
  have s3b : (o.state == 3) = false := beq_eq_false_iff_ne.2 s3
  by_cases s4 : o.state = 4
  · have HV := Lib.hid (show triedB o = (o.att - o.ret - o.pre == 1) by unfold triedB moreV; simp [s4])
    rw [s4] at e8
    clear s4 s1 s1b s2 s2b s3 s3b
    go_enter Tryz.func52, Tryz.ntmps52
    go_wp2
    go_ret
    exact ⟨ret_bool (by rw [HV.out]), box_below⟩
  have s4b : (o.state == 4) = false := beq_eq_false_iff_ne.2 s4
  by_cases s5 : o.state = 5
  · have HV := Lib.hid (show triedB o = (o.att - o.ret - o.pre == 1) by unfold triedB moreV; simp [s5])
    rw [s5] at e8
    clear s5 s1 s1b s2 s2b s3 s3b s4 s4b
    go_enter Tryz.func52, Tryz.ntmps52
    go_wp2
    go_ret
    exact ⟨ret_bool (by rw [HV.out]), box_below⟩
  have s5b : (o.state == 5) = false := beq_eq_false_iff_ne.2 s5
  have HV := Lib.hid (show triedB o = (o.att - o.ret - o.pre == 0 || o.att - o.ret - o.pre == 1) by unfold triedB moreV; simp [s1, s2, s3, s4, s5])
  clear s1 s2 s3 s4 s5
  rcases hm : (o.att - o.ret - o.pre == 0) with _ | _
  all_goals
    go_enter Tryz.func52, Tryz.ntmps52
    go_wp2
    go_ret
    refine ⟨ret_bool ?_, box_below⟩
    rw [HV.out, hm]
    rfl
set_option maxRecDepth 100000 in
set_option maxHeartbeats 1000000 in
theorem opof_any (os : Array Value) (o : Opr) (w : World) (hc : OpCells os o) :
    Calls Tryz.prog 53 #[.agg os] w fun e w' => e = .returned (.agg #[.int .i64 o.ep, .int .i64 o.wk, .int .u64 o.st]) ∧ Below w.heap.size w w' := by
  have HC := Lib.hid hc
  have q13 := hc.f13
  have q14 := hc.f14
  have q17 := hc.f17
  clear hc
  go_enter Tryz.func53, Tryz.ntmps53
  go_wp2
  refine bodyPost_ret (v := .agg #[.int .i64 o.ep, .int .i64 o.wk, .int .u64 o.st]) (by simp [results, Tryz.results53, go_sem]) rfl ⟨rfl, ?_⟩
  exact box_below.alloc (by simp) _
/-- A new operation. -/
def newO (id tenant inv : Int) (k c n : ByteArray) (cost cls dl : Int) : Opr := ⟨id, tenant, inv, k, c, n, cost, cls, 1, 0, 0, 0, 0, 0, 0, dl, 0, 0⟩
def newA (id tenant inv : Int) (k c n : ByteArray) (cost cls dl : Int) : Array Value := #[.int .i64 id, .int .i64 tenant, .int .i64 inv, .string k, .string c, .string n, .int .i64 cost, .int .i64 cls, .int .i64 1, .int .i64 0, .int .i64 0, .int .i64 0, .int .i64 0, .int .i64 0, .int .i64 0, .int .u64 dl, .int .u64 0, .int .u64 0]
theorem newA_cells (id tenant inv : Int) (k c n : ByteArray) (cost cls dl : Int) : OpCells (newA id tenant inv k c n cost cls dl) (newO id tenant inv k c n cost cls dl) := ⟨rfl, rfl, rfl, rfl, rfl, rfl, rfl, rfl, rfl, rfl, rfl, rfl, rfl, rfl, rfl, rfl, rfl, rfl, rfl⟩
set_option maxRecDepth 100000 in
set_option maxHeartbeats 2000000 in
theorem opnew_any (id tenant inv : Int) (k c n : ByteArray) (cost cls dl : Int) (w : World) :
    Calls Tryz.prog 43 #[.int .i64 id, .int .i64 tenant, .int .i64 inv, .agg #[.string k, .string c, .string n], .int .i64 cost, .int .i64 cls, .int .u64 dl] w fun e w' => e = .returned (.agg (newA id tenant inv k c n cost cls dl)) ∧ Below w.heap.size w w' := by
  go_enter Tryz.func43, Tryz.ntmps43
  go_wp2_with (refine wpList_store_new rfl 46 _ _ rfl (w.heap.size + 1) ?a1 _ rfl rfl ?a2 ?a3 ?a4 ?_; (case a1 => simp); (case a2 => exact op_info); (case a3 => rfl); (case a4 => simp [Value.oneCell']))
  refine bodyPost_ret (v := .agg (newA id tenant inv k c n cost cls dl)) (results_row1 Tryz.results43 rfl (heap_alloc_two _ _ _) Tryz.underlying46 rfl op_info) rfl ⟨rfl, ?_⟩
  exact box_below.alloc (by simp) _
end Go.Proofs.YtmijmfgclmaodaaGreatDoor
