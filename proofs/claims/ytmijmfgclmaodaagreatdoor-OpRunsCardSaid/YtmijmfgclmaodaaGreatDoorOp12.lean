/-
  Limit, Fail, Preempt, Cancel, Expire, of an operation that may be: the walks.
-/
import Derived.Test.YtmijmfgclmaodaaGreatDoorOp11
namespace Go.Proofs.YtmijmfgclmaodaaGreatDoor
open Go.RowKit

/-- What may become of an operation. -/
def OpPost (c : Cfg) (o : Opr) (w : World) (e : Ending) (w' : World) : Prop := ∃ (x : Opr) (b : Bool), e = .returned (.tuple #[.agg (opA x), .bool b]) ∧ Good c o x b ∧ Below w.heap.size w w'
/-- May an operation be preempted? -/
def LimPost (c : Cfg) (o : Opr) (w : World) (e : Ending) (w' : World) : Prop := ∃ (n : Int) (b : Bool), e = .returned (.tuple #[.int .i64 n, .bool b]) ∧ (b = true → o.state = 3 ∧ o.pre < c.preempts ∧ o.cls < c.ls.length) ∧ Below w.heap.size w w'
set_option maxRecDepth 100000 in
set_option maxHeartbeats 4000000 in
theorem oplimit_any (cs : Array Value) (tv lv : Value) (c : Cfg) (o : Opr) (w : World) (hc : CfgCells cs tv lv c) (hC : CfgAt w tv lv c) (hk : OpOk c o) :
    Calls Tryz.prog 75 #[.agg cs, .agg (opA o)] w (LimPost c o w) := by
  have HC := Lib.hid hc
  have HCA := Lib.hid hC
  have HK := Lib.hid hk
  clear hc hC hk
  go_enter Tryz.func75, Tryz.ntmps75
  go_upto_region 1 with fail
  obtain ⟨w2, hw2⟩ : ∃ w2 : World, w2 = (w.alloc (.cells cs 42)).alloc (.cells (opA o) 46) := ⟨_, rfl⟩
  rw [← hw2]
  have HX := Lib.hid (show Box2 w cs (opA o) w2 by rw [hw2]; exact box2_new w cs (opA o))
  clear hw2
  have e7 : w2.cell? ⟨w.heap.size + 1, 7, none⟩ = some (.int .i64 o.cls) := fr_cell_of_heap HX.out.op rfl
  go_wp2_with (refine wpList_load_agg 42 HX.out.cfg Tryz.underlying42 rfl (cfg_sz HC.out) rfl _ rfl rfl ?_)
  refine (clim_any cs tv lv c _ _ HC.out (HCA.out.below HX.out.below) HK.out.chk HK.out.cls0).mono ?_
  rintro e w3 ⟨n, rfl, hn, hb3⟩
  have HX3 := Lib.hid (HX.out.next hb3)
  have HN := Lib.hid hn
  clear hb3 hn e7
  have e8 : w3.cell? ⟨w.heap.size + 1, 8, none⟩ = some (.int .i64 o.state) := fr_cell_of_heap HX3.out.op rfl
  have e11 : w3.cell? ⟨w.heap.size + 1, 11, none⟩ = some (.int .i64 o.pre) := fr_cell_of_heap HX3.out.op rfl
  have m9 : w3.cell? ⟨w.heap.size, 9, none⟩ = some (.int .i64 c.preempts) := fr_cell_of_heap HX3.out.cfg HC.out.f9
  by_cases s3 : o.state = 3
  · have HS := Lib.hid s3
    have q1 : (o.state != 3) = false := by simp [s3]
    clear s3
    by_cases n0 : n = 0
    · have q2 : (n == 0) = true := beq_iff_eq.2 n0
      clear n0
      go_wp2_with fail
      go_ret2
      exact ⟨_, _, rfl, (fun h => by cases h), HX3.out.below⟩
    · have q2 : (n == 0) = false := beq_eq_false_iff_ne.2 n0
      have HV := Lib.hid (HN.out n0)
      clear n0
      by_cases p0 : o.pre < c.preempts
      · go_wp2_with fail
        go_ret2
        exact ⟨_, _, rfl, fun _ => ⟨HS.out, p0, HV.out⟩, HX3.out.below⟩
      · have p1 : c.preempts ≤ o.pre := by omega
        clear p0
        go_wp2_with fail
        go_ret2
        exact ⟨_, _, rfl, (fun h => by cases h), HX3.out.below⟩
  · have q1 : (o.state != 3) = true := by simp [s3]
    clear s3
    go_wp2_with fail
    go_ret2
    exact ⟨_, _, rfl, (fun h => by cases h), HX3.out.below⟩
set_option maxRecDepth 100000 in
set_option maxHeartbeats 4000000 in
theorem opend_yes (c : Cfg) (o : Opr) (s : Int) (w : World) (hk : OpOk c o) (h6 : 6 ≤ s) (h7 : s ≤ 7) (hlt : o.state < 4) :
    Calls Tryz.prog 76 #[.agg (opA o), .int .i64 s] w (OpPost c o w) := by
  have HK := Lib.hid hk
  have s0 := hk.st0
  clear hk
  go_enter Tryz.func76, Tryz.ntmps76
  go_upto_region 1 with fail
  obtain ⟨w1, hw1⟩ : ∃ w1 : World, w1 = (w.alloc (.cells (opA o) 46)).alloc (.cells #[.int .i64 0, .int .i64 0, .int .i64 0, .string { data := #[] }, .string { data := #[] }, .string { data := #[] }, .int .i64 0, .int .i64 0, .int .i64 0, .int .i64 0, .int .i64 0, .int .i64 0, .int .i64 0, .int .i64 0, .int .i64 0, .int .u64 0, .int .u64 0, .int .u64 0] 46) := ⟨_, rfl⟩
  rw [← hw1]
  have HX := Lib.hid (show OpB w w1 w.heap.size (w.heap.size + 1) (opA o) #[.int .i64 0, .int .i64 0, .int .i64 0, .string { data := #[] }, .string { data := #[] }, .string { data := #[] }, .int .i64 0, .int .i64 0, .int .i64 0, .int .i64 0, .int .i64 0, .int .i64 0, .int .i64 0, .int .i64 0, .int .i64 0, .int .u64 0, .int .u64 0, .int .u64 0] by rw [hw1]; exact opB_new w _ _)
  clear hw1
  have e8 : w1.cell? ⟨w.heap.size, 8, none⟩ = some (.int .i64 o.state) := fr_cell_of_heap HX.out.op rfl
  go_wp2_with (refine wpList_load_agg 46 HX.out.op Tryz.underlying46 rfl (opA_info (o)) rfl _ rfl rfl ?_)
  refine (opto_any o s _).mono ?_
  rintro e w3 ⟨rfl, hb3⟩
  have HX3 := Lib.hid (HX.out.next hb3)
  clear hb3 e8
  go_wp2_with (first | (refine wpList_load_agg 46 HX3.out.op Tryz.underlying46 rfl (opA_info (toO o s)) rfl _ rfl rfl ?_) | (refine wpList_store_row rfl 46 _ _ rfl (w.heap.size + 1) (opA (toO o s)) rfl rfl 46 _ HX3.out.res (opA_info (toO o s)) rfl (opA_one (toO o s)) ?_))
  refine bodyPost_ret (v := .tuple #[.agg (opA (toO o s)), .bool true]) (results_row2 Tryz.results76 rfl rfl (setRow_at HX3.out.res) Tryz.underlying46 rfl (opA_info (toO o s))) rfl ⟨_, _, rfl, good_end HK.out (by omega) h6 h7, ?_⟩
  exact (HX3.out.out _).below
set_option maxRecDepth 100000 in
set_option maxHeartbeats 4000000 in
theorem opend_no (c : Cfg) (o : Opr) (s : Int) (w : World) (hk : OpOk c o) (hge : 4 ≤ o.state) :
    Calls Tryz.prog 76 #[.agg (opA o), .int .i64 s] w (OpPost c o w) := by
  have HK := Lib.hid hk
  have s0 := hk.st0
  clear hk
  go_enter Tryz.func76, Tryz.ntmps76
  go_upto_region 1 with fail
  obtain ⟨w1, hw1⟩ : ∃ w1 : World, w1 = (w.alloc (.cells (opA o) 46)).alloc (.cells #[.int .i64 0, .int .i64 0, .int .i64 0, .string { data := #[] }, .string { data := #[] }, .string { data := #[] }, .int .i64 0, .int .i64 0, .int .i64 0, .int .i64 0, .int .i64 0, .int .i64 0, .int .i64 0, .int .i64 0, .int .i64 0, .int .u64 0, .int .u64 0, .int .u64 0] 46) := ⟨_, rfl⟩
  rw [← hw1]
  have HX := Lib.hid (show OpB w w1 w.heap.size (w.heap.size + 1) (opA o) #[.int .i64 0, .int .i64 0, .int .i64 0, .string { data := #[] }, .string { data := #[] }, .string { data := #[] }, .int .i64 0, .int .i64 0, .int .i64 0, .int .i64 0, .int .i64 0, .int .i64 0, .int .i64 0, .int .i64 0, .int .i64 0, .int .u64 0, .int .u64 0, .int .u64 0] by rw [hw1]; exact opB_new w _ _)
  clear hw1
  have e8 : w1.cell? ⟨w.heap.size, 8, none⟩ = some (.int .i64 o.state) := fr_cell_of_heap HX.out.op rfl
  go_wp2_with (first | (refine wpList_load_agg 46 HX.out.op Tryz.underlying46 rfl (opA_info (o)) rfl _ rfl rfl ?_) | (refine wpList_store_row rfl 46 _ _ rfl (w.heap.size + 1) (opA (o)) rfl rfl 46 _ HX.out.res (opA_info (o)) rfl (opA_one (o)) ?_))
  refine bodyPost_ret (v := .tuple #[.agg (opA o), .bool false]) (results_row2 Tryz.results76 rfl rfl (setRow_at HX.out.res) Tryz.underlying46 rfl (opA_info o)) rfl ⟨_, _, rfl, good_none HK.out, ?_⟩
  exact (HX.out.out _).below
set_option maxRecDepth 100000 in
set_option maxHeartbeats 4000000 in
theorem opend_any (c : Cfg) (o : Opr) (s : Int) (w : World) (hk : OpOk c o) (h6 : 6 ≤ s) (h7 : s ≤ 7) :
    Calls Tryz.prog 76 #[.agg (opA o), .int .i64 s] w (OpPost c o w) := by
  by_cases hlt : o.state < 4
  · exact opend_yes c o s w hk h6 h7 hlt
  · exact opend_no c o s w hk (by omega)
theorem OpPost.later {c : Cfg} {o : Opr} {w w1 : World} {e : Ending} {w' : World} (h : OpPost c o w1 e w') (hb : Below w.heap.size w w1) : OpPost c o w e w' := by
  obtain ⟨x, b, rfl, hg, h1⟩ := h
  exact ⟨x, b, rfl, hg, hb.trans (h1.mono hb.size)⟩
set_option maxRecDepth 100000 in
set_option maxHeartbeats 4000000 in
theorem opcancel_any (c : Cfg) (o : Opr) (w : World) (hk : OpOk c o) :
    Calls Tryz.prog 49 #[.agg (opA o)] w (OpPost c o w) := by
  have HK := Lib.hid hk
  clear hk
  go_enter Tryz.func49, Tryz.ntmps49
  go_upto_region 1 with fail
  obtain ⟨w1, hw1⟩ : ∃ w1 : World, w1 = (w.alloc (.cells (opA o) 46)).alloc (.cells #[.int .i64 0, .int .i64 0, .int .i64 0, .string { data := #[] }, .string { data := #[] }, .string { data := #[] }, .int .i64 0, .int .i64 0, .int .i64 0, .int .i64 0, .int .i64 0, .int .i64 0, .int .i64 0, .int .i64 0, .int .i64 0, .int .u64 0, .int .u64 0, .int .u64 0] 46) := ⟨_, rfl⟩
  rw [← hw1]
  have HX := Lib.hid (show OpB w w1 w.heap.size (w.heap.size + 1) (opA o) #[.int .i64 0, .int .i64 0, .int .i64 0, .string { data := #[] }, .string { data := #[] }, .string { data := #[] }, .int .i64 0, .int .i64 0, .int .i64 0, .int .i64 0, .int .i64 0, .int .i64 0, .int .i64 0, .int .i64 0, .int .i64 0, .int .u64 0, .int .u64 0, .int .u64 0] by rw [hw1]; exact opB_new w _ _)
  clear hw1
  go_wp2_with (refine wpList_load_agg 46 HX.out.op Tryz.underlying46 rfl (opA_info o) rfl _ rfl rfl ?_)
  refine (opend_any c o 6 _ HK.out (by omega) (by omega)).mono ?_
  rintro e w2 ⟨x, b, rfl, hg, hb⟩
  have HG := Lib.hid hg
  have HX2 := Lib.hid (HX.out.next hb)
  clear hg hb
  go_wp2_with (refine wpList_store_row rfl 46 _ _ rfl (w.heap.size + 1) (opA (x)) rfl rfl 46 _ HX2.out.res (opA_info (x)) rfl (opA_one (x)) ?_)
  refine bodyPost_ret (v := .tuple #[.agg (opA x), .bool b]) (results_row2 Tryz.results49 rfl rfl (setRow_at HX2.out.res) Tryz.underlying46 rfl (opA_info x)) rfl ⟨_, _, rfl, HG.out, ?_⟩
  exact (HX2.out.out _).below
set_option maxRecDepth 100000 in
set_option maxHeartbeats 4000000 in
theorem opexpire_any (c : Cfg) (o : Opr) (w : World) (hk : OpOk c o) :
    Calls Tryz.prog 50 #[.agg (opA o)] w (OpPost c o w) := by
  have HK := Lib.hid hk
  clear hk
  go_enter Tryz.func50, Tryz.ntmps50
  go_upto_region 1 with fail
  obtain ⟨w1, hw1⟩ : ∃ w1 : World, w1 = (w.alloc (.cells (opA o) 46)).alloc (.cells #[.int .i64 0, .int .i64 0, .int .i64 0, .string { data := #[] }, .string { data := #[] }, .string { data := #[] }, .int .i64 0, .int .i64 0, .int .i64 0, .int .i64 0, .int .i64 0, .int .i64 0, .int .i64 0, .int .i64 0, .int .i64 0, .int .u64 0, .int .u64 0, .int .u64 0] 46) := ⟨_, rfl⟩
  rw [← hw1]
  have HX := Lib.hid (show OpB w w1 w.heap.size (w.heap.size + 1) (opA o) #[.int .i64 0, .int .i64 0, .int .i64 0, .string { data := #[] }, .string { data := #[] }, .string { data := #[] }, .int .i64 0, .int .i64 0, .int .i64 0, .int .i64 0, .int .i64 0, .int .i64 0, .int .i64 0, .int .i64 0, .int .i64 0, .int .u64 0, .int .u64 0, .int .u64 0] by rw [hw1]; exact opB_new w _ _)
  clear hw1
  go_wp2_with (refine wpList_load_agg 46 HX.out.op Tryz.underlying46 rfl (opA_info o) rfl _ rfl rfl ?_)
  refine (opend_any c o 7 _ HK.out (by omega) (by omega)).mono ?_
  rintro e w2 ⟨x, b, rfl, hg, hb⟩
  have HG := Lib.hid hg
  have HX2 := Lib.hid (HX.out.next hb)
  clear hg hb
  go_wp2_with (refine wpList_store_row rfl 46 _ _ rfl (w.heap.size + 1) (opA (x)) rfl rfl 46 _ HX2.out.res (opA_info (x)) rfl (opA_one (x)) ?_)
  refine bodyPost_ret (v := .tuple #[.agg (opA x), .bool b]) (results_row2 Tryz.results50 rfl rfl (setRow_at HX2.out.res) Tryz.underlying46 rfl (opA_info x)) rfl ⟨_, _, rfl, HG.out, ?_⟩
  exact (HX2.out.out _).below
end Go.Proofs.YtmijmfgclmaodaaGreatDoor
