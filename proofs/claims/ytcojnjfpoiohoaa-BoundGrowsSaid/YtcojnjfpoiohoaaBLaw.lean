/-
  billetlaw44: the walks of the laws BoundTells and BoundGrows.
-/
import Derived.Test.YtcojnjfpoiohoaaBRef
import Derived.Deep.WholeRow
namespace Go.Proofs.Ytcojnjfpoiohoaa
open Go.RowKit

def wideB (c : Cfg) : Bool := decide (20 < c.ts.length) || decide (20 < c.ls.length)

def liveC : Cfg := ⟨[⟨⟨#[97]⟩, 1, 9⟩], [], 1, 1, 1, 1, 1, 1, 0, 0, 1, 1, 5, 2, 2, 2, 50, 2, 0⟩
theorem live_inner : innerV liveC = 5 := by kernel_rfl
theorem live_gives : givesV liveC = 17 := by kernel_rfl
theorem live_polls : pollsV liveC = 17 := by kernel_rfl
theorem live_ticks : ticksV liveC 1 = 20 := by kernel_rfl

set_option maxHeartbeats 1000000 in
/-- THE WALK: billetlaw35.Wide. -/
theorem wide_any (cs : Array Value) (tv lv : Value) (c : Cfg) (w : World) (hc : CfgCells cs tv lv c) (hC : CfgAt w tv lv c) :
    Calls Try.prog 17 #[.agg cs] w fun e w' => e = .returned (.bool (wideB c)) ∧ Below w.heap.size w w' := by
  have HC := Lib.hid hc; clear hc
  obtain ⟨ta, tcap, htv, htlen, _⟩ := id hC.1
  obtain ⟨la, lcap, hlv, hlen, _⟩ := id hC.2
  subst hlv htv
  clear hC
  have c0 := cell_alloc_at (w := w) (t := 34) HC.out.f0
  have c1 := cell_alloc_at (w := w) (t := 34) HC.out.f1
  go_enter Try.func17, Try.ntmps17
  go_wp2
  all_goals
    go_ret
    refine ⟨ret_bool ?_, box_below⟩
    unfold wideB
    first
      | (simp; omega)
      | (congr 1 <;> (apply decide_eq_decide.2; omega))

theorem inner_at {cs : Array Value} {tv lv : Value} {c : Cfg} {v : Int} {w : World} (hv : innerV c = v) (hc : CfgCells cs tv lv c) (hC : CfgAt w tv lv c) :
    Calls Try.prog 19 #[.agg cs] w fun e w' => e = .returned (.int .i64 v) ∧ Below w.heap.size w w' := hv ▸ inner_any cs tv lv c w hc hC
theorem ticks_at {cs : Array Value} {tv lv : Value} {c : Cfg} {n v : Int} {w : World} (hv : ticksV c n = v) (hc : CfgCells cs tv lv c) (hC : CfgAt w tv lv c) :
    Calls Try.prog 25 #[.agg cs, .int .i64 n] w fun e w' => e = .returned (.int .u64 v) ∧ Below w.heap.size w w' := hv ▸ ticks_any cs tv lv c n w hc hC
/-- A whole struct is stored into the block that was just laid. -/
theorem wp_store_new {P : Program} {o : Oper} {a : Act} {w : World} {K : Act → World → Prop} {Q : Exit → Act → World → Prop} (ty : TypeId) (x y : Operand) (ho : o.op = .store ty x y)
    (g : Nat) (hgs : g = w.heap.size) (cells old : Array Value) (hx : a.eval x = .pointer (some ⟨g, 0, none⟩)) (hy : a.eval y = .agg cells) (t : TypeId)
    (hi : (P.info? ty).map (·.size) = some cells.size) (hold : old.size = cells.size) (h1 : cells.all (·.oneCell') = true)
    (h : K (a.put o.dst undef) (w.alloc (.cells cells t))) : o.wp P a (w.alloc (.cells old t)) K Q := by
  subst hgs
  refine wp_store_row ty x y ho w.heap.size cells hx hy t old (heap_alloc_new w _) hi hold h1 ?_
  rw [World.setRow_alloc_new]
  exact h
theorem heap_alloc_two (w : World) (a b : Obj) : ((w.alloc a).alloc b).heap[w.heap.size + 1]? = some b := by
  have h := heap_alloc_new (w.alloc a) b
  rwa [show (w.alloc a).heap.size = w.heap.size + 1 by simp] at h

theorem wpList_store_new {P : Program} {ops : Array Oper} {rest : List Oper} {o : Oper} {a : Act} {w : World} {Q : Exit → Act → World → Prop} {old : Array Value} {t : TypeId} (hgd : o.guard = none) (ty : TypeId) (x y : Operand) (ho : o.op = .store ty x y)
    (g : Nat) (hgs : g = w.heap.size) (cells : Array Value) (hx : a.eval x = .pointer (some ⟨g, 0, none⟩)) (hy : a.eval y = .agg cells)
    (hi : (P.info? ty).map (·.size) = some cells.size) (hold : old.size = cells.size) (h1 : cells.all (·.oneCell') = true)
    (h : wpList P ops Q rest (a.put o.dst undef) (w.alloc (.cells cells t))) : wpList P ops Q (o :: rest) a (w.alloc (.cells old t)) :=
  wpList_plain hgd fun _ hK => wp_store_new ty x y ho g hgs cells old hx hy t hi hold h1 (hK _ _ h)

set_option maxRecDepth 100000 in
set_option maxHeartbeats 1000000 in
/-- THE WALK: billetlaw44.live. -/
theorem live44_any (w : World) :
    Calls Try.prog 18 #[] w fun e w' => e = .returned (.bool true) ∧ Below w.heap.size w w' := by
  go_enter Try.func18, Try.ntmps18
  go_wp2_with (first
    | (refine wpList_store_new rfl 34 _ _ rfl (w.heap.size + 1) ?a1 _ rfl rfl ?a2 ?a3 ?a4 ?_; (case a1 => simp); (case a2 => exact cfg_info); (case a3 => rfl); (case a4 => simp [Value.oneCell']))
    | refine wpList_load_agg 34 (heap_alloc_two _ _ _) Try.underlying34 rfl cfg_info rfl _ rfl rfl ?_)
  generalize hcs : (#[Value.slice (some { block := w.heap.size, off := 0 }) 1 1, Value.slice none 0 0, Value.int IntKind.i64 1, Value.int IntKind.i64 1, Value.int IntKind.i64 1, Value.int IntKind.i64 1, Value.int IntKind.i64 1, Value.int IntKind.i64 1, Value.int IntKind.i64 0, Value.int IntKind.i64 0, Value.int IntKind.i64 1, Value.int IntKind.i64 1, Value.int IntKind.i64 5, Value.int IntKind.i64 2, Value.int IntKind.i64 2, Value.int IntKind.i64 2, Value.int IntKind.i64 50, Value.int IntKind.i64 2, Value.int IntKind.i64 0] : Array Value) = cs
  have HC := Lib.hid (show CfgCells cs (.slice (some ⟨w.heap.size, 0, none⟩) 1 1) (.slice none 0 0) liveC by subst hcs; exact ⟨rfl, rfl, rfl, rfl, rfl, rfl, rfl, rfl, rfl, rfl, rfl, rfl, rfl, rfl, rfl, rfl, rfl, rfl, rfl, rfl⟩)
  clear hcs
  have HA := Lib.hid (show CfgAt ((w.alloc (.cells #[.string ⟨#[97]⟩, .int .i64 1, .int .i64 9] 128)).alloc (.cells cs 34)) (.slice (some ⟨w.heap.size, 0, none⟩) 1 1) (.slice none 0 0) liveC from
    ⟨⟨_, _, rfl, by decide, fun i t ht => by
      obtain ⟨rfl, rfl⟩ : i = 0 ∧ t = ⟨⟨#[97]⟩, 1, 9⟩ := by
        match i with
        | 0 => exact ⟨rfl, (Option.some.inj ht).symm⟩
        | i + 1 => cases ht
      refine ⟨by decide, _, _, rfl, ?_, ?_, ?_⟩ <;> exact (Below.alloc (Below.refl _ _) (Nat.le_refl _) _).cell (by simp) |>.trans (cell_alloc_at rfl)⟩,
     ⟨_, _, rfl, by decide, fun i t ht => by cases ht⟩⟩)
  refine (inner_at live_inner HC.out HA.out).mono ?_
  rintro e w1 ⟨rfl, hb1⟩
  have HB1 := Lib.hid hb1
  have hg1 := (hb1.block (w.heap.size + 1) (by simp)).trans (heap_alloc_two _ _ _)
  have HG1 := Lib.hid hg1
  clear hb1 hg1
  go_wp2_with (refine wpList_load_agg 34 HG1.out Try.underlying34 rfl (cfg_sz HC.out) rfl _ rfl rfl ?_)
  refine (gives_at live_gives HC.out (HA.out.below HB1.out)).mono ?_
  rintro e w2 ⟨rfl, hb2⟩
  have HB2 := Lib.hid (HB1.out.trans (hb2.mono HB1.out.size))
  have HG2 := Lib.hid ((hb2.block (w.heap.size + 1) (Nat.lt_of_lt_of_le (by simp) HB1.out.size)).trans HG1.out)
  clear hb2
  go_wp2_with (refine wpList_load_agg 34 HG2.out Try.underlying34 rfl (cfg_sz HC.out) rfl _ rfl rfl ?_)
  refine (polls_at live_polls HC.out (HA.out.below HB2.out)).mono ?_
  rintro e w3 ⟨rfl, hb3⟩
  have HB3 := Lib.hid (HB2.out.trans (hb3.mono HB2.out.size))
  have HG3 := Lib.hid ((hb3.block (w.heap.size + 1) (Nat.lt_of_lt_of_le (by simp) HB2.out.size)).trans HG2.out)
  clear hb3
  go_wp2_with (refine wpList_load_agg 34 HG3.out Try.underlying34 rfl (cfg_sz HC.out) rfl _ rfl rfl ?_)
  refine (ticks_at live_ticks HC.out (HA.out.below HB3.out)).mono ?_
  rintro e w4 ⟨rfl, hb4⟩
  have HB4 := Lib.hid (HB3.out.trans (hb4.mono HB3.out.size))
  clear hb4
  go_wp2
  go_ret
  exact ⟨rfl, (((Below.refl _ _).alloc (Nat.le_refl _) _).alloc (by simp) _).trans (HB4.out.mono (by simp; omega))⟩

theorem wide_at {cs : Array Value} {tv lv : Value} {c : Cfg} {w : World} (v : Bool) (hv : wideB c = v) (hc : CfgCells cs tv lv c) (hC : CfgAt w tv lv c) :
    Calls Try.prog 17 #[.agg cs] w fun e w' => e = .returned (.bool v) ∧ Below w.heap.size w w' := hv ▸ wide_any cs tv lv c w hc hC

set_option maxRecDepth 100000 in
set_option maxHeartbeats 2000000 in
/-- THE WALK: billetlaw44.BoundTells. -/
theorem tells_any (cs : Array Value) (tv lv : Value) (c : Cfg) (n : Int) (w : World) (hc : CfgCells cs tv lv c) (hC : CfgAt w tv lv c) :
    Calls Try.prog 4 #[.agg cs, .int .i64 n] w fun e w' => e = .returned (.bool true) ∧ Below w.heap.size w w' := by
  have HC := Lib.hid hc; clear hc
  have HCA := Lib.hid hC; clear hC
  rcases hw : wideB c with _ | _
  · have HW := Lib.hid hw
    clear hw
    go_enter Try.func4, Try.ntmps4
    go_wp2_with (refine wpList_load_agg 34 (heap_alloc_new w _) Try.underlying34 rfl (cfg_sz HC.out) rfl _ rfl rfl ?_)
    refine (wide_at false HW.out HC.out (HCA.out.below box_below)).mono ?_
    rintro e w1 ⟨rfl, hb⟩
    have HB := Lib.hid hb
    have HGB := Lib.hid ((hb.block w.heap.size (by simp)).trans (heap_alloc_new w _))
    clear hb
    go_wp2_with fail
    refine wp_region_quiet_below (by kernel_rfl) (by kernel_rfl) ?_
    repeat (first | (refine wpQuiet_load_agg 34 HGB.out Try.underlying34 rfl (cfg_sz HC.out) rfl _ rfl rfl ?_; (try simp only [Act.put, List.setIfInBounds_toArray, List.set_cons_zero, List.set_cons_succ])) | go_big_quiet_step ((first
      | exact Calls.regrown_of (inner_any _ _ _ c _ HC.out (HCA.out.below ((box_below2 HB.out).trans ((below_regrown _ _ _).mono (box_below2 HB.out).size))))
      | exact Calls.regrown_of (rinner_any _ _ _ c _ HC.out (HCA.out.below ((box_below2 HB.out).trans ((below_regrown _ _ _).mono (box_below2 HB.out).size))))
      | exact Calls.regrown_of (gives_any _ _ _ c _ HC.out (HCA.out.below ((box_below2 HB.out).trans ((below_regrown _ _ _).mono (box_below2 HB.out).size))))
      | exact Calls.regrown_of (rgives_any _ _ _ c _ HC.out (HCA.out.below ((box_below2 HB.out).trans ((below_regrown _ _ _).mono (box_below2 HB.out).size))))
      | exact Calls.regrown_of (polls_any _ _ _ c _ HC.out (HCA.out.below ((box_below2 HB.out).trans ((below_regrown _ _ _).mono (box_below2 HB.out).size))))
      | exact Calls.regrown_of (rpolls_any _ _ _ c _ HC.out (HCA.out.below ((box_below2 HB.out).trans ((below_regrown _ _ _).mono (box_below2 HB.out).size))))
      | exact Calls.regrown_of (ticks_any _ _ _ c _ _ HC.out (HCA.out.below ((box_below2 HB.out).trans ((below_regrown _ _ _).mono (box_below2 HB.out).size))))
      | exact Calls.regrown_of (rticks_any _ _ _ c _ _ HC.out (HCA.out.below ((box_below2 HB.out).trans ((below_regrown _ _ _).mono (box_below2 HB.out).size))))
      | exact Calls.regrown_of (live44_any _))))
    refine wpQuiet_nil ?_
    rintro _ ⟨⟨dq, osq⟩, rfl⟩
    go_wp2
    go_ret
    exact ⟨rfl, below_of_regrown (box_below2 HB.out) (box_below2 HB.out).size⟩
  · have HW := Lib.hid hw
    clear hw
    go_enter Try.func4, Try.ntmps4
    go_wp2_with (refine wpList_load_agg 34 (heap_alloc_new w _) Try.underlying34 rfl (cfg_sz HC.out) rfl _ rfl rfl ?_)
    refine (wide_at true HW.out HC.out (HCA.out.below box_below)).mono ?_
    rintro e w1 ⟨rfl, hb⟩
    go_wp2_with fail
    refine (live44_any _).mono ?_
    rintro e w2 ⟨rfl, hb2⟩
    go_wp2
    go_ret
    exact ⟨rfl, (box_below2 hb).trans (hb2.mono (box_below2 hb).size)⟩
end Go.Proofs.Ytcojnjfpoiohoaa
