/-
  StateEntries: the walk.
  An operation, and what becomes of it, that came in.
-/
import Derived.Test.YtjmlimogmmikoaaGreatDoorSe09
import Derived.Test.YtjmlimogmmikoaaGreatDoorSe05
import Derived.Test.YtjmlimogmmikoaaGreatDoorSe07
namespace Go.Proofs.YtjmlimogmmikoaaGreatDoor
open Go.RowKit
theorem stentry_any (tv lv : Value) (c : Cfg) (v : Ivn) (o : Opr) (w : World) (hC : CfgAt w tv lv c) : Calls Tryz.prog 16 #[.agg (cfA tv lv c), .agg (ivC v), .agg (opA o)] w fun e w' => e = .returned (.agg (enC c v o)) ∧ Below w.heap.size w w' := by
  obtain ⟨no, ten, nm, wt, ld⟩ := v
  by_cases h : 0 ≤ ten ∧ ten < c.ts.length
  · obtain ⟨k, rfl⟩ : ∃ k : Nat, ten = k := ⟨ten.toNat, by omega⟩
    exact stentry_in tv lv c no nm wt ld o w hC k _ (List.getElem?_eq_getElem (by omega))
  · exact stentry_out tv lv c no nm wt ld o w hC ten h
theorem rentry35_any (tv lv : Value) (c : Cfg) (v : Ivn) (o : Opr) (w : World) (hC : CfgAt w tv lv c) : Calls Tryz.prog 17 #[.agg (cfA tv lv c), .agg (ivC v), .agg (opA o)] w fun e w' => e = .returned (.agg (enC c v o)) ∧ Below w.heap.size w w' := by
  obtain ⟨no, ten, nm, wt, ld⟩ := v
  by_cases h : 0 ≤ ten ∧ ten < c.ts.length
  · obtain ⟨k, rfl⟩ : ∃ k : Nat, ten = k := ⟨ten.toNat, by omega⟩
    exact rentry35_in tv lv c no nm wt ld o w hC k _ (List.getElem?_eq_getElem (by omega))
  · exact rentry35_out tv lv c no nm wt ld o w hC ten h
theorem en_eq_self (c : Cfg) (v : Ivn) (o : Opr) (w : World) : (binOp .eql 56 (.agg (enC c v o)) (.agg (enC c v o))).run Tryz.prog w = .ok (.bool true) w := by
  rw [run_eql_struct, show (10000 : Nat) = 9999 + 1 from rfl, run_equalIn_agg w 9999 56 _ _ (by kernel_rfl) (by kernel_rfl)]
  have h : (Op.eqFields 9999 (enC c v o) (enC c v o) (Tryz.prog.fieldsOf 56).toList).run Tryz.prog w = .ok true w := by
    refine eqFields_self _ _ _ _ ?_
    simp only [Program.fieldsOf, Tryz.underlying56]
    simp only [List.forall_mem_cons]
    refine ⟨⟨.string o.need, by (simp only [enC]; go_simp), by (go_simp; try simp)⟩, ⟨.int .i64 o.cls, by (simp only [enC]; go_simp), by (go_simp; try simp)⟩, ⟨.int .i64 v.ten, by (simp only [enC]; go_simp), by (go_simp; try simp)⟩, ⟨.int .i64 (wOf c v.ten), by (simp only [enC]; go_simp), by (go_simp; try simp)⟩, ⟨.int .i64 v.no, by (simp only [enC]; go_simp), by (go_simp; try simp)⟩, ⟨.int .i64 v.wt, by (simp only [enC]; go_simp), by (go_simp; try simp)⟩, ⟨.int .i64 o.id, by (simp only [enC]; go_simp), by (go_simp; try simp)⟩, ⟨.int .i64 o.cost, by (simp only [enC]; go_simp), by (go_simp; try simp)⟩, ?_⟩
    simp
  rw [h]
  rfl
theorem en_guard : Tryz.prog.eqGuardType Tryz.prog.depth 56 = false := by kernel_rfl
theorem en_exec {a : Act} {op : Oper} {c : Cfg} {v : Ivn} {o : Opr} {tr : TypeId} (x y : Operand) (ho : op.op = .binOp .eql 56 x y tr) (hx : a.eval x = .agg (enC c v o)) (hy : a.eval y = .agg (enC c v o)) (w : World) : (execOp a.eval op).run Tryz.prog w = .ok (.value (.bool true)) w := by
  simp only [execOp, ho, hx, hy, Sem.run_bind, run_eqGuard_agg _ _ _ _ _ _ _ en_guard, Result.andThen_ok, en_eq_self]
  rfl
theorem cfA_one {tv lv : Value} {c : Cfg} {w : World} (hC : CfgAt w tv lv c) : (ckA 0 (.slice none 0 0) tv lv c).all (·.oneCell') = true := by
  obtain ⟨la, lcap, rfl, -⟩ := hC.1
  obtain ⟨ma, mcap, rfl, -⟩ := hC.2
  simp [ckA, Value.oneCell']
theorem wrong_good (tv lv : Value) (c : Cfg) (w : World) (hC : CfgAt w tv lv c) (hr : Ready w) (hE : checkE c = 0) : Calls Tryz.prog 9 #[.agg (cfA tv lv c), .agg (stA 0 (.slice none 0 0))] w fun e w' => e = .returned (.int .i64 0) ∧ Below w.heap.size w w' :=
  (wrong_any 0 (.slice none 0 0) tv lv c 12 w (Nat.le_refl _) (fun w5 hb5 hg5 => rules_nil hE (hC.below hb5) (hr.below hb5) hg5) (cfA_one hC)).mono (fun _ _ h => ⟨h.1.trans (ret_int (if_neg (by decide))), h.2⟩)
theorem wrong_bad (tv lv : Value) (c : Cfg) (w : World) (hC : CfgAt w tv lv c) (_ : Ready w) (hE : ¬ checkE c = 0) : Calls Tryz.prog 9 #[.agg (cfA tv lv c), .agg (stA 0 (.slice none 0 0))] w fun e w' => e = .returned (.int .i64 1) ∧ Below w.heap.size w w' :=
  (wrong_any 0 (.slice none 0 0) tv lv c 0 w (by decide) (fun w5 hb5 hg5 => ⟨fun j u hj => absurd hj (Nat.not_lt_zero _), fun u hu => by
    simp [rulesF] at hu
    subst hu
    exact rule0 tv lv c _ w5 hg5 (hC.below hb5) false (beq_eq_false_iff_ne.2 hE)⟩) (cfA_one hC)).mono (fun _ _ h => ⟨h.1.trans (ret_int ((if_pos (by decide)).trans rfl)), h.2⟩)
set_option maxRecDepth 100000 in
set_option maxHeartbeats 4000000 in
theorem entries_wide (tv lv : Value) (c : Cfg) (v : Ivn) (o : Opr) (w : World) (hr : Ready w) (hC : CfgAt w tv lv c) (hw : (decide (20 < c.ts.length) || decide (20 < c.ls.length)) = true) : Calls Tryz.prog 5 #[.agg (cfA tv lv c), .agg (ivC v), .agg (opA o)] w (TrueBelow w) := by
  have HR := Lib.hid hr
  have hg0 : (((w.alloc (.cells (cfA tv lv c) 25)).alloc (.cells (ivC v) 49)).alloc (.cells (opA o) 53)).heap[w.heap.size]? = some (.cells (cfA tv lv c) 25 (0, 0)) := fr_alloc_old (fr_alloc_old (heap_alloc_new _ _))
  have hg1 : (((w.alloc (.cells (cfA tv lv c) 25)).alloc (.cells (ivC v) 49)).alloc (.cells (opA o) 53)).heap[w.heap.size + 1]? = some (.cells (ivC v) 49 (0, 0)) := fr_alloc_old (heap_alloc_two _ _ _)
  have hg2 : (((w.alloc (.cells (cfA tv lv c) 25)).alloc (.cells (ivC v) 49)).alloc (.cells (opA o) 53)).heap[w.heap.size + 1 + 1]? = some (.cells (opA o) 53 (0, 0)) := heap_alloc_three _ _ _ _
  have hb : Below w.heap.size w (((w.alloc (.cells (cfA tv lv c) 25)).alloc (.cells (ivC v) 49)).alloc (.cells (opA o) 53)) := (box_below.alloc (by simp) _).alloc (by simp; omega) _
  have hs : (((w.alloc (.cells (cfA tv lv c) 25)).alloc (.cells (ivC v) 49)).alloc (.cells (opA o) 53)).heap.size = w.heap.size + 1 + 1 + 1 := by simp
  have HC := Lib.hid (hC.below hb)
  clear hr hC
  go_enter Tryz.func5, Tryz.ntmps5
  go_upto_region 1 with fail
  generalize (((w.alloc (.cells (cfA tv lv c) 25)).alloc (.cells (ivC v) 49)).alloc (.cells (opA o) 53)) = W3 at hg0 hg1 hg2 hb hs HC ⊢
  have HG0 := Lib.hid hg0
  have HG1 := Lib.hid hg1
  have HG2 := Lib.hid hg2
  have HB := Lib.hid hb
  clear hg0 hg1 hg2 hb
  go_wp2_with (refine wpList_load_agg 25 HG0.out Tryz.underlying25 rfl cfg_info rfl _ rfl rfl ?_)
  refine (wide_any tv lv c _ HC.out).mono ?_
  rintro e w4 ⟨rfl, hb4⟩
  have HB4 := Lib.hid (HB.out.trans (hb4.mono HB.out.size))
  rw [hw]
  go_wp2_with fail
  refine (live35_any _ (HR.out.below HB4.out)).mono ?_
  rintro e w5 ⟨rfl, hb5⟩
  go_wp2_with fail
  go_ret
  exact ⟨rfl, HB4.out.trans (hb5.mono HB4.out.size)⟩
set_option maxRecDepth 100000 in
set_option maxHeartbeats 4000000 in
theorem entries_good (tv lv : Value) (c : Cfg) (v : Ivn) (o : Opr) (w : World) (hr : Ready w) (hC : CfgAt w tv lv c) (hw : (decide (20 < c.ts.length) || decide (20 < c.ls.length)) = false) (hE : checkE c = 0) : Calls Tryz.prog 5 #[.agg (cfA tv lv c), .agg (ivC v), .agg (opA o)] w (TrueBelow w) := by
  have HCW := Lib.hid hC
  have HR := Lib.hid hr
  have hg0 : (((w.alloc (.cells (cfA tv lv c) 25)).alloc (.cells (ivC v) 49)).alloc (.cells (opA o) 53)).heap[w.heap.size]? = some (.cells (cfA tv lv c) 25 (0, 0)) := fr_alloc_old (fr_alloc_old (heap_alloc_new _ _))
  have hg1 : (((w.alloc (.cells (cfA tv lv c) 25)).alloc (.cells (ivC v) 49)).alloc (.cells (opA o) 53)).heap[w.heap.size + 1]? = some (.cells (ivC v) 49 (0, 0)) := fr_alloc_old (heap_alloc_two _ _ _)
  have hg2 : (((w.alloc (.cells (cfA tv lv c) 25)).alloc (.cells (ivC v) 49)).alloc (.cells (opA o) 53)).heap[w.heap.size + 1 + 1]? = some (.cells (opA o) 53 (0, 0)) := heap_alloc_three _ _ _ _
  have hb : Below w.heap.size w (((w.alloc (.cells (cfA tv lv c) 25)).alloc (.cells (ivC v) 49)).alloc (.cells (opA o) 53)) := (box_below.alloc (by simp) _).alloc (by simp; omega) _
  have hs : (((w.alloc (.cells (cfA tv lv c) 25)).alloc (.cells (ivC v) 49)).alloc (.cells (opA o) 53)).heap.size = w.heap.size + 1 + 1 + 1 := by simp
  have HC := Lib.hid (hC.below hb)
  clear hr hC
  go_enter Tryz.func5, Tryz.ntmps5
  go_upto_region 1 with fail
  generalize (((w.alloc (.cells (cfA tv lv c) 25)).alloc (.cells (ivC v) 49)).alloc (.cells (opA o) 53)) = W3 at hg0 hg1 hg2 hb hs HC ⊢
  have HG0 := Lib.hid hg0
  have HG1 := Lib.hid hg1
  have HG2 := Lib.hid hg2
  have HB := Lib.hid hb
  clear hg0 hg1 hg2 hb
  go_wp2_with (refine wpList_load_agg 25 HG0.out Tryz.underlying25 rfl cfg_info rfl _ rfl rfl ?_)
  refine (wide_any tv lv c _ HC.out).mono ?_
  rintro e w4 ⟨rfl, hb4⟩
  have HB4 := Lib.hid (HB.out.trans (hb4.mono HB.out.size))
  have hg0 := (hb4.block _ (by rw [hs]; omega)).trans HG0.out
  have hg1 := (hb4.block _ (by rw [hs]; omega)).trans HG1.out
  have hg2 := (hb4.block _ (by rw [hs]; omega)).trans HG2.out
  have n4 : w.heap.size + 1 + 1 + 1 ≤ w4.heap.size := by have := hb4.size; omega
  clear HG0 HG1 HG2 hb4 HB HC
  rw [hw]
  go_wp2_with fail
  refine (stnew_any _).mono ?_
  rintro e w6 ⟨rfl, hb6⟩
  have HB6 := Lib.hid (HB4.out.trans (hb6.mono HB4.out.size))
  have n6 : w.heap.size + 1 + 1 + 1 ≤ w6.heap.size := by have := hb6.size; omega
  have HG0 := Lib.hid (fr_alloc_old (o := .cells (stA 0 (.slice none 0 0)) 42) ((hb6.block _ (by omega)).trans hg0))
  have HG1 := Lib.hid (fr_alloc_old (o := .cells (stA 0 (.slice none 0 0)) 42) ((hb6.block _ (by omega)).trans hg1))
  have HG2 := Lib.hid (fr_alloc_old (o := .cells (stA 0 (.slice none 0 0)) 42) ((hb6.block _ (by omega)).trans hg2))
  have HG3 := Lib.hid (heap_alloc_new w6 (.cells (stA 0 (.slice none 0 0)) 42))
  have HB7 := Lib.hid (HB6.out.alloc HB6.out.size (.cells (stA 0 (.slice none 0 0)) 42))
  clear hg0 hg1 hg2 hb6 HB4
  go_upto_region 5 with (refine wpList_store_new rfl 42 _ _ rfl w6.heap.size ?a1 _ rfl rfl ?a2 ?a3 ?a4 ?_; (case a1 => rfl); (case a2 => exact st_info); (case a3 => rfl); (case a4 => simp [stA, Value.oneCell']))
  generalize w6.alloc (.cells (stA 0 (.slice none 0 0)) 42) = W6 at HG0 HG1 HG2 HG3 HB7 ⊢
  go_wp2_with (refine wpList_load_agg 25 HG0.out Tryz.underlying25 rfl cfg_info rfl _ rfl rfl ?_)
  refine (rright_any _ tv lv c _ (cfA_cells tv lv c) (HCW.out.below HB7.out)).mono ?_
  rintro e W7 ⟨rfl, hb7⟩
  rw [show (checkE c == 0) = true from by rw [hE]; rfl]
  have h0 := (hb7.block _ (Array.getElem?_eq_some_iff.1 HG0.out).1).trans HG0.out
  have h1 := (hb7.block _ (Array.getElem?_eq_some_iff.1 HG1.out).1).trans HG1.out
  have h2 := (hb7.block _ (Array.getElem?_eq_some_iff.1 HG2.out).1).trans HG2.out
  have h3 := (hb7.block _ (Array.getElem?_eq_some_iff.1 HG3.out).1).trans HG3.out
  have R0 := Lib.hid (show W7.drew.rangeAt w.heap.size 0 (cfA tv lv c).toList from fun j u hj => by rw [Nat.zero_add]; exact fr_cell_of_heap (w := W7) h0 (by simpa using hj))
  have R1 := Lib.hid (show W7.drew.rangeAt (w.heap.size + 1) 0 (ivC v).toList from fun j u hj => by rw [Nat.zero_add]; exact fr_cell_of_heap (w := W7) h1 (by simpa using hj))
  have R2 := Lib.hid (show W7.drew.rangeAt (w.heap.size + 1 + 1) 0 (opA o).toList from fun j u hj => by rw [Nat.zero_add]; exact fr_cell_of_heap (w := W7) h2 (by simpa using hj))
  have R3 := Lib.hid (show W7.drew.rangeAt w6.heap.size 0 (stA 0 (.slice none 0 0)).toList from fun j u hj => by rw [Nat.zero_add]; exact fr_cell_of_heap (w := W7) h3 (by simpa using hj))
  have hbw : Below w.heap.size w W7.drew := (HB7.out.trans (hb7.mono HB7.out.size)).drew
  clear h0 h1 h2 h3 HG0 HG1 HG2 HG3 HB7 hb7
  have HB7 := Lib.hid hbw
  clear hbw
  go_upto_region 7 with fail
  refine wp_region_noPanic ?_
  refine wp_region_any (by kernel_rfl) ?_
  change wpAny _ _ _ _ _ _ _ (World.drew _)
  refine wpAny_of_held (S := (fun w2 => w2.rangeAt w.heap.size 0 (cfA tv lv c).toList ∧ w2.rangeAt (w.heap.size + 1) 0 (ivC v).toList ∧ w2.rangeAt (w.heap.size + 1 + 1) 0 (opA o).toList ∧ w2.rangeAt w6.heap.size 0 (stA 0 (.slice none 0 0)).toList)) _ _ _ _ ?_
  have hHeld : (fun w2 => w2.rangeAt w.heap.size 0 (cfA tv lv c).toList ∧ w2.rangeAt (w.heap.size + 1) 0 (ivC v).toList ∧ w2.rangeAt (w.heap.size + 1 + 1) 0 (opA o).toList ∧ w2.rangeAt w6.heap.size 0 (stA 0 (.slice none 0 0)).toList) W7.drew := ⟨R0.out, R1.out, R2.out, R3.out⟩
  refine wpAnyH_take (i := 0) (oi := ⟨some 16, _, _, _, _, _⟩) (v := .agg (cfA tv lv c)) rfl (by kernel_rfl) (by kernel_rfl) (by kernel_rfl) (fun _ _ _ h => h) (yieldsIf_load_mid (by rfl) 25 _ rfl w.heap.size 0 rfl (cfA tv lv c).toList _ (fun w2 hw => hw.1) Tryz.underlying25 rfl (cfg_info)) (by assumption) ?_
  try simp only [Act.put, List.setIfInBounds_toArray, List.set_cons_zero, List.set_cons_succ]
  refine wpAnyH_take (i := 1) (oi := ⟨some 17, _, _, _, _, _⟩) (v := .agg (ivC v)) rfl (by kernel_rfl) (by kernel_rfl) (by kernel_rfl) (fun _ _ _ h => h) (yieldsIf_load_mid (by rfl) 49 _ rfl (w.heap.size + 1) 0 rfl (ivC v).toList _ (fun w2 hw => hw.2.1) Tryz.underlying49 rfl (iv_info)) (by assumption) ?_
  try simp only [Act.put, List.setIfInBounds_toArray, List.set_cons_zero, List.set_cons_succ]
  refine wpAnyH_take (i := 2) (oi := ⟨some 18, _, _, _, _, _⟩) (v := .agg (opA o)) rfl (by kernel_rfl) (by kernel_rfl) (by kernel_rfl) (fun _ _ _ h => h) (yieldsIf_load_mid (by rfl) 53 _ rfl (w.heap.size + 1 + 1) 0 rfl (opA o).toList _ (fun w2 hw => hw.2.2.1) Tryz.underlying53 rfl (opA_info o)) (by assumption) ?_
  try simp only [Act.put, List.setIfInBounds_toArray, List.set_cons_zero, List.set_cons_succ]
  refine wpAnyH_take (i := 4) (oi := ⟨some 20, _, _, _, _, _⟩) (v := .agg (cfA tv lv c)) rfl (by kernel_rfl) (by kernel_rfl) (by kernel_rfl) (fun _ _ _ h => h) (yieldsIf_load_mid (by rfl) 25 _ rfl w.heap.size 0 rfl (cfA tv lv c).toList _ (fun w2 hw => hw.1) Tryz.underlying25 rfl (cfg_info)) (by assumption) ?_
  try simp only [Act.put, List.setIfInBounds_toArray, List.set_cons_zero, List.set_cons_succ]
  refine wpAnyH_take (i := 5) (oi := ⟨some 21, _, _, _, _, _⟩) (v := .agg (ivC v)) rfl (by kernel_rfl) (by kernel_rfl) (by kernel_rfl) (fun _ _ _ h => h) (yieldsIf_load_mid (by rfl) 49 _ rfl (w.heap.size + 1) 0 rfl (ivC v).toList _ (fun w2 hw => hw.2.1) Tryz.underlying49 rfl (iv_info)) (by assumption) ?_
  try simp only [Act.put, List.setIfInBounds_toArray, List.set_cons_zero, List.set_cons_succ]
  refine wpAnyH_take (i := 6) (oi := ⟨some 22, _, _, _, _, _⟩) (v := .agg (opA o)) rfl (by kernel_rfl) (by kernel_rfl) (by kernel_rfl) (fun _ _ _ h => h) (yieldsIf_load_mid (by rfl) 53 _ rfl (w.heap.size + 1 + 1) 0 rfl (opA o).toList _ (fun w2 hw => hw.2.2.1) Tryz.underlying53 rfl (opA_info o)) (by assumption) ?_
  try simp only [Act.put, List.setIfInBounds_toArray, List.set_cons_zero, List.set_cons_succ]
  refine wpAnyH_ready (rs := [3]) (by kernel_rfl) (by simp) ?_
  refine AllReadyH.cons (o := ⟨some 19, _, _, _, _, _⟩) rfl (fun K hK => ?_) AllReadyH.nil
  go_simp
  refine (stentry_any tv lv c v o _ (HCW.out.below HB7.out)).mono ?_
  rintro e w11 ⟨rfl, hb11⟩
  have hHeld11 : (fun w2 => w2.rangeAt w.heap.size 0 (cfA tv lv c).toList ∧ w2.rangeAt (w.heap.size + 1) 0 (ivC v).toList ∧ w2.rangeAt (w.heap.size + 1 + 1) 0 (opA o).toList ∧ w2.rangeAt w6.heap.size 0 (stA 0 (.slice none 0 0)).toList) w11 := ⟨fun j u hj => cell_below hb11 (hHeld.1 j u hj), fun j u hj => cell_below hb11 (hHeld.2.1 j u hj), fun j u hj => cell_below hb11 (hHeld.2.2.1 j u hj), fun j u hj => cell_below hb11 (hHeld.2.2.2 j u hj)⟩
  have HB11 := Lib.hid (HB7.out.trans (hb11.mono HB7.out.size))
  refine hK.out _ _ hHeld11 (fun hHeld => ?_)
  clear hK K
  try simp only [Act.put, List.setIfInBounds_toArray, List.set_cons_zero, List.set_cons_succ]
  clear hHeld11 hb11
  refine wpAnyH_ready (rs := [7]) (by kernel_rfl) (by simp) ?_
  refine AllReadyH.cons (o := ⟨some 23, _, _, _, _, _⟩) rfl (fun K hK => ?_) AllReadyH.nil
  go_simp
  refine (rentry35_any tv lv c v o _ (HCW.out.below HB11.out)).mono ?_
  rintro e w12 ⟨rfl, hb12⟩
  have hHeld12 : (fun w2 => w2.rangeAt w.heap.size 0 (cfA tv lv c).toList ∧ w2.rangeAt (w.heap.size + 1) 0 (ivC v).toList ∧ w2.rangeAt (w.heap.size + 1 + 1) 0 (opA o).toList ∧ w2.rangeAt w6.heap.size 0 (stA 0 (.slice none 0 0)).toList) w12 := ⟨fun j u hj => cell_below hb12 (hHeld.1 j u hj), fun j u hj => cell_below hb12 (hHeld.2.1 j u hj), fun j u hj => cell_below hb12 (hHeld.2.2.1 j u hj), fun j u hj => cell_below hb12 (hHeld.2.2.2 j u hj)⟩
  have HB12 := Lib.hid (HB11.out.trans (hb12.mono HB11.out.size))
  refine hK.out _ _ hHeld12 (fun hHeld => ?_)
  clear hK K
  try simp only [Act.put, List.setIfInBounds_toArray, List.set_cons_zero, List.set_cons_succ]
  clear hHeld12 hb12
  refine wpAnyH_take (i := 8) (oi := ⟨some 24, _, _, _, _, _⟩) (v := .bool true) rfl (by kernel_rfl) (by kernel_rfl) (by kernel_rfl) (fun _ _ _ h => h) (Or.inl ⟨by rfl, fun w2 _ => en_exec (c := c) (v := v) (o := o) _ _ rfl rfl rfl w2⟩) (by assumption) ?_
  try simp only [Act.put, List.setIfInBounds_toArray, List.set_cons_zero, List.set_cons_succ]
  refine wpAnyH_take (i := 9) (oi := ⟨some 25, _, _, _, _, _⟩) (v := ?_) rfl (by kernel_rfl) (by kernel_rfl) (by kernel_rfl) (fun _ _ _ h => h) (Or.inl ⟨by rfl, ?_⟩) (by assumption) ?_
  rotate_left 1
  · intro w hSw
    try dsimp only at hSw
    go_simp
    try with_reducible rfl
  try simp only [Act.put, List.setIfInBounds_toArray, List.set_cons_zero, List.set_cons_succ]
  refine wpAnyH_take (i := 10) (oi := ⟨some 26, _, _, _, _, _⟩) (v := .agg (cfA tv lv c)) rfl (by kernel_rfl) (by kernel_rfl) (by kernel_rfl) (fun _ _ _ h => h) (yieldsIf_load_mid (by rfl) 25 _ rfl w.heap.size 0 rfl (cfA tv lv c).toList _ (fun w2 hw => hw.1) Tryz.underlying25 rfl (cfg_info)) (by assumption) ?_
  try simp only [Act.put, List.setIfInBounds_toArray, List.set_cons_zero, List.set_cons_succ]
  refine wpAnyH_take (i := 11) (oi := ⟨some 27, _, _, _, _, _⟩) (v := .agg (stA 0 (.slice none 0 0))) rfl (by kernel_rfl) (by kernel_rfl) (by kernel_rfl) (fun _ _ _ h => h) (yieldsIf_load_mid (by rfl) 42 _ rfl w6.heap.size 0 rfl (stA 0 (.slice none 0 0)).toList _ (fun w2 hw => hw.2.2.2) Tryz.underlying42 rfl (st_info)) (by assumption) ?_
  try simp only [Act.put, List.setIfInBounds_toArray, List.set_cons_zero, List.set_cons_succ]
  refine wpAnyH_take (i := 13) (oi := ⟨some 29, _, _, _, _, _⟩) (v := ?_) rfl (by kernel_rfl) (by kernel_rfl) (by kernel_rfl) (fun _ _ _ h => h) (Or.inl ⟨by rfl, ?_⟩) (by assumption) ?_
  rotate_left 1
  · intro w hSw
    try dsimp only at hSw
    go_simp
    try with_reducible rfl
  try simp only [Act.put, List.setIfInBounds_toArray, List.set_cons_zero, List.set_cons_succ]
  refine wpAnyH_ready (rs := [12]) (by kernel_rfl) (by simp) ?_
  refine AllReadyH.cons (o := ⟨some 28, _, _, _, _, _⟩) rfl (fun K hK => ?_) AllReadyH.nil
  go_simp
  refine (wrong_good tv lv c _ (HCW.out.below HB12.out) (HR.out.below HB12.out) hE).mono ?_
  rintro e w13 ⟨rfl, hb13⟩
  have hHeld13 : (fun w2 => w2.rangeAt w.heap.size 0 (cfA tv lv c).toList ∧ w2.rangeAt (w.heap.size + 1) 0 (ivC v).toList ∧ w2.rangeAt (w.heap.size + 1 + 1) 0 (opA o).toList ∧ w2.rangeAt w6.heap.size 0 (stA 0 (.slice none 0 0)).toList) w13 := ⟨fun j u hj => cell_below hb13 (hHeld.1 j u hj), fun j u hj => cell_below hb13 (hHeld.2.1 j u hj), fun j u hj => cell_below hb13 (hHeld.2.2.1 j u hj), fun j u hj => cell_below hb13 (hHeld.2.2.2 j u hj)⟩
  have HB13 := Lib.hid (HB12.out.trans (hb13.mono HB12.out.size))
  refine hK.out _ _ hHeld13 (fun hHeld => ?_)
  clear hK K
  try simp only [Act.put, List.setIfInBounds_toArray, List.set_cons_zero, List.set_cons_succ]
  clear hHeld13 hb13
  refine wpAnyH_take (i := 14) (oi := ⟨some 30, _, _, _, _, _⟩) (v := ?_) rfl (by kernel_rfl) (by kernel_rfl) (by kernel_rfl) (fun _ _ _ h => h) (Or.inl ⟨by rfl, ?_⟩) (by assumption) ?_
  rotate_left 1
  · intro w hSw
    try dsimp only at hSw
    go_simp
    try with_reducible rfl
  try simp only [Act.put, List.setIfInBounds_toArray, List.set_cons_zero, List.set_cons_succ]
  refine wpAnyH_take (i := 15) (oi := ⟨some 31, _, _, _, _, _⟩) (v := ?_) rfl (by kernel_rfl) (by kernel_rfl) (by kernel_rfl) (fun _ _ _ h => h) (Or.inl ⟨by rfl, ?_⟩) (by assumption) ?_
  rotate_left 1
  · intro w hSw
    try dsimp only at hSw
    go_simp
    try with_reducible rfl
  try simp only [Act.put, List.setIfInBounds_toArray, List.set_cons_zero, List.set_cons_succ]
  refine wpAnyH_take (i := 16) (oi := ⟨some 32, _, _, _, _, _⟩) (v := ?_) rfl (by kernel_rfl) (by kernel_rfl) (by kernel_rfl) (fun _ _ _ h => h) (Or.inl ⟨by rfl, ?_⟩) (by assumption) ?_
  rotate_left 1
  · intro w hSw
    try dsimp only at hSw
    go_simp
    try with_reducible rfl
  try simp only [Act.put, List.setIfInBounds_toArray, List.set_cons_zero, List.set_cons_succ]
  refine wpAnyH_take (i := 17) (oi := ⟨some 33, _, _, _, _, _⟩) (v := .agg (stA 0 (.slice none 0 0))) rfl (by kernel_rfl) (by kernel_rfl) (by kernel_rfl) (fun _ _ _ h => h) (yieldsIf_load_mid (by rfl) 42 _ rfl w6.heap.size 0 rfl (stA 0 (.slice none 0 0)).toList _ (fun w2 hw => hw.2.2.2) Tryz.underlying42 rfl (st_info)) (by assumption) ?_
  try simp only [Act.put, List.setIfInBounds_toArray, List.set_cons_zero, List.set_cons_succ]
  refine wpAnyH_take (i := 18) (oi := ⟨some 34, _, _, _, _, _⟩) (v := ?_) rfl (by kernel_rfl) (by kernel_rfl) (by kernel_rfl) (fun _ _ _ h => h) (Or.inl ⟨by rfl, ?_⟩) (by assumption) ?_
  rotate_left 1
  · intro w hSw
    try dsimp only at hSw
    go_simp
    try with_reducible rfl
  try simp only [Act.put, List.setIfInBounds_toArray, List.set_cons_zero, List.set_cons_succ]
  refine wpAnyH_ready (rs := [19]) (by kernel_rfl) (by simp) ?_
  refine AllReadyH.cons (o := ⟨some 35, _, _, _, _, _⟩) rfl (fun K hK => ?_) AllReadyH.nil
  go_simp
  refine (to_nil _).mono ?_
  rintro e w14 ⟨⟨p, rfl⟩, hb14⟩
  have hHeld14 : (fun w2 => w2.rangeAt w.heap.size 0 (cfA tv lv c).toList ∧ w2.rangeAt (w.heap.size + 1) 0 (ivC v).toList ∧ w2.rangeAt (w.heap.size + 1 + 1) 0 (opA o).toList ∧ w2.rangeAt w6.heap.size 0 (stA 0 (.slice none 0 0)).toList) w14 := ⟨fun j u hj => cell_below hb14 (hHeld.1 j u hj), fun j u hj => cell_below hb14 (hHeld.2.1 j u hj), fun j u hj => cell_below hb14 (hHeld.2.2.1 j u hj), fun j u hj => cell_below hb14 (hHeld.2.2.2 j u hj)⟩
  have HB14 := Lib.hid (HB13.out.trans (hb14.mono HB13.out.size))
  refine hK.out _ _ hHeld14 (fun hHeld => ?_)
  clear hK K
  try simp only [Act.put, List.setIfInBounds_toArray, List.set_cons_zero, List.set_cons_succ]
  clear hHeld14 hb14
  refine wpAnyH_ready (rs := [20]) (by kernel_rfl) (by simp) ?_
  refine AllReadyH.cons (o := ⟨some 36, _, _, _, _, _⟩) rfl (fun K hK => ?_) AllReadyH.nil
  go_simp
  refine (same_nil p _).mono ?_
  rintro e w15 ⟨rfl, hb15⟩
  have hHeld15 : (fun w2 => w2.rangeAt w.heap.size 0 (cfA tv lv c).toList ∧ w2.rangeAt (w.heap.size + 1) 0 (ivC v).toList ∧ w2.rangeAt (w.heap.size + 1 + 1) 0 (opA o).toList ∧ w2.rangeAt w6.heap.size 0 (stA 0 (.slice none 0 0)).toList) w15 := ⟨fun j u hj => cell_below hb15 (hHeld.1 j u hj), fun j u hj => cell_below hb15 (hHeld.2.1 j u hj), fun j u hj => cell_below hb15 (hHeld.2.2.1 j u hj), fun j u hj => cell_below hb15 (hHeld.2.2.2 j u hj)⟩
  have HB15 := Lib.hid (HB14.out.trans (hb15.mono HB14.out.size))
  refine hK.out _ _ hHeld15 (fun hHeld => ?_)
  clear hK K
  try simp only [Act.put, List.setIfInBounds_toArray, List.set_cons_zero, List.set_cons_succ]
  clear hHeld15 hb15
  refine wpAnyH_take (i := 21) (oi := ⟨some 37, _, _, _, _, _⟩) (v := ?_) rfl (by kernel_rfl) (by kernel_rfl) (by kernel_rfl) (fun _ _ _ h => h) (Or.inl ⟨by rfl, ?_⟩) (by assumption) ?_
  rotate_left 1
  · intro w hSw
    try dsimp only at hSw
    go_simp
    try with_reducible rfl
  try simp only [Act.put, List.setIfInBounds_toArray, List.set_cons_zero, List.set_cons_succ]
  refine wpAnyH_take (i := 22) (oi := ⟨some 38, _, _, _, _, _⟩) (v := ?_) rfl (by kernel_rfl) (by kernel_rfl) (by kernel_rfl) (fun _ _ _ h => h) (Or.inl ⟨by rfl, ?_⟩) (by assumption) ?_
  rotate_left 1
  · intro w hSw
    try dsimp only at hSw
    go_simp
    try with_reducible rfl
  try simp only [Act.put, List.setIfInBounds_toArray, List.set_cons_zero, List.set_cons_succ]
  refine wpAnyH_ready (rs := [23]) (by kernel_rfl) (by simp) ?_
  refine AllReadyH.cons (o := ⟨some 39, _, _, _, _, _⟩) rfl (fun K hK => ?_) AllReadyH.nil
  go_simp
  refine (live35_any _ (HR.out.below HB15.out)).mono ?_
  rintro e w16 ⟨rfl, hb16⟩
  have hHeld16 : (fun w2 => w2.rangeAt w.heap.size 0 (cfA tv lv c).toList ∧ w2.rangeAt (w.heap.size + 1) 0 (ivC v).toList ∧ w2.rangeAt (w.heap.size + 1 + 1) 0 (opA o).toList ∧ w2.rangeAt w6.heap.size 0 (stA 0 (.slice none 0 0)).toList) w16 := ⟨fun j u hj => cell_below hb16 (hHeld.1 j u hj), fun j u hj => cell_below hb16 (hHeld.2.1 j u hj), fun j u hj => cell_below hb16 (hHeld.2.2.1 j u hj), fun j u hj => cell_below hb16 (hHeld.2.2.2 j u hj)⟩
  have HB16 := Lib.hid (HB15.out.trans (hb16.mono HB15.out.size))
  refine hK.out _ _ hHeld16 (fun hHeld => ?_)
  clear hK K
  try simp only [Act.put, List.setIfInBounds_toArray, List.set_cons_zero, List.set_cons_succ]
  clear hHeld16 hb16
  refine wpAnyH_take (i := 24) (oi := ⟨some 40, _, _, _, _, _⟩) (v := ?_) rfl (by kernel_rfl) (by kernel_rfl) (by kernel_rfl) (fun _ _ _ h => h) (Or.inl ⟨by rfl, ?_⟩) (by assumption) ?_
  rotate_left 1
  · intro w hSw
    try dsimp only at hSw
    go_simp
    try with_reducible rfl
  try simp only [Act.put, List.setIfInBounds_toArray, List.set_cons_zero, List.set_cons_succ]
  refine wpAnyH_take (i := 25) (oi := ⟨some 6, _, _, _, _, _⟩) (v := ?_) rfl (by kernel_rfl) (by kernel_rfl) (by kernel_rfl) (fun _ _ _ h => h) (Or.inl ⟨by rfl, ?_⟩) (by assumption) ?_
  rotate_left 1
  · intro w hSw
    try dsimp only at hSw
    go_simp
    try with_reducible rfl
  try simp only [Act.put, List.setIfInBounds_toArray, List.set_cons_zero, List.set_cons_succ]
  refine wpAnyH_done (by kernel_rfl) ?_ _
  refine NoPanic.normal ?_
  clear hHeld
  go_wp2_with fail
  go_ret
  exact ⟨rfl, HB16.out⟩
set_option maxRecDepth 100000 in
set_option maxHeartbeats 4000000 in
theorem entries_bad (tv lv : Value) (c : Cfg) (v : Ivn) (o : Opr) (w : World) (hr : Ready w) (hC : CfgAt w tv lv c) (hw : (decide (20 < c.ts.length) || decide (20 < c.ls.length)) = false) (hE : ¬ checkE c = 0) : Calls Tryz.prog 5 #[.agg (cfA tv lv c), .agg (ivC v), .agg (opA o)] w (TrueBelow w) := by
  have HCW := Lib.hid hC
  have HR := Lib.hid hr
  have hg0 : (((w.alloc (.cells (cfA tv lv c) 25)).alloc (.cells (ivC v) 49)).alloc (.cells (opA o) 53)).heap[w.heap.size]? = some (.cells (cfA tv lv c) 25 (0, 0)) := fr_alloc_old (fr_alloc_old (heap_alloc_new _ _))
  have hg1 : (((w.alloc (.cells (cfA tv lv c) 25)).alloc (.cells (ivC v) 49)).alloc (.cells (opA o) 53)).heap[w.heap.size + 1]? = some (.cells (ivC v) 49 (0, 0)) := fr_alloc_old (heap_alloc_two _ _ _)
  have hg2 : (((w.alloc (.cells (cfA tv lv c) 25)).alloc (.cells (ivC v) 49)).alloc (.cells (opA o) 53)).heap[w.heap.size + 1 + 1]? = some (.cells (opA o) 53 (0, 0)) := heap_alloc_three _ _ _ _
  have hb : Below w.heap.size w (((w.alloc (.cells (cfA tv lv c) 25)).alloc (.cells (ivC v) 49)).alloc (.cells (opA o) 53)) := (box_below.alloc (by simp) _).alloc (by simp; omega) _
  have hs : (((w.alloc (.cells (cfA tv lv c) 25)).alloc (.cells (ivC v) 49)).alloc (.cells (opA o) 53)).heap.size = w.heap.size + 1 + 1 + 1 := by simp
  have HC := Lib.hid (hC.below hb)
  clear hr hC
  go_enter Tryz.func5, Tryz.ntmps5
  go_upto_region 1 with fail
  generalize (((w.alloc (.cells (cfA tv lv c) 25)).alloc (.cells (ivC v) 49)).alloc (.cells (opA o) 53)) = W3 at hg0 hg1 hg2 hb hs HC ⊢
  have HG0 := Lib.hid hg0
  have HG1 := Lib.hid hg1
  have HG2 := Lib.hid hg2
  have HB := Lib.hid hb
  clear hg0 hg1 hg2 hb
  go_wp2_with (refine wpList_load_agg 25 HG0.out Tryz.underlying25 rfl cfg_info rfl _ rfl rfl ?_)
  refine (wide_any tv lv c _ HC.out).mono ?_
  rintro e w4 ⟨rfl, hb4⟩
  have HB4 := Lib.hid (HB.out.trans (hb4.mono HB.out.size))
  have hg0 := (hb4.block _ (by rw [hs]; omega)).trans HG0.out
  have hg1 := (hb4.block _ (by rw [hs]; omega)).trans HG1.out
  have hg2 := (hb4.block _ (by rw [hs]; omega)).trans HG2.out
  have n4 : w.heap.size + 1 + 1 + 1 ≤ w4.heap.size := by have := hb4.size; omega
  clear HG0 HG1 HG2 hb4 HB HC
  rw [hw]
  go_wp2_with fail
  refine (stnew_any _).mono ?_
  rintro e w6 ⟨rfl, hb6⟩
  have HB6 := Lib.hid (HB4.out.trans (hb6.mono HB4.out.size))
  have n6 : w.heap.size + 1 + 1 + 1 ≤ w6.heap.size := by have := hb6.size; omega
  have HG0 := Lib.hid (fr_alloc_old (o := .cells (stA 0 (.slice none 0 0)) 42) ((hb6.block _ (by omega)).trans hg0))
  have HG1 := Lib.hid (fr_alloc_old (o := .cells (stA 0 (.slice none 0 0)) 42) ((hb6.block _ (by omega)).trans hg1))
  have HG2 := Lib.hid (fr_alloc_old (o := .cells (stA 0 (.slice none 0 0)) 42) ((hb6.block _ (by omega)).trans hg2))
  have HG3 := Lib.hid (heap_alloc_new w6 (.cells (stA 0 (.slice none 0 0)) 42))
  have HB7 := Lib.hid (HB6.out.alloc HB6.out.size (.cells (stA 0 (.slice none 0 0)) 42))
  clear hg0 hg1 hg2 hb6 HB4
  go_upto_region 5 with (refine wpList_store_new rfl 42 _ _ rfl w6.heap.size ?a1 _ rfl rfl ?a2 ?a3 ?a4 ?_; (case a1 => rfl); (case a2 => exact st_info); (case a3 => rfl); (case a4 => simp [stA, Value.oneCell']))
  generalize w6.alloc (.cells (stA 0 (.slice none 0 0)) 42) = W6 at HG0 HG1 HG2 HG3 HB7 ⊢
  go_wp2_with (refine wpList_load_agg 25 HG0.out Tryz.underlying25 rfl cfg_info rfl _ rfl rfl ?_)
  refine (rright_any _ tv lv c _ (cfA_cells tv lv c) (HCW.out.below HB7.out)).mono ?_
  rintro e W7 ⟨rfl, hb7⟩
  rw [show (checkE c == 0) = false from beq_eq_false_iff_ne.2 hE]
  have h0 := (hb7.block _ (Array.getElem?_eq_some_iff.1 HG0.out).1).trans HG0.out
  have h1 := (hb7.block _ (Array.getElem?_eq_some_iff.1 HG1.out).1).trans HG1.out
  have h2 := (hb7.block _ (Array.getElem?_eq_some_iff.1 HG2.out).1).trans HG2.out
  have h3 := (hb7.block _ (Array.getElem?_eq_some_iff.1 HG3.out).1).trans HG3.out
  have R0 := Lib.hid (show W7.drew.rangeAt w.heap.size 0 (cfA tv lv c).toList from fun j u hj => by rw [Nat.zero_add]; exact fr_cell_of_heap (w := W7) h0 (by simpa using hj))
  have R1 := Lib.hid (show W7.drew.rangeAt (w.heap.size + 1) 0 (ivC v).toList from fun j u hj => by rw [Nat.zero_add]; exact fr_cell_of_heap (w := W7) h1 (by simpa using hj))
  have R2 := Lib.hid (show W7.drew.rangeAt (w.heap.size + 1 + 1) 0 (opA o).toList from fun j u hj => by rw [Nat.zero_add]; exact fr_cell_of_heap (w := W7) h2 (by simpa using hj))
  have R3 := Lib.hid (show W7.drew.rangeAt w6.heap.size 0 (stA 0 (.slice none 0 0)).toList from fun j u hj => by rw [Nat.zero_add]; exact fr_cell_of_heap (w := W7) h3 (by simpa using hj))
  have hbw : Below w.heap.size w W7.drew := (HB7.out.trans (hb7.mono HB7.out.size)).drew
  clear h0 h1 h2 h3 HG0 HG1 HG2 HG3 HB7 hb7
  have HB7 := Lib.hid hbw
  clear hbw
  go_upto_region 7 with fail
  refine wp_region_noPanic ?_
  refine wp_region_any (by kernel_rfl) ?_
  change wpAny _ _ _ _ _ _ _ (World.drew _)
  refine wpAny_of_held (S := (fun w2 => w2.rangeAt w.heap.size 0 (cfA tv lv c).toList ∧ w2.rangeAt (w.heap.size + 1) 0 (ivC v).toList ∧ w2.rangeAt (w.heap.size + 1 + 1) 0 (opA o).toList ∧ w2.rangeAt w6.heap.size 0 (stA 0 (.slice none 0 0)).toList)) _ _ _ _ ?_
  have hHeld : (fun w2 => w2.rangeAt w.heap.size 0 (cfA tv lv c).toList ∧ w2.rangeAt (w.heap.size + 1) 0 (ivC v).toList ∧ w2.rangeAt (w.heap.size + 1 + 1) 0 (opA o).toList ∧ w2.rangeAt w6.heap.size 0 (stA 0 (.slice none 0 0)).toList) W7.drew := ⟨R0.out, R1.out, R2.out, R3.out⟩
  refine wpAnyH_take (i := 0) (oi := ⟨some 16, _, _, _, _, _⟩) (v := .agg (cfA tv lv c)) rfl (by kernel_rfl) (by kernel_rfl) (by kernel_rfl) (fun _ _ _ h => h) (yieldsIf_load_mid (by rfl) 25 _ rfl w.heap.size 0 rfl (cfA tv lv c).toList _ (fun w2 hw => hw.1) Tryz.underlying25 rfl (cfg_info)) (by assumption) ?_
  try simp only [Act.put, List.setIfInBounds_toArray, List.set_cons_zero, List.set_cons_succ]
  refine wpAnyH_take (i := 1) (oi := ⟨some 17, _, _, _, _, _⟩) (v := .agg (ivC v)) rfl (by kernel_rfl) (by kernel_rfl) (by kernel_rfl) (fun _ _ _ h => h) (yieldsIf_load_mid (by rfl) 49 _ rfl (w.heap.size + 1) 0 rfl (ivC v).toList _ (fun w2 hw => hw.2.1) Tryz.underlying49 rfl (iv_info)) (by assumption) ?_
  try simp only [Act.put, List.setIfInBounds_toArray, List.set_cons_zero, List.set_cons_succ]
  refine wpAnyH_take (i := 2) (oi := ⟨some 18, _, _, _, _, _⟩) (v := .agg (opA o)) rfl (by kernel_rfl) (by kernel_rfl) (by kernel_rfl) (fun _ _ _ h => h) (yieldsIf_load_mid (by rfl) 53 _ rfl (w.heap.size + 1 + 1) 0 rfl (opA o).toList _ (fun w2 hw => hw.2.2.1) Tryz.underlying53 rfl (opA_info o)) (by assumption) ?_
  try simp only [Act.put, List.setIfInBounds_toArray, List.set_cons_zero, List.set_cons_succ]
  refine wpAnyH_take (i := 4) (oi := ⟨some 20, _, _, _, _, _⟩) (v := .agg (cfA tv lv c)) rfl (by kernel_rfl) (by kernel_rfl) (by kernel_rfl) (fun _ _ _ h => h) (yieldsIf_load_mid (by rfl) 25 _ rfl w.heap.size 0 rfl (cfA tv lv c).toList _ (fun w2 hw => hw.1) Tryz.underlying25 rfl (cfg_info)) (by assumption) ?_
  try simp only [Act.put, List.setIfInBounds_toArray, List.set_cons_zero, List.set_cons_succ]
  refine wpAnyH_take (i := 5) (oi := ⟨some 21, _, _, _, _, _⟩) (v := .agg (ivC v)) rfl (by kernel_rfl) (by kernel_rfl) (by kernel_rfl) (fun _ _ _ h => h) (yieldsIf_load_mid (by rfl) 49 _ rfl (w.heap.size + 1) 0 rfl (ivC v).toList _ (fun w2 hw => hw.2.1) Tryz.underlying49 rfl (iv_info)) (by assumption) ?_
  try simp only [Act.put, List.setIfInBounds_toArray, List.set_cons_zero, List.set_cons_succ]
  refine wpAnyH_take (i := 6) (oi := ⟨some 22, _, _, _, _, _⟩) (v := .agg (opA o)) rfl (by kernel_rfl) (by kernel_rfl) (by kernel_rfl) (fun _ _ _ h => h) (yieldsIf_load_mid (by rfl) 53 _ rfl (w.heap.size + 1 + 1) 0 rfl (opA o).toList _ (fun w2 hw => hw.2.2.1) Tryz.underlying53 rfl (opA_info o)) (by assumption) ?_
  try simp only [Act.put, List.setIfInBounds_toArray, List.set_cons_zero, List.set_cons_succ]
  refine wpAnyH_ready (rs := [3]) (by kernel_rfl) (by simp) ?_
  refine AllReadyH.cons (o := ⟨some 19, _, _, _, _, _⟩) rfl (fun K hK => ?_) AllReadyH.nil
  go_simp
  refine (stentry_any tv lv c v o _ (HCW.out.below HB7.out)).mono ?_
  rintro e w11 ⟨rfl, hb11⟩
  have hHeld11 : (fun w2 => w2.rangeAt w.heap.size 0 (cfA tv lv c).toList ∧ w2.rangeAt (w.heap.size + 1) 0 (ivC v).toList ∧ w2.rangeAt (w.heap.size + 1 + 1) 0 (opA o).toList ∧ w2.rangeAt w6.heap.size 0 (stA 0 (.slice none 0 0)).toList) w11 := ⟨fun j u hj => cell_below hb11 (hHeld.1 j u hj), fun j u hj => cell_below hb11 (hHeld.2.1 j u hj), fun j u hj => cell_below hb11 (hHeld.2.2.1 j u hj), fun j u hj => cell_below hb11 (hHeld.2.2.2 j u hj)⟩
  have HB11 := Lib.hid (HB7.out.trans (hb11.mono HB7.out.size))
  refine hK.out _ _ hHeld11 (fun hHeld => ?_)
  clear hK K
  try simp only [Act.put, List.setIfInBounds_toArray, List.set_cons_zero, List.set_cons_succ]
  clear hHeld11 hb11
  refine wpAnyH_ready (rs := [7]) (by kernel_rfl) (by simp) ?_
  refine AllReadyH.cons (o := ⟨some 23, _, _, _, _, _⟩) rfl (fun K hK => ?_) AllReadyH.nil
  go_simp
  refine (rentry35_any tv lv c v o _ (HCW.out.below HB11.out)).mono ?_
  rintro e w12 ⟨rfl, hb12⟩
  have hHeld12 : (fun w2 => w2.rangeAt w.heap.size 0 (cfA tv lv c).toList ∧ w2.rangeAt (w.heap.size + 1) 0 (ivC v).toList ∧ w2.rangeAt (w.heap.size + 1 + 1) 0 (opA o).toList ∧ w2.rangeAt w6.heap.size 0 (stA 0 (.slice none 0 0)).toList) w12 := ⟨fun j u hj => cell_below hb12 (hHeld.1 j u hj), fun j u hj => cell_below hb12 (hHeld.2.1 j u hj), fun j u hj => cell_below hb12 (hHeld.2.2.1 j u hj), fun j u hj => cell_below hb12 (hHeld.2.2.2 j u hj)⟩
  have HB12 := Lib.hid (HB11.out.trans (hb12.mono HB11.out.size))
  refine hK.out _ _ hHeld12 (fun hHeld => ?_)
  clear hK K
  try simp only [Act.put, List.setIfInBounds_toArray, List.set_cons_zero, List.set_cons_succ]
  clear hHeld12 hb12
  refine wpAnyH_take (i := 8) (oi := ⟨some 24, _, _, _, _, _⟩) (v := .bool true) rfl (by kernel_rfl) (by kernel_rfl) (by kernel_rfl) (fun _ _ _ h => h) (Or.inl ⟨by rfl, fun w2 _ => en_exec (c := c) (v := v) (o := o) _ _ rfl rfl rfl w2⟩) (by assumption) ?_
  try simp only [Act.put, List.setIfInBounds_toArray, List.set_cons_zero, List.set_cons_succ]
  refine wpAnyH_take (i := 9) (oi := ⟨some 25, _, _, _, _, _⟩) (v := ?_) rfl (by kernel_rfl) (by kernel_rfl) (by kernel_rfl) (fun _ _ _ h => h) (Or.inl ⟨by rfl, ?_⟩) (by assumption) ?_
  rotate_left 1
  · intro w hSw
    try dsimp only at hSw
    go_simp
    try with_reducible rfl
  try simp only [Act.put, List.setIfInBounds_toArray, List.set_cons_zero, List.set_cons_succ]
  refine wpAnyH_take (i := 10) (oi := ⟨some 26, _, _, _, _, _⟩) (v := .agg (cfA tv lv c)) rfl (by kernel_rfl) (by kernel_rfl) (by kernel_rfl) (fun _ _ _ h => h) (yieldsIf_load_mid (by rfl) 25 _ rfl w.heap.size 0 rfl (cfA tv lv c).toList _ (fun w2 hw => hw.1) Tryz.underlying25 rfl (cfg_info)) (by assumption) ?_
  try simp only [Act.put, List.setIfInBounds_toArray, List.set_cons_zero, List.set_cons_succ]
  refine wpAnyH_take (i := 11) (oi := ⟨some 27, _, _, _, _, _⟩) (v := .agg (stA 0 (.slice none 0 0))) rfl (by kernel_rfl) (by kernel_rfl) (by kernel_rfl) (fun _ _ _ h => h) (yieldsIf_load_mid (by rfl) 42 _ rfl w6.heap.size 0 rfl (stA 0 (.slice none 0 0)).toList _ (fun w2 hw => hw.2.2.2) Tryz.underlying42 rfl (st_info)) (by assumption) ?_
  try simp only [Act.put, List.setIfInBounds_toArray, List.set_cons_zero, List.set_cons_succ]
  refine wpAnyH_take (i := 13) (oi := ⟨some 29, _, _, _, _, _⟩) (v := ?_) rfl (by kernel_rfl) (by kernel_rfl) (by kernel_rfl) (fun _ _ _ h => h) (Or.inl ⟨by rfl, ?_⟩) (by assumption) ?_
  rotate_left 1
  · intro w hSw
    try dsimp only at hSw
    go_simp
    try with_reducible rfl
  try simp only [Act.put, List.setIfInBounds_toArray, List.set_cons_zero, List.set_cons_succ]
  refine wpAnyH_ready (rs := [12]) (by kernel_rfl) (by simp) ?_
  refine AllReadyH.cons (o := ⟨some 28, _, _, _, _, _⟩) rfl (fun K hK => ?_) AllReadyH.nil
  go_simp
  refine (wrong_bad tv lv c _ (HCW.out.below HB12.out) (HR.out.below HB12.out) hE).mono ?_
  rintro e w13 ⟨rfl, hb13⟩
  have hHeld13 : (fun w2 => w2.rangeAt w.heap.size 0 (cfA tv lv c).toList ∧ w2.rangeAt (w.heap.size + 1) 0 (ivC v).toList ∧ w2.rangeAt (w.heap.size + 1 + 1) 0 (opA o).toList ∧ w2.rangeAt w6.heap.size 0 (stA 0 (.slice none 0 0)).toList) w13 := ⟨fun j u hj => cell_below hb13 (hHeld.1 j u hj), fun j u hj => cell_below hb13 (hHeld.2.1 j u hj), fun j u hj => cell_below hb13 (hHeld.2.2.1 j u hj), fun j u hj => cell_below hb13 (hHeld.2.2.2 j u hj)⟩
  have HB13 := Lib.hid (HB12.out.trans (hb13.mono HB12.out.size))
  refine hK.out _ _ hHeld13 (fun hHeld => ?_)
  clear hK K
  try simp only [Act.put, List.setIfInBounds_toArray, List.set_cons_zero, List.set_cons_succ]
  clear hHeld13 hb13
  refine wpAnyH_take (i := 14) (oi := ⟨some 30, _, _, _, _, _⟩) (v := ?_) rfl (by kernel_rfl) (by kernel_rfl) (by kernel_rfl) (fun _ _ _ h => h) (Or.inl ⟨by rfl, ?_⟩) (by assumption) ?_
  rotate_left 1
  · intro w hSw
    try dsimp only at hSw
    go_simp
    try with_reducible rfl
  try simp only [Act.put, List.setIfInBounds_toArray, List.set_cons_zero, List.set_cons_succ]
  refine wpAnyH_take (i := 15) (oi := ⟨some 31, _, _, _, _, _⟩) (v := ?_) rfl (by kernel_rfl) (by kernel_rfl) (by kernel_rfl) (fun _ _ _ h => h) (Or.inl ⟨by rfl, ?_⟩) (by assumption) ?_
  rotate_left 1
  · intro w hSw
    try dsimp only at hSw
    go_simp
    try with_reducible rfl
  try simp only [Act.put, List.setIfInBounds_toArray, List.set_cons_zero, List.set_cons_succ]
  refine wpAnyH_take (i := 16) (oi := ⟨some 32, _, _, _, _, _⟩) (v := ?_) rfl (by kernel_rfl) (by kernel_rfl) (by kernel_rfl) (fun _ _ _ h => h) (Or.inl ⟨by rfl, ?_⟩) (by assumption) ?_
  rotate_left 1
  · intro w hSw
    try dsimp only at hSw
    go_simp
    try with_reducible rfl
  try simp only [Act.put, List.setIfInBounds_toArray, List.set_cons_zero, List.set_cons_succ]
  refine wpAnyH_take (i := 17) (oi := ⟨some 33, _, _, _, _, _⟩) (v := .agg (stA 0 (.slice none 0 0))) rfl (by kernel_rfl) (by kernel_rfl) (by kernel_rfl) (fun _ _ _ h => h) (yieldsIf_load_mid (by rfl) 42 _ rfl w6.heap.size 0 rfl (stA 0 (.slice none 0 0)).toList _ (fun w2 hw => hw.2.2.2) Tryz.underlying42 rfl (st_info)) (by assumption) ?_
  try simp only [Act.put, List.setIfInBounds_toArray, List.set_cons_zero, List.set_cons_succ]
  refine wpAnyH_take (i := 18) (oi := ⟨some 34, _, _, _, _, _⟩) (v := ?_) rfl (by kernel_rfl) (by kernel_rfl) (by kernel_rfl) (fun _ _ _ h => h) (Or.inl ⟨by rfl, ?_⟩) (by assumption) ?_
  rotate_left 1
  · intro w hSw
    try dsimp only at hSw
    go_simp
    try with_reducible rfl
  try simp only [Act.put, List.setIfInBounds_toArray, List.set_cons_zero, List.set_cons_succ]
  refine wpAnyH_ready (rs := [19]) (by kernel_rfl) (by simp) ?_
  refine AllReadyH.cons (o := ⟨some 35, _, _, _, _, _⟩) rfl (fun K hK => ?_) AllReadyH.nil
  go_simp
  refine (to_nil _).mono ?_
  rintro e w14 ⟨⟨p, rfl⟩, hb14⟩
  have hHeld14 : (fun w2 => w2.rangeAt w.heap.size 0 (cfA tv lv c).toList ∧ w2.rangeAt (w.heap.size + 1) 0 (ivC v).toList ∧ w2.rangeAt (w.heap.size + 1 + 1) 0 (opA o).toList ∧ w2.rangeAt w6.heap.size 0 (stA 0 (.slice none 0 0)).toList) w14 := ⟨fun j u hj => cell_below hb14 (hHeld.1 j u hj), fun j u hj => cell_below hb14 (hHeld.2.1 j u hj), fun j u hj => cell_below hb14 (hHeld.2.2.1 j u hj), fun j u hj => cell_below hb14 (hHeld.2.2.2 j u hj)⟩
  have HB14 := Lib.hid (HB13.out.trans (hb14.mono HB13.out.size))
  refine hK.out _ _ hHeld14 (fun hHeld => ?_)
  clear hK K
  try simp only [Act.put, List.setIfInBounds_toArray, List.set_cons_zero, List.set_cons_succ]
  clear hHeld14 hb14
  refine wpAnyH_ready (rs := [20]) (by kernel_rfl) (by simp) ?_
  refine AllReadyH.cons (o := ⟨some 36, _, _, _, _, _⟩) rfl (fun K hK => ?_) AllReadyH.nil
  go_simp
  refine (same_nil p _).mono ?_
  rintro e w15 ⟨rfl, hb15⟩
  have hHeld15 : (fun w2 => w2.rangeAt w.heap.size 0 (cfA tv lv c).toList ∧ w2.rangeAt (w.heap.size + 1) 0 (ivC v).toList ∧ w2.rangeAt (w.heap.size + 1 + 1) 0 (opA o).toList ∧ w2.rangeAt w6.heap.size 0 (stA 0 (.slice none 0 0)).toList) w15 := ⟨fun j u hj => cell_below hb15 (hHeld.1 j u hj), fun j u hj => cell_below hb15 (hHeld.2.1 j u hj), fun j u hj => cell_below hb15 (hHeld.2.2.1 j u hj), fun j u hj => cell_below hb15 (hHeld.2.2.2 j u hj)⟩
  have HB15 := Lib.hid (HB14.out.trans (hb15.mono HB14.out.size))
  refine hK.out _ _ hHeld15 (fun hHeld => ?_)
  clear hK K
  try simp only [Act.put, List.setIfInBounds_toArray, List.set_cons_zero, List.set_cons_succ]
  clear hHeld15 hb15
  refine wpAnyH_take (i := 21) (oi := ⟨some 37, _, _, _, _, _⟩) (v := ?_) rfl (by kernel_rfl) (by kernel_rfl) (by kernel_rfl) (fun _ _ _ h => h) (Or.inl ⟨by rfl, ?_⟩) (by assumption) ?_
  rotate_left 1
  · intro w hSw
    try dsimp only at hSw
    go_simp
    try with_reducible rfl
  try simp only [Act.put, List.setIfInBounds_toArray, List.set_cons_zero, List.set_cons_succ]
  refine wpAnyH_take (i := 22) (oi := ⟨some 38, _, _, _, _, _⟩) (v := ?_) rfl (by kernel_rfl) (by kernel_rfl) (by kernel_rfl) (fun _ _ _ h => h) (Or.inl ⟨by rfl, ?_⟩) (by assumption) ?_
  rotate_left 1
  · intro w hSw
    try dsimp only at hSw
    go_simp
    try with_reducible rfl
  try simp only [Act.put, List.setIfInBounds_toArray, List.set_cons_zero, List.set_cons_succ]
  refine wpAnyH_ready (rs := [23]) (by kernel_rfl) (by simp) ?_
  refine AllReadyH.cons (o := ⟨some 39, _, _, _, _, _⟩) rfl (fun K hK => ?_) AllReadyH.nil
  go_simp
  refine (live35_any _ (HR.out.below HB15.out)).mono ?_
  rintro e w16 ⟨rfl, hb16⟩
  have hHeld16 : (fun w2 => w2.rangeAt w.heap.size 0 (cfA tv lv c).toList ∧ w2.rangeAt (w.heap.size + 1) 0 (ivC v).toList ∧ w2.rangeAt (w.heap.size + 1 + 1) 0 (opA o).toList ∧ w2.rangeAt w6.heap.size 0 (stA 0 (.slice none 0 0)).toList) w16 := ⟨fun j u hj => cell_below hb16 (hHeld.1 j u hj), fun j u hj => cell_below hb16 (hHeld.2.1 j u hj), fun j u hj => cell_below hb16 (hHeld.2.2.1 j u hj), fun j u hj => cell_below hb16 (hHeld.2.2.2 j u hj)⟩
  have HB16 := Lib.hid (HB15.out.trans (hb16.mono HB15.out.size))
  refine hK.out _ _ hHeld16 (fun hHeld => ?_)
  clear hK K
  try simp only [Act.put, List.setIfInBounds_toArray, List.set_cons_zero, List.set_cons_succ]
  clear hHeld16 hb16
  refine wpAnyH_take (i := 24) (oi := ⟨some 40, _, _, _, _, _⟩) (v := ?_) rfl (by kernel_rfl) (by kernel_rfl) (by kernel_rfl) (fun _ _ _ h => h) (Or.inl ⟨by rfl, ?_⟩) (by assumption) ?_
  rotate_left 1
  · intro w hSw
    try dsimp only at hSw
    go_simp
    try with_reducible rfl
  try simp only [Act.put, List.setIfInBounds_toArray, List.set_cons_zero, List.set_cons_succ]
  refine wpAnyH_take (i := 25) (oi := ⟨some 6, _, _, _, _, _⟩) (v := ?_) rfl (by kernel_rfl) (by kernel_rfl) (by kernel_rfl) (fun _ _ _ h => h) (Or.inl ⟨by rfl, ?_⟩) (by assumption) ?_
  rotate_left 1
  · intro w hSw
    try dsimp only at hSw
    go_simp
    try with_reducible rfl
  try simp only [Act.put, List.setIfInBounds_toArray, List.set_cons_zero, List.set_cons_succ]
  refine wpAnyH_done (by kernel_rfl) ?_ _
  refine NoPanic.normal ?_
  clear hHeld
  go_wp2_with fail
  go_ret
  exact ⟨rfl, HB16.out⟩
theorem entries_any (tv lv : Value) (c : Cfg) (v : Ivn) (o : Opr) (w : World) (hr : Ready w) (hC : CfgAt w tv lv c) : Calls Tryz.prog 5 #[.agg (cfA tv lv c), .agg (ivC v), .agg (opA o)] w (TrueBelow w) := by
  rcases hw : (decide (20 < c.ts.length) || decide (20 < c.ls.length)) with _ | _
  · by_cases hE : checkE c = 0
    · exact entries_good tv lv c v o w hr hC hw hE
    · exact entries_bad tv lv c v o w hr hC hw hE
  · exact entries_wide tv lv c v o w hr hC hw
end Go.Proofs.YtjmlimogmmikoaaGreatDoor
namespace Go.Proofs.YtjmlimogmmikoaaGreatDoor
open Go.ChangeShapes Go.WideShapes Go.ChangeAt Go.RowKit Go.Deep
theorem op_cellsN : Tryz.prog.cellsOf 53 = 18 := by kernel_rfl
theorem oaction_cells : Tryz.prog.cellsOf 51 = 3 := by kernel_rfl
theorem oo_int : Tryz.prog.cellsOf 3 = 1 := by kernel_rfl
theorem oo_str : Tryz.prog.cellsOf 9 = 1 := by kernel_rfl
theorem oo_u64 : Tryz.prog.cellsOf 26 = 1 := by kernel_rfl
theorem op_fieldsN : ∃ fs, Tryz.prog.underlying 53 = some (.struct fs) ∧ fs.toList.map (fun f => (f.type, f.offset)) = [(3, 0), (3, 1), (3, 2), (51, 3), (3, 6), (3, 7), (3, 8), (3, 9), (3, 10), (3, 11), (3, 12), (3, 13), (3, 14), (26, 15), (26, 16), (26, 17)] := ⟨_, Tryz.underlying53, by kernel_rfl⟩
theorem oaction_fields : ∃ fs, Tryz.prog.underlying 51 = some (.struct fs) ∧ fs.toList.map (fun f => (f.type, f.offset)) = [(9, 0), (9, 1), (9, 2)] := ⟨_, Tryz.underlying51, by kernel_rfl⟩
theorem ofield_of {fs : Array Field} {l : List (TypeId × Nat)} (h : fs.toList.map (fun f => (f.type, f.offset)) = l) {j : Nat} {t : TypeId} {o : Nat} (ht : l[j]? = some (t, o)) : ∃ f, fs[j]? = some f ∧ f.type = t ∧ f.offset = o := by
  rw [← h, List.getElem?_map] at ht
  cases hj : fs.toList[j]? with
  | none => rw [hj] at ht; cases ht
  | some f =>
    rw [hj] at ht
    simp at ht
    exact ⟨f, by simpa using hj, ht.1, ht.2⟩
section
variable {H : Type} {enc : TypeId × Value → H} {W : World} {base : Nat} {sp : Nat → Bool} {hd : Bool}
theorem odec_int {n : Nat} {cs : List Value} {y : Option (DataW H × List MemPlace)} {ys : DataW H × List MemPlace} (h : DataW.trod enc Tryz.prog W base sp hd n 3 cs = y) (hy : y = some ys) : ∃ k : Int, cs = [.int .i64 k] := by
  subst hy
  obtain ⟨k, e, _, _⟩ := DataW.trod_int Tryz.underlying3 h
  exact ⟨k, e⟩
set_option maxRecDepth 100000 in
theorem odec_u64 {n : Nat} {cs : List Value} {y : Option (DataW H × List MemPlace)} {ys : DataW H × List MemPlace} (h : DataW.trod enc Tryz.prog W base sp hd n 26 cs = y) (hy : y = some ys) : ∃ k : Int, cs = [.int .u64 k] ∧ 0 ≤ k ∧ k ≤ 18446744073709551615 := by
  subst hy
  obtain ⟨k, e, _, hw⟩ := DataW.trod_int Tryz.underlying26 h
  have b := bounds_u64 hw
  exact ⟨k, e, b.1, b.2⟩
theorem odec_string {n : Nat} {cs : List Value} {y : Option (DataW H × List MemPlace)} {ys : DataW H × List MemPlace} (h : DataW.trod enc Tryz.prog W base sp hd n 9 cs = y) (hy : y = some ys) : ∃ s : ByteArray, cs = [.string s] := by
  subst hy
  obtain ⟨s, e, rfl, _⟩ := DataW.trod_string Tryz.underlying9 h
  exact ⟨s, e⟩
set_option maxRecDepth 100000 in
theorem odec_action {n : Nat} {cs : List Value} {y : Option (DataW H × List MemPlace)} {ys : DataW H × List MemPlace} (h : DataW.trod enc Tryz.prog W base sp hd n 51 cs = y) (hy : y = some ys) : ∃ k c m : ByteArray, cs = [.string k, .string c, .string m] := by
  subst hy
  obtain ⟨fs, hu, hfs⟩ := oaction_fields
  obtain ⟨zs, m, _, hy, hlen, hyl, hf⟩ := DataW.trod_struct hu h
  have hsz : fs.size = 3 := by have := congrArg List.length hfs; simpa using this
  rw [oaction_cells] at hlen
  have hzs (j : Nat) (hj : j < 3) : zs[j]? = some (zs[j]'(by omega)) := List.getElem?_eq_getElem (by omega)
  obtain ⟨u0, u1, u2, rfl⟩ : ∃ u0 u1 u2, cs = [u0, u1, u2] := by
    match cs, hlen with
    | [u0, u1, u2], _ => exact ⟨_, _, _, rfl⟩
  have key (j : Nat) (t : TypeId) (o : Nat) (ht : ([(9, 0), (9, 1), (9, 2)] : List (TypeId × Nat))[j]? = some (t, o)) (h1 : Tryz.prog.cellsOf t = 1) : DataW.trod enc Tryz.prog W base sp hd m t (([u0, u1, u2].drop o).take 1) = zs[j]? := by
    obtain ⟨f, hj, rfl, rfl⟩ := ofield_of hfs ht
    have := hf j f hj
    rw [h1] at this
    exact this
  obtain ⟨k0, e0⟩ := odec_string (key 0 _ _ rfl oo_str) (hzs 0 (by omega))
  obtain ⟨k1, e1⟩ := odec_string (key 1 _ _ rfl oo_str) (hzs 1 (by omega))
  obtain ⟨k2, e2⟩ := odec_string (key 2 _ _ rfl oo_str) (hzs 2 (by omega))
  simp at e0 e1 e2
  subst e0 e1 e2
  exact ⟨_, _, _, rfl⟩
set_option maxRecDepth 100000 in
theorem odec_op {n : Nat} {cs : List Value} {y : DataW H × List MemPlace} (h : DataW.trod enc Tryz.prog W base sp hd n 53 cs = some y) : ∃ x : Opr, cs = (opA x).toList := by
  obtain ⟨fs, hu, hfs⟩ := op_fieldsN
  obtain ⟨ys, m, _, hy, hlen, hyl, hf⟩ := DataW.trod_struct hu h
  have hsz : fs.size = 16 := by have := congrArg List.length hfs; simpa using this
  rw [op_cellsN] at hlen
  have hys (j : Nat) (hj : j < 16) : ys[j]? = some (ys[j]'(by omega)) := List.getElem?_eq_getElem (by omega)
  obtain ⟨u0, u1, u2, u3, u4, u5, u6, u7, u8, u9, u10, u11, u12, u13, u14, u15, u16, u17, rfl⟩ : ∃ u0 u1 u2 u3 u4 u5 u6 u7 u8 u9 u10 u11 u12 u13 u14 u15 u16 u17, cs = [u0, u1, u2, u3, u4, u5, u6, u7, u8, u9, u10, u11, u12, u13, u14, u15, u16, u17] := by
    match cs, hlen with
    | [u0, u1, u2, u3, u4, u5, u6, u7, u8, u9, u10, u11, u12, u13, u14, u15, u16, u17], _ => exact ⟨_, _, _, _, _, _, _, _, _, _, _, _, _, _, _, _, _, _, rfl⟩
  have key (j : Nat) (t : TypeId) (o : Nat) (k : Nat) (ht : ([(3, 0), (3, 1), (3, 2), (51, 3), (3, 6), (3, 7), (3, 8), (3, 9), (3, 10), (3, 11), (3, 12), (3, 13), (3, 14), (26, 15), (26, 16), (26, 17)] : List (TypeId × Nat))[j]? = some (t, o)) (h1 : Tryz.prog.cellsOf t = k) : DataW.trod enc Tryz.prog W base sp hd m t (([u0, u1, u2, u3, u4, u5, u6, u7, u8, u9, u10, u11, u12, u13, u14, u15, u16, u17].drop o).take k) = ys[j]? := by
    obtain ⟨f, hj, rfl, rfl⟩ := ofield_of hfs ht
    have := hf j f hj
    rw [h1] at this
    exact this
  obtain ⟨k0, e0⟩ := odec_int (key 0 _ _ 1 rfl oo_int) (hys 0 (by omega))
  obtain ⟨k1, e1⟩ := odec_int (key 1 _ _ 1 rfl oo_int) (hys 1 (by omega))
  obtain ⟨k2, e2⟩ := odec_int (key 2 _ _ 1 rfl oo_int) (hys 2 (by omega))
  obtain ⟨ka, kb, kc, e3⟩ := odec_action (key 3 _ _ 3 rfl oaction_cells) (hys 3 (by omega))
  obtain ⟨k4, e4⟩ := odec_int (key 4 _ _ 1 rfl oo_int) (hys 4 (by omega))
  obtain ⟨k5, e5⟩ := odec_int (key 5 _ _ 1 rfl oo_int) (hys 5 (by omega))
  obtain ⟨k6, e6⟩ := odec_int (key 6 _ _ 1 rfl oo_int) (hys 6 (by omega))
  obtain ⟨k7, e7⟩ := odec_int (key 7 _ _ 1 rfl oo_int) (hys 7 (by omega))
  obtain ⟨k8, e8⟩ := odec_int (key 8 _ _ 1 rfl oo_int) (hys 8 (by omega))
  obtain ⟨k9, e9⟩ := odec_int (key 9 _ _ 1 rfl oo_int) (hys 9 (by omega))
  obtain ⟨k10, e10⟩ := odec_int (key 10 _ _ 1 rfl oo_int) (hys 10 (by omega))
  obtain ⟨k11, e11⟩ := odec_int (key 11 _ _ 1 rfl oo_int) (hys 11 (by omega))
  obtain ⟨k12, e12⟩ := odec_int (key 12 _ _ 1 rfl oo_int) (hys 12 (by omega))
  obtain ⟨k13, e13, _⟩ := odec_u64 (key 13 _ _ 1 rfl oo_u64) (hys 13 (by omega))
  obtain ⟨k14, e14, _⟩ := odec_u64 (key 14 _ _ 1 rfl oo_u64) (hys 14 (by omega))
  obtain ⟨k15, e15, _⟩ := odec_u64 (key 15 _ _ 1 rfl oo_u64) (hys 15 (by omega))
  simp only [List.drop_succ_cons, List.drop_zero, List.take_succ_cons, List.take_zero, List.cons.injEq, and_true] at e0 e1 e2 e4 e5 e6 e7 e8 e9 e10 e11 e12 e13 e14 e15 e3
  obtain ⟨ea, eb, ec⟩ := e3
  subst e0 e1 e2 e4 e5 e6 e7 e8 e9 e10 e11 e12 e13 e14 e15 ea eb ec
  exact ⟨⟨k0, k1, k2, ka, kb, kc, k4, k5, k6, k7, k8, k9, k10, k11, k12, k13, k14, k15⟩, rfl⟩
set_option maxRecDepth 100000 in
theorem open_op {r : Reach} {b0 : Nat} {v : Value} {d : DataW H} {p : List MemPlace} (hv : Value.okWide Tryz.prog W r b0 53 v) (h : DataW.Trod enc Tryz.prog W base sp hd 53 v d p) : ∃ x : Opr, v = .agg (opA x) := by
  obtain ⟨fs, hu, hfs⟩ := op_fieldsN
  obtain ⟨cs, rfl, hsz⟩ := okWide_struct hu hv
  obtain ⟨fuel, hf⟩ := h
  obtain ⟨x, hx⟩ := odec_op hf
  refine ⟨x, ?_⟩
  have : cs.toList = (opA x).toList := hx
  rw [show cs = opA x from Array.toList_inj.1 this]
end
end Go.Proofs.YtjmlimogmmikoaaGreatDoor
