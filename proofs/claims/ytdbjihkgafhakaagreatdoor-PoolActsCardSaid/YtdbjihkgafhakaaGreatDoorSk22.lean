/-
  ref17 (pools): Drop: the walk.
  ref17 (pools): Enter, where the need is new: the walk.
-/
import Derived.Test.YtdbjihkgafhakaaGreatDoorSk21
import Derived.Lib.QuietBelow
import Derived.BigQuiet
import Derived.StillTailTactics
import Derived.Deep.RegionHeld3
namespace Go.Proofs.YtdbjihkgafhakaaGreatDoor
open Go.RowKit Go.Sort
variable {G : Nat → Prop}
set_option maxRecDepth 100000 in
set_option maxHeartbeats 8000000 in
theorem r17Drop_none (E : Ent) (b : Nat) (x : PX) (next : Int) (v : Value) (l : List QP) (w : World) (h : RefP G w b x next v l) (hno : placeS E.need (l.map QP.name) = -1 ∨ E.cls < 0 ∨ (x.classes : Int) ≤ E.cls) :
    Calls Tryz.prog 43 #[.pointer (some ⟨b, 0, none⟩), entV E] w (fun e w' => e = .returned (.bool false) ∧ Below w.heap.size w w') := by
  have HR := Lib.hid h
  obtain ⟨I, hI⟩ : ∃ I : Int, placeS E.need (l.map QP.name) = I := ⟨_, rfl⟩
  have HI := Lib.hid hI
  have hg : decide (I < 0) = true ∨ (decide (I < 0) = false ∧ decide (E.cls < 0) = true) ∨ (decide (I < 0) = false ∧ decide (E.cls < 0) = false ∧ decide ((x.classes : Int) ≤ E.cls) = true) := by
    rw [hI] at hno
    by_cases h0 : I < 0
    · exact .inl (decide_eq_true h0)
    · by_cases h1 : E.cls < 0
      · exact .inr (.inl ⟨decide_eq_false h0, decide_eq_true h1⟩)
      · exact .inr (.inr ⟨decide_eq_false h0, decide_eq_false h1, decide_eq_true (by omega)⟩)
  have HGG := Lib.hid hg
  clear h hno hI hg
  unfold entV
  rw [entC_def]
  go_enter Tryz.func43, Tryz.ntmps43
  go_upto_region 1 with fail
  obtain ⟨w1, hw1⟩ : ∃ w1 : World, w1 = w.alloc (.cells #[.string E.need, .int .i64 E.cls, .int .i64 E.ten, .int .i64 E.tw, .int .i64 E.inv, .int .i64 E.iw, .int .i64 E.id, .int .i64 E.cost] 25) := ⟨_, rfl⟩
  obtain ⟨bx, hbx⟩ : ∃ bx : Nat, bx = w.heap.size := ⟨_, rfl⟩
  rw [← hw1, ← hbx]
  have HB1 := Lib.hid (show Below w.heap.size w w1 by rw [hw1]; exact box_below)
  have hx1 : w1.heap[bx]? = some (.cells (entC E) 25 (0, 0)) := by rw [hw1, hbx]; exact fr_alloc_at
  have HX1 := Lib.hid hx1
  have HBX := Lib.hid (show w.heap.size ≤ bx by omega)
  have HR1 := Lib.hid (HR.out.below HB1.out)
  have x0 := cell_regrown (show w1.cell? ⟨bx, 0, none⟩ = some (.string E.need) from fr_cell_of_heap hx1 rfl)
  have b0 := cell_regrown (show w1.cell? ⟨b, 0, none⟩ = some (.int .i64 x.pools) from fr_cell_of_heap HR1.out.head rfl)
  have b1 := cell_regrown (show w1.cell? ⟨b, 1, none⟩ = some (.int .i64 x.classes) from fr_cell_of_heap HR1.out.head rfl)
  have b2 := cell_regrown (show w1.cell? ⟨b, 2, none⟩ = some (.int .i64 x.q) from fr_cell_of_heap HR1.out.head rfl)
  have b3 := cell_regrown (show w1.cell? ⟨b, 3, none⟩ = some (.int .i64 next) from fr_cell_of_heap HR1.out.head rfl)
  have b4 := cell_regrown (show w1.cell? ⟨b, 4, none⟩ = some v from fr_cell_of_heap HR1.out.head rfl)
  have hfind : ∀ (d : Nat) (os : Array Obj), Calls Tryz.prog 50 #[.agg #[.int .i64 x.pools, .int .i64 x.classes, .int .i64 x.q, .int .i64 next, v], .string E.need] (grow (redrawn w1 d) os) fun e w' => e = .returned (.int .i64 I) ∧ Below (grow (redrawn w1 d) os).heap.size (grow (redrawn w1 d) os) w' := fun d os => by
    have h := r17Find_any E.need x next v l _ (HR1.out.below (below_regrown w1 d os)).rows (by have := HR.out.few; omega)
    rw [HI.out] at h
    exact h
  have HFIND := Lib.hid hfind
  clear hw1 hbx hx1 hfind
  refine wp_region_quiet_below (by kernel_rfl) (by kernel_rfl) ?_
  repeat (go_big_quiet_step (exact Calls.regrown_of (HFIND.out _ _)))
  refine wpQuiet_nil ?_
  rintro _ ⟨⟨dq, osq⟩, rfl⟩
  obtain ⟨w2, hw2⟩ : ∃ w2 : World, w2 = grow (redrawn w1 dq) osq := ⟨_, rfl⟩
  have HB2 := Lib.hid (HB1.out.trans ((show Below w1.heap.size w1 w2 by rw [hw2]; exact below_regrown w1 dq osq).mono HB1.out.size) : Below w.heap.size w w2)
  have hx2 : w2.heap[bx]? = some (.cells (entC E) 25 (0, 0)) := ((show Below w1.heap.size w1 w2 by rw [hw2]; exact below_regrown w1 dq osq).block bx (fp_lt_of_heap HX1.out)).trans HX1.out
  rw [show (grow (redrawn w1 (Regrown.mk dq osq).d) (Regrown.mk dq osq).os) = w2 from hw2.symm]
  have HX2 := Lib.hid hx2
  have HR2 := Lib.hid (HR.out.below HB2.out)
  clear hw2 x0 b0 b1 b2 b3 b4 HFIND
  have y1 := cell_regrown (show w2.cell? ⟨bx, 1, none⟩ = some (.int .i64 E.cls) from fr_cell_of_heap hx2 rfl)
  have c1 := cell_regrown (show w2.cell? ⟨b, 1, none⟩ = some (.int .i64 x.classes) from fr_cell_of_heap HR2.out.head rfl)
  clear hx2
  go_upto_region 2 with fail
  rcases HGG.out with g0 | ⟨g0, g1⟩ | ⟨g0, g1, g2⟩
  all_goals
    refine wp_region_quiet_below (by kernel_rfl) (by kernel_rfl) ?_
    repeat (go_big_quiet_step (fail))
    refine wpQuiet_nil ?_
    rintro _ ⟨⟨dq, osq⟩, rfl⟩
    obtain ⟨w3, hw3⟩ : ∃ w3 : World, w3 = grow (redrawn w2 dq) osq := ⟨_, rfl⟩
    have HB3 := Lib.hid (HB2.out.trans ((show Below w2.heap.size w2 w3 by rw [hw3]; exact below_regrown w2 dq osq).mono HB2.out.size))
    rw [show (grow (redrawn w2 (Regrown.mk dq osq).d) (Regrown.mk dq osq).os) = w3 from hw3.symm]
    clear hw3 y1 c1
    go_wp2_with fail
    go_ret
    exact ⟨rfl, HB3.out⟩
set_option maxRecDepth 100000 in
set_option maxHeartbeats 8000000 in
theorem r17Drop_some (E : Ent) (k j : Nat) (p : QP) (y : QS) (b : Nat) (x : PX) (next : Int) (v : Value) (l : List QP) (w : World) (h : RefP G w b x next v l) (hn : placeS E.need (l.map QP.name) = k) (hk : l[k]? = some p) (hj : E.cls = j) (hy : p.sh[j]? = some y) (hcl : x.classes ≤ 1000) (hu : 0 < p.uses) (hfull : ∀ t ∈ y.l.map Prod.fst, ∀ r ∈ t.rows, r.its ≠ []) :
    Calls Tryz.prog 43 #[.pointer (some ⟨b, 0, none⟩), entV E] w (QDocPost G b x next ((l.map QP.abs).set k { p.abs with sh := (p.sh.map QS.abs).set j ((dropT E.ten E.inv E.id y.gv (y.l.map Prod.fst)).2.1, (dropT E.ten E.inv E.id y.gv (y.l.map Prod.fst)).2.2) }) (.bool (dropT E.ten E.inv E.id y.gv (y.l.map Prod.fst)).1) w) := by
  have HR := Lib.hid h
  obtain ⟨I, hI⟩ : ∃ I : Int, I = k := ⟨_, rfl⟩
  have HI := Lib.hid (hn.trans hI.symm)
  have hI0 : ¬ I < 0 := by omega
  have HL := Lib.hid (h.lens p (List.mem_of_getElem? hk))
  have hjl : j < p.sh.length := (List.getElem?_eq_some_iff.1 hy).1
  have g1 : decide ((j : Int) < 0) = false := decide_eq_false (by omega)
  have g2 : decide (x.classes ≤ j) = false := decide_eq_false (by have := HL.out; omega)
  have HII := Lib.hid hI
  have HK := Lib.hid hk
  have HJ := Lib.hid hj
  have HY := Lib.hid hy
  have HCL := Lib.hid (And.intro hcl hu)
  have HFU := Lib.hid hfull
  have HJL := Lib.hid hjl
  clear h hn hI hk hj hy hcl hu hfull hjl
  unfold entV
  rw [entC_def]
  go_enter Tryz.func43, Tryz.ntmps43
  go_upto_region 1 with fail
  obtain ⟨w1, hw1⟩ : ∃ w1 : World, w1 = w.alloc (.cells #[.string E.need, .int .i64 E.cls, .int .i64 E.ten, .int .i64 E.tw, .int .i64 E.inv, .int .i64 E.iw, .int .i64 E.id, .int .i64 E.cost] 25) := ⟨_, rfl⟩
  obtain ⟨bx, hbx⟩ : ∃ bx : Nat, bx = w.heap.size := ⟨_, rfl⟩
  rw [← hw1, ← hbx]
  have HB1 := Lib.hid (show Below w.heap.size w w1 by rw [hw1]; exact box_below)
  have hx1 : w1.heap[bx]? = some (.cells (entC E) 25 (0, 0)) := by rw [hw1, hbx]; exact fr_alloc_at
  have HX1 := Lib.hid hx1
  have HBX := Lib.hid (show w.heap.size ≤ bx by omega)
  have HR1 := Lib.hid (HR.out.below HB1.out)
  have x0 := cell_regrown (show w1.cell? ⟨bx, 0, none⟩ = some (.string E.need) from fr_cell_of_heap hx1 rfl)
  have b0 := cell_regrown (show w1.cell? ⟨b, 0, none⟩ = some (.int .i64 x.pools) from fr_cell_of_heap HR1.out.head rfl)
  have b1 := cell_regrown (show w1.cell? ⟨b, 1, none⟩ = some (.int .i64 x.classes) from fr_cell_of_heap HR1.out.head rfl)
  have b2 := cell_regrown (show w1.cell? ⟨b, 2, none⟩ = some (.int .i64 x.q) from fr_cell_of_heap HR1.out.head rfl)
  have b3 := cell_regrown (show w1.cell? ⟨b, 3, none⟩ = some (.int .i64 next) from fr_cell_of_heap HR1.out.head rfl)
  have b4 := cell_regrown (show w1.cell? ⟨b, 4, none⟩ = some v from fr_cell_of_heap HR1.out.head rfl)
  have hfind : ∀ (d : Nat) (os : Array Obj), Calls Tryz.prog 50 #[.agg #[.int .i64 x.pools, .int .i64 x.classes, .int .i64 x.q, .int .i64 next, v], .string E.need] (grow (redrawn w1 d) os) fun e w' => e = .returned (.int .i64 I) ∧ Below (grow (redrawn w1 d) os).heap.size (grow (redrawn w1 d) os) w' := fun d os => by
    have h := r17Find_any E.need x next v l _ (HR1.out.below (below_regrown w1 d os)).rows (by have := HR.out.few; omega)
    rw [HI.out] at h
    exact h
  have HFIND := Lib.hid hfind
  clear hw1 hbx hx1 hfind
  refine wp_region_quiet_below (by kernel_rfl) (by kernel_rfl) ?_
  repeat (go_big_quiet_step (exact Calls.regrown_of (HFIND.out _ _)))
  refine wpQuiet_nil ?_
  rintro _ ⟨⟨dq, osq⟩, rfl⟩
  obtain ⟨w2, hw2⟩ : ∃ w2 : World, w2 = grow (redrawn w1 dq) osq := ⟨_, rfl⟩
  have HB2 := Lib.hid (HB1.out.trans ((show Below w1.heap.size w1 w2 by rw [hw2]; exact below_regrown w1 dq osq).mono HB1.out.size) : Below w.heap.size w w2)
  have hx2 : w2.heap[bx]? = some (.cells (entC E) 25 (0, 0)) := ((show Below w1.heap.size w1 w2 by rw [hw2]; exact below_regrown w1 dq osq).block bx (fp_lt_of_heap HX1.out)).trans HX1.out
  rw [show (grow (redrawn w1 (Regrown.mk dq osq).d) (Regrown.mk dq osq).os) = w2 from hw2.symm]
  have HX2 := Lib.hid hx2
  have HR2 := Lib.hid (HR.out.below HB2.out)
  clear hw2 x0 b0 b1 b2 b3 b4 HFIND
  have y1 := cell_regrown (show w2.cell? ⟨bx, 1, none⟩ = some (.int .i64 j) by rw [← HJ.out]; exact fr_cell_of_heap hx2 rfl)
  have c1 := cell_regrown (show w2.cell? ⟨b, 1, none⟩ = some (.int .i64 x.classes) from fr_cell_of_heap HR2.out.head rfl)
  clear hx2
  have g0 : decide (I < 0) = false := decide_eq_false hI0
  go_upto_region 2 with fail
  refine wp_region_quiet_below (by kernel_rfl) (by kernel_rfl) ?_
  repeat (go_big_quiet_step (fail))
  refine wpQuiet_nil ?_
  rintro _ ⟨⟨dq, osq⟩, rfl⟩
  obtain ⟨w3, hw3⟩ : ∃ w3 : World, w3 = grow (redrawn w2 dq) osq := ⟨_, rfl⟩
  have HB23 := Lib.hid (show Below w2.heap.size w2 w3 by rw [hw3]; exact below_regrown w2 dq osq)
  have HB3 := Lib.hid (HB2.out.trans (HB23.out.mono HB2.out.size))
  rw [show (grow (redrawn w2 (Regrown.mk dq osq).d) (Regrown.mk dq osq).os) = w3 from hw3.symm]
  clear hw3 y1 c1 g0 g1 g2
  rw [HII.out]
  have hx3 := (HB23.out.block bx (fp_lt_of_heap HX2.out)).trans HX2.out
  have HX3 := Lib.hid hx3
  have HR3 := Lib.hid (HR.out.below HB3.out)
  obtain ⟨g, off, cap, hv, _, hc⟩ := HR3.out.rows.at encQP_len (by decide) HK.out
  have HP3 := Lib.hid (HR3.out.inv p (List.mem_of_getElem? HK.out))
  obtain ⟨g2, off2, cap2, hv2, _, hc2⟩ := HP3.out.hv.at (encQS_len x.q) (by decide) HY.out
  obtain ⟨ya, yc, hyv, -⟩ := (HP3.out.inv y (List.mem_of_getElem? HY.out)).form
  have HVF := Lib.hid (And.intro hv (And.intro hv2 hyv))
  have x1 : w3.cell? ⟨bx, 1, none⟩ = some (.int .i64 j) := by rw [← HJ.out]; exact fr_cell_of_heap hx3 rfl
  have d4 : w3.cell? ⟨b, 4, none⟩ = some (.slice (some ⟨g, off, none⟩) l.length cap) := by rw [← hv]; exact fr_cell_of_heap HR3.out.head rfl
  have r3 : w3.cell? ⟨g, off + k * 4 + 3, none⟩ = some (.slice (some ⟨g2, off2, none⟩) p.sh.length cap2) := by rw [← hv2]; exact hc 3 _ rfl
  have s0 : w3.cell? ⟨g2, off2 + j * 3, none⟩ = some (.int .i64 x.q) := hc2 0 _ rfl
  have s1 : w3.cell? ⟨g2, off2 + j * 3 + 1, none⟩ = some (.slice ya y.l.length yc) := by rw [← hyv]; exact hc2 1 _ rfl
  have s2 : w3.cell? ⟨g2, off2 + j * 3 + 2, none⟩ = some (.bool y.gv) := hc2 2 _ rfl
  have hkl : (k : Int) < (l.length : Int) := by have := (List.getElem?_eq_some_iff.1 HK.out).1; omega
  have hjl : (j : Int) < (p.sh.length : Int) := by have := HJL.out; omega
  have lb := fp_lt_of_heap HR3.out.head
  have lx := fp_lt_of_heap hx3
  have lg := World.block_lt_of_cell? w3 _ r3
  have lg2 := World.block_lt_of_cell? w3 _ s0
  clear hx3 hc hc2 hv hv2 hyv
  go_upto_region 4 with fail
  go_region
  clear x1 d4 r3 s0 s1 s2 hkl hjl lb lx lg lg2
  obtain ⟨w4, hw4⟩ : ∃ w4 : World, w4 = (w3.alloc (.cells #[.int .i64 x.q, .slice ya y.l.length yc, .bool y.gv] 100)).drew := ⟨_, rfl⟩
  obtain ⟨sb, hsb⟩ : ∃ sb : Nat, sb = w3.heap.size := ⟨_, rfl⟩
  rw [← hw4, ← hsb]
  have HB34 := Lib.hid (show Below w3.heap.size w3 w4 by rw [hw4]; exact ⟨rfl, rfl, rfl, by show _ ≤ (w3.alloc _).heap.size; simp, fun k hk => Below.heap_alloc _ _ _ hk⟩)
  have HB4 := Lib.hid (HB3.out.trans (HB34.out.mono HB3.out.size))
  have HSB := Lib.hid (show w3.heap.size ≤ sb by omega)
  have HRS := Lib.hid (HR.out.share (List.mem_of_getElem? HK.out) (List.mem_of_getElem? HY.out) HB4.out (by have := HB3.out.size; omega) (show w4.heap[sb]? = some (.cells (encQS x.q y).toArray 100 (0, 0)) by rw [hw4, hsb, show (encQS x.q y).toArray = #[.int .i64 x.q, .slice ya y.l.length yc, .bool y.gv] by unfold encQS; rw [HVF.out.2.2]]; exact fr_alloc_at))
  have HX4 := Lib.hid ((HB34.out.block bx (fp_lt_of_heap HX3.out)).trans HX3.out)
  clear hw4 hsb
  have e2 : w4.cell? ⟨bx, 2, none⟩ = some (.int .i64 E.ten) := fr_cell_of_heap HX4.out rfl
  have e4 : w4.cell? ⟨bx, 4, none⟩ = some (.int .i64 E.inv) := fr_cell_of_heap HX4.out rfl
  have e6 : w4.cell? ⟨bx, 6, none⟩ = some (.int .i64 E.id) := fr_cell_of_heap HX4.out rfl
  go_wp2_with fail
  refine (r16Drop_any E.ten E.inv E.id sb x.q y.gv y.v y.l w4 HRS.out HFU.out).mono ?_
  rintro e w5 ⟨rfl, hF5, v5, l5, hR5, hm5⟩
  clear e2 e4 e6
  obtain ⟨gd, hgd⟩ : ∃ gd, gd = (dropT E.ten E.inv E.id y.gv (y.l.map Prod.fst)).2.1 := ⟨_, rfl⟩
  rw [← hgd] at hR5
  have HGD := Lib.hid hgd
  clear hgd
  have HR5 := Lib.hid hR5
  have HM5 := Lib.hid hm5
  have hb45 : Below w3.heap.size w4 w5 := hF5.below HB34.out.size (fun j hj e => by have := HSB.out; omega)
  have HB5 := Lib.hid (HB4.out.trans (hb45.mono HB3.out.size))
  have hx5 := (hb45.block bx (fp_lt_of_heap HX3.out)).trans HX4.out
  have HRP5 := Lib.hid (HR.out.below HB5.out)
  obtain ⟨va, vc, hv5, -⟩ := hR5.rows.form
  obtain ⟨g, off, cap, hv, _, hc⟩ := HRP5.out.rows.at encQP_len (by decide) HK.out
  obtain ⟨so, hso⟩ : ∃ so, p.served[j]? = some so := ⟨_, List.getElem?_eq_getElem (by have := HL.out; have := HJL.out; omega)⟩
  have HP5 := Lib.hid (HRP5.out.inv p (List.mem_of_getElem? HK.out))
  obtain ⟨g2, off2, cap2, hv2, _, hc2⟩ := HP5.out.sv.at encZ_len (by decide) hso
  have HSO := Lib.hid hso
  have x1 : w5.cell? ⟨bx, 1, none⟩ = some (.int .i64 j) := by rw [← HJ.out]; exact fr_cell_of_heap hx5 rfl
  have d4 : w5.cell? ⟨b, 4, none⟩ = some (.slice (some ⟨g, off, none⟩) l.length cap) := by rw [← hv]; exact fr_cell_of_heap HRP5.out.head rfl
  have r2 : w5.cell? ⟨g, off + k * 4 + 2, none⟩ = some (.slice (some ⟨g2, off2, none⟩) p.served.length cap2) := by rw [← hv2]; exact hc 2 _ rfl
  have z0 : w5.cell? ⟨g2, off2 + j, none⟩ = some (.int .i64 so) := by have := hc2 0 _ rfl; simpa using this
  have t0 : w5.cell? ⟨sb, 0, none⟩ = some (.int .i64 x.q) := fr_cell_of_heap hR5.head rfl
  have t1 : w5.cell? ⟨sb, 1, none⟩ = some (.slice va l5.length vc) := by rw [← hv5]; exact fr_cell_of_heap hR5.head rfl
  have t2 : w5.cell? ⟨sb, 2, none⟩ = some (.bool gd) := fr_cell_of_heap hR5.head rfl
  have hkl : (k : Int) < (l.length : Int) := by have := (List.getElem?_eq_some_iff.1 HK.out).1; omega
  have hjs : (j : Int) < (p.served.length : Int) := by have := (List.getElem?_eq_some_iff.1 hso).1; omega
  have HV5 := Lib.hid hv5
  clear hF5 hR5 hm5 hb45 hx5 hv5 hv hc hso hv2 hc2
  go_upto_region 6 with fail
  go_still_tail 17, (by kernel_rfl)
  clear x1 d4 r2 z0 t0 t1 t2 hkl hjs
  obtain ⟨w6, hw6⟩ : ∃ w6 : World, w6 = w5.drew := ⟨_, rfl⟩
  change wpList _ _ _ _ _ w5.drew
  rw [← hw6]
  have HB56 := Lib.hid (show Below w5.heap.size w5 w6 by rw [hw6]; exact ⟨rfl, rfl, rfl, Nat.le_refl _, fun _ _ => rfl⟩)
  have HB6 := Lib.hid (HB5.out.trans (HB56.out.mono HB5.out.size))
  have hset := r17Set_any k j p ⟨gd, v5, l5⟩ so b x next v l w6 (HR.out.below HB6.out) HK.out (by have := HL.out; have := HJL.out; omega) HCL.out.1 HCL.out.2 (HR5.out.below HB56.out).value.1 (HR5.out.below HB56.out).value.2
  rw [show (encQS x.q ⟨gd, v5, l5⟩).toArray = #[.int .i64 x.q, .slice va l5.length vc, .bool gd] by unfold encQS; simp only [HV5.out]] at hset
  have HSET := Lib.hid hset
  clear hw6 hset
  go_wp2_with fail
  refine HSET.out.mono ?_
  rintro e w7 ⟨rfl, hF7, v7, l7, hR7, hm7⟩
  have HF7 := Lib.hid ((Fp.of_below HB6.out).trans hF7 (fun _ _ h => h))
  have HR7 := Lib.hid hR7
  have HM7 := Lib.hid hm7
  clear hF7 hR7 hm7
  go_wp2_with fail
  go_ret
  exact ⟨rfl, HF7.out, v7, l7, HR7.out, by rw [HM7.out, lset_id HSO.out]; unfold QS.abs; rw [HM5.out, HGD.out]; rfl⟩
end Go.Proofs.YtdbjihkgafhakaaGreatDoor
namespace Go.Proofs.YtdbjihkgafhakaaGreatDoor
open Go.RowKit Go.Sort
variable {G : Nat → Prop}
def zerosI (next : Int) (k : Nat) : List Int := (List.range k).map (fun (j : Nat) => next + j)
theorem zerosI_succ (next : Int) (k : Nat) : zerosI next (k + 1) = zerosI next k ++ [next + k] := by
  unfold zerosI
  rw [List.range_succ, List.map_append]
  rfl
theorem zerosI_len (next : Int) (k : Nat) : (zerosI next k).length = k := by simp [zerosI]
def qs0 : QS := ⟨false, .slice none 0 0, []⟩
theorem own_grown {w w' : World} {base size : Nat} {e : TypeId} {v : Value} {n : Nat} {xs : List Value} {row : Option Nat} (h : w.ownsRow base e size v n xs) (hg : w.grownBy w' row) (hne : v.ownBlock = none ∨ v.ownBlock ≠ row) : w'.ownsRow base e size v n xs := by
  obtain ⟨hl, ⟨rfl, rfl⟩ | ⟨g, cap, cur, rfl, hb, hh, hr⟩⟩ := h
  · exact ⟨hl, .inl ⟨rfl, rfl⟩⟩
  · refine ⟨hl, .inr ⟨g, cap, cur, rfl, hb, (hg.block g (Array.getElem?_eq_some_iff.1 hh).1 (fun e => ?_)).trans hh, hr⟩⟩
    rcases hne with h | h
    · cases h
    · exact h e
structure NewAt (w : World) (b xb : Nat) (s : ByteArray) (x : PX) (next : Int) (v : Value) (i j m : Nat) (wr : World) : Prop where
  cells : ∃ sv hv, wr.heap[xb]? = some (.cells #[.string s, .int .i64 1, sv, hv] 55 (0, 0)) ∧ wr.ownsRow (xb + 1) 3 1 sv i ((zerosI next i).flatMap encZ) ∧ wr.ownsRow (xb + 1) 100 3 hv j ((List.replicate j qs0).flatMap (encQS x.q))
  head : wr.heap[b]? = some (.cells (pC x (next + m) v) 45 (0, 0))
  fp : Fp (fun j => j = b) w wr
  lo : w.heap.size ≤ xb
  bl : b < w.heap.size
section
variable {w wr w9 : World} {b xb : Nat} {s : ByteArray} {x : PX} {next : Int} {v sv hv v9 : Value} {i j m : Nat} {o : Obj}
theorem NewAt.served (h : NewAt w b xb s x next v i j m wr) (hx : wr.heap[xb]? = some (.cells #[.string s, .int .i64 1, sv, hv] 55 (0, 0))) (hos : wr.ownsRow (xb + 1) 3 1 sv i ((zerosI next i).flatMap encZ)) (hoh : wr.ownsRow (xb + 1) 100 3 hv j ((List.replicate j qs0).flatMap (encQS x.q)))
    (ho9 : w9.ownsRow (xb + 1) 3 1 v9 (i + 1) ((zerosI next i).flatMap encZ ++ encZ (next + i))) (hg : (wr.alloc o).grownBy w9 sv.ownBlock) : NewAt w b xb s x next v (i + 1) j m (w9.setCell ⟨xb, 2, none⟩ v9) := by
  have hxl := fp_lt_of_heap hx
  have hbl := fp_lt_of_heap h.head
  have hlo := h.lo
  have hbl0 := h.bl
  have hown : ∀ k, sv.ownBlock = some k → xb + 1 ≤ k := own_block hos
  have hx9 : w9.heap[xb]? = some (.cells #[.string s, .int .i64 1, sv, hv] 55 (0, 0)) := (hg.block xb (by simp; omega) (fun e => by have := hown xb e.symm; omega)).trans (fr_alloc_old hx)
  have hh9 : w9.heap[b]? = some (.cells (pC x (next + m) v) 45 (0, 0)) := (hg.block b (by simp; omega) (fun e => by have := hown b e.symm; omega)).trans (fr_alloc_old h.head)
  refine ⟨⟨v9, hv, fr_setCell_at hx9, ?_, ?_⟩, (fr_setCell_other (by omega)).trans hh9, ((h.fp.alloc o).grown hg (fun k hk e => by have := hown k e; omega)).setCell (fun hk => absurd hk (by simp; omega)) _, hlo, hbl0⟩
  · rw [zerosI_succ, List.flatMap_append]
    have := RowKit.ownsRow_setCell_below ho9 (a := ⟨xb, 2, none⟩) (by simp) v9
    simpa using this
  · refine RowKit.ownsRow_setCell_below (own_grown (hoh.alloc o) hg ?_) (by simp) _
    exact own_apart hoh hos (by decide)
theorem NewAt.shares (h : NewAt w b xb s x next v i j m wr) (hx : wr.heap[xb]? = some (.cells #[.string s, .int .i64 1, sv, hv] 55 (0, 0))) (hos : wr.ownsRow (xb + 1) 3 1 sv i ((zerosI next i).flatMap encZ)) (hoh : wr.ownsRow (xb + 1) 100 3 hv j ((List.replicate j qs0).flatMap (encQS x.q)))
    (ho9 : w9.ownsRow (xb + 1) 100 3 v9 (j + 1) ((List.replicate j qs0).flatMap (encQS x.q) ++ encQS x.q qs0)) (hg : (wr.alloc o).grownBy w9 hv.ownBlock) : NewAt w b xb s x next v i (j + 1) m (w9.setCell ⟨xb, 3, none⟩ v9) := by
  have hxl := fp_lt_of_heap hx
  have hbl := fp_lt_of_heap h.head
  have hlo := h.lo
  have hbl0 := h.bl
  have hown : ∀ k, hv.ownBlock = some k → xb + 1 ≤ k := own_block hoh
  have hx9 : w9.heap[xb]? = some (.cells #[.string s, .int .i64 1, sv, hv] 55 (0, 0)) := (hg.block xb (by simp; omega) (fun e => by have := hown xb e.symm; omega)).trans (fr_alloc_old hx)
  have hh9 : w9.heap[b]? = some (.cells (pC x (next + m) v) 45 (0, 0)) := (hg.block b (by simp; omega) (fun e => by have := hown b e.symm; omega)).trans (fr_alloc_old h.head)
  refine ⟨⟨sv, v9, fr_setCell_at hx9, ?_, ?_⟩, (fr_setCell_other (by omega)).trans hh9, ((h.fp.alloc o).grown hg (fun k hk e => by have := hown k e; omega)).setCell (fun hk => absurd hk (by simp; omega)) _, hlo, hbl0⟩
  · refine RowKit.ownsRow_setCell_below (own_grown (hos.alloc o) hg ?_) (by simp) _
    exact own_apart hos hoh (by decide)
  · rw [List.replicate_succ', List.flatMap_append]
    have := RowKit.ownsRow_setCell_below ho9 (a := ⟨xb, 3, none⟩) (by simp) v9
    simpa using this
theorem NewAt.tick (h : NewAt w b xb s x next v i j m wr) : NewAt w b xb s x next v i j (m + 1) (wr.setCell ⟨b, 3, none⟩ (.int .i64 (next + (m + 1 : Nat)))) := by
  obtain ⟨⟨sv, hv, hx, hos, hoh⟩, hh, hF, hlo, hbl⟩ := h
  exact ⟨⟨sv, hv, (fr_setCell_other (by omega)).trans hx, RowKit.ownsRow_setCell_below hos (by simp; omega) _, RowKit.ownsRow_setCell_below hoh (by simp; omega) _⟩, fr_setCell_at hh, hF.setCell (fun _ => rfl) _, hlo, hbl⟩
end
theorem RefP.tick {w wr : World} {b : Nat} {x : PX} {next next' : Int} {v : Value} {l : List QP} (h : RefP G w b x next v l) (hF : Fp (fun j => j = b) w wr) (hh : wr.heap[b]? = some (.cells (pC x next' v) 45 (0, 0))) : RefP G wr b x next' v l := by
  have hS : ∀ k, k < w.heap.size → G k → ¬ k = b := fun k _ hg e => h.nb (e ▸ hg)
  exact ⟨hh, h.rows.fp h.vg hF hS, fun p hp => (h.inv p hp).fp (h.ig p hp) hF hS, fun hl => (h.vg hl).grow hF.size, fun p hp => (h.ig p hp).grow hF.size, h.nb, fun k hk => h.up k (Nat.le_trans hF.size hk), h.few, h.lens⟩
theorem newQ_close {wr wa : World} {b : Nat} {x : PX} {next : Int} {v v3 : Value} {p : QP} {l : List QP} (hR : RefP G wr b x next v l) (hi : QPAt x.q wr p) (hg : QPG G x.q wr p) (hls : p.served.length = x.classes ∧ p.sh.length = x.classes) (hlen : l.length < 1000) (hL : Laid2 55 4 wr v3 (l.length + 1) (l.flatMap encQP ++ encQP p) wa) :
    Fp (fun j => j = b) wr (wa.setCell ⟨b, 4, none⟩ v3) ∧ ∃ v', RefP G (wa.setCell ⟨b, 4, none⟩ v3) b x next v' (l ++ [p]) := by
  have hm : ∀ {P : QP → Prop}, (∀ y ∈ l, P y) → P p → ∀ y ∈ l ++ [p], P y := fun h1 h2 y hy => by
    rcases List.mem_append.1 hy with hy | hy
    · exact h1 y hy
    · rw [List.mem_singleton] at hy
      subst hy
      exact h2
  have h := rowsQ_close (l' := l ++ [p]) (vo := v3) (next' := next) hR hL.below (hm (fun y hy => (hR.inv y hy).below hL.below) (hi.below hL.below)) (hm (fun y hy => (hR.ig y hy).grow hL.below.size) (hg.grow hL.below.size)) (by rw [List.length_append, List.length_singleton]; omega) (hm hR.lens hls)
    (by rw [List.length_append, List.length_singleton, flatQP_snoc]; exact hL.own) (Nat.le_refl _) ((Fp.refl (fun j => j = b) wa).setCell (p := ⟨b, 4, none⟩) (fun _ => rfl) v3) (fr_setCell_at ((hL.below.block b (fp_lt_of_heap hR.head)).trans hR.head))
  exact ⟨h.1, _, h.2⟩
set_option maxRecDepth 100000 in
set_option maxHeartbeats 8000000 in
theorem r17Enter_new (s : ByteArray) (b : Nat) (x : PX) (next : Int) (v : Value) (l : List QP) (w : World) (h : RefP G w b x next v l) (hp : placeS s (l.map QP.name) = -1) (hroom : (l.length : Int) < x.pools) (hcl : x.classes ≤ 1000) (hnx : 0 ≤ next ∧ next ≤ 1000000000) (hlen : l.length < 1000) :
    Calls Tryz.prog 40 #[.pointer (some ⟨b, 0, none⟩), .string s] w (QDocPost G b x (next + x.classes) (l.map QP.abs ++ [⟨s, 1, zerosI next x.classes, List.replicate x.classes (false, [])⟩]) (.int .i64 0) w) := by
  have HR := Lib.hid h
  have HP := Lib.hid hp
  have HCL := Lib.hid (And.intro hcl (And.intro hnx hlen))
  clear h hp hcl hnx hlen
  go_enter Tryz.func40, Tryz.ntmps40
  go_wp2_with (refine wpList_load_agg (cs := pC x next v) 45 HR.out.head Tryz.underlying45 rfl (pC_sz x next v) rfl _ rfl rfl ?_)
  refine (r17Find_any s x next v l w HR.out.rows (by have := HR.out.few; omega)).mono ?_
  rintro e w2 ⟨rfl, hb2⟩
  rw [HP.out]
  have HB2 := Lib.hid hb2
  have HR2 := Lib.hid (HR.out.below hb2)
  clear hb2
  obtain ⟨a, cap, hv, -⟩ := HR2.out.rows.form
  have b0 := cell_regrown (show w2.cell? ⟨b, 0, none⟩ = some (.int .i64 x.pools) from fr_cell_of_heap HR2.out.head rfl)
  have b4 := cell_regrown (show w2.cell? ⟨b, 4, none⟩ = some (.slice a l.length cap) by rw [← hv]; exact fr_cell_of_heap HR2.out.head rfl)
  have hroom2 : ¬ x.pools ≤ (l.length : Int) := by omega
  clear hv
  go_upto_region 7 with fail
  refine wp_region_quiet_below (by kernel_rfl) (by kernel_rfl) ?_
  repeat (go_big_quiet_step (fail))
  refine wpQuiet_nil ?_
  rintro _ ⟨⟨dq, osq⟩, rfl⟩
  obtain ⟨w3, hw3⟩ : ∃ w3 : World, w3 = grow (redrawn w2 dq) osq := ⟨_, rfl⟩
  have HB3 := Lib.hid (HB2.out.trans ((show Below w2.heap.size w2 w3 by rw [hw3]; exact below_regrown w2 dq osq).mono HB2.out.size))
  rw [show (grow (redrawn w2 (Regrown.mk dq osq).d) (Regrown.mk dq osq).os) = w3 from hw3.symm]
  clear hw3 b0 b4
  go_upto_region 10 with (refine wpList_store_new rfl 55 _ _ rfl w3.heap.size rfl #[.string s, .int .i64 1, .slice none 0 0, .slice none 0 0] rfl rfl (qp_sz ⟨s, 1, [], [], .slice none 0 0, .slice none 0 0⟩) rfl (by decide) ?_)
  obtain ⟨w4, hw4⟩ : ∃ w4 : World, w4 = w3.alloc (.cells #[.string s, .int .i64 1, .slice none 0 0, .slice none 0 0] 55) := ⟨_, rfl⟩
  obtain ⟨xb, hxb⟩ : ∃ xb : Nat, xb = w3.heap.size := ⟨_, rfl⟩
  rw [← hw4, ← hxb]
  have HN0 := Lib.hid (show NewAt w b xb s x next v 0 0 0 w4 from by
    have hB : Below w.heap.size w w4 := HB3.out.trans ((show Below w3.heap.size w3 w4 by rw [hw4]; exact box_below).mono HB3.out.size)
    refine ⟨⟨_, _, by rw [hw4, hxb]; exact fr_alloc_at, own_nil _ _ _ _, own_nil _ _ _ _⟩, ?_, Fp.of_below hB, by rw [hxb]; exact HB3.out.size, fp_lt_of_heap HR.out.head⟩
    rw [show next + ((0 : Nat) : Int) = next by omega]
    exact (hB.block b (fp_lt_of_heap HR.out.head)).trans HR.out.head)
  clear hw4 hxb
  go_wp2_with fail
  go_loopg [8] x.classes (fun g i wr => ∃ k : Nat, g = x.classes - k ∧ i = .int .i64 k ∧ k ≤ x.classes ∧ NewAt w b xb s x next v k k k wr)
  case atStart => exact ⟨0, rfl, rfl, Nat.zero_le _, HN0.out⟩
  case round =>
    obtain ⟨k, hg, rfl, hk, hN⟩ := hrel
    have HG := Lib.hid hg
    have HN := Lib.hid hN
    clear hg hN
    have c1 : wr.cell? ⟨b, 1, none⟩ = some (.int .i64 x.classes) := fr_cell_of_heap HN.out.head rfl
    by_cases hlt : k < x.classes
    · have hkc : (k : Int) < (x.classes : Int) := by omega
      have hbx : b < xb := Nat.lt_of_lt_of_le HN.out.bl HN.out.lo
      have HBX := Lib.hid hbx
      clear hbx
      go_upto_region 13 with fail
      clear c1
      go_cut [] (fun wx => NewAt w b xb s x next v (k + 1) k k wx)
      case first =>
        obtain ⟨sv, hv, hx, hos, hoh⟩ := HN.out.cells
        have HX := Lib.hid hx
        have HOS := Lib.hid hos
        have HOH := Lib.hid hoh
        have q2 : wr.cell? ⟨xb, 2, none⟩ = some sv := fr_cell_of_heap hx rfl
        have n3 : wr.cell? ⟨b, 3, none⟩ = some (.int .i64 (next + k)) := fr_cell_of_heap HN.out.head rfl
        have lx := fp_lt_of_heap hx
        have lb := fp_lt_of_heap HN.out.head
        obtain ⟨i1, hi0, hz0, hz1, hz2⟩ := info_parts int_info17
        have hcl := HCL.out.1
        clear hx hos hoh
        go_region_law (refine step_append_lies _ (by rfl) _ _ _ (by rfl) (xb + 1) 3 i1 _ 1 8 Tryz.underlying52 hi0 hz0 hz1 hz2 rfl (by decide) sv k ((zerosI next k).flatMap encZ) (by rfl) ((own_below HOS.out ⟨rfl, rfl, rfl, Nat.le_refl _, fun _ _ => rfl⟩).alloc _) ⟨wr.heap.size, 0, none⟩ 1 1 (encZ (next + k)) (by rfl) (by rfl) (World.news_of_block (cs := #[.int .i64 (next + k)]) (t := 3) (fr := (0, 0)) (heap_alloc_new _ _)) (by simp [Value.oneCell', encZ]) (by omega) (by unfold maxLen; omega) (by omega) (by simp; omega) (wr.heap.size + 1) (by simp) ?_; intro gg gcap w9 hown9 hgrow hat hlt9; (have hx9 : w9.heap[xb]? = some (.cells #[.string s, .int .i64 1, sv, hv] 55 (0, 0)) := (hgrow.block xb (by simp; omega) (fun e => by have := own_block HOS.out xb e.symm; omega)).trans (fr_alloc_old HX.out)); (have k2 : w9.cell? ⟨xb, 2, none⟩ = some sv := fr_cell_of_heap hx9 rfl); (have f2 : w9.frozen? ⟨xb, 2, none⟩ = false := fr_free_of_heap hx9))
        all_goals
          go_wp2_with fail
          go_meet
          exact HN.out.served HX.out HOS.out HOH.out hown9 ⟨hgrow.os, hgrow.tape, hgrow.output, hgrow.size, hgrow.block⟩
      case rest =>
        have HN1 := Lib.hid hcut
        clear hcut
        go_upto_region 14 with fail
        go_cut [] (fun wx => NewAt w b xb s x next v (k + 1) (k + 1) k wx)
        case first =>
          obtain ⟨sv, hv, hx, hos, hoh⟩ := HN1.out.cells
          have HX := Lib.hid hx
          have HOS := Lib.hid hos
          have HOH := Lib.hid hoh
          have q3 : wc.cell? ⟨xb, 3, none⟩ = some hv := fr_cell_of_heap hx rfl
          have n2 : wc.cell? ⟨b, 2, none⟩ = some (.int .i64 x.q) := fr_cell_of_heap HN1.out.head rfl
          have lx := fp_lt_of_heap hx
          have lb := fp_lt_of_heap HN1.out.head
          obtain ⟨i1, hi0, hz0, hz1, hz2⟩ := info_parts s_info
          have hcl := HCL.out.1
          clear hx hos hoh
          go_region_law (refine step_append_lies _ (by rfl) _ _ _ (by rfl) (xb + 1) 100 i1 _ 3 40 Tryz.underlying53 hi0 hz0 hz1 hz2 rfl (by decide) hv k ((List.replicate k qs0).flatMap (encQS x.q)) (by rfl) ((own_below HOH.out ⟨rfl, rfl, rfl, Nat.le_refl _, fun _ _ => rfl⟩).alloc _) ⟨wc.heap.size, 0, none⟩ 1 1 (encQS x.q qs0) (by rfl) (by rfl) (World.news_of_block (cs := #[.int .i64 x.q, .slice none 0 0, .bool false]) (t := 100) (fr := (0, 0)) (heap_alloc_new _ _)) (by simp [Value.oneCell', encQS, qs0]) (by omega) (by unfold maxLen; omega) (by omega) (by simp; omega) (wc.heap.size + 1) (by simp) ?_; intro gg gcap w9 hown9 hgrow hat hlt9; (have hx9 : w9.heap[xb]? = some (.cells #[.string s, .int .i64 1, sv, hv] 55 (0, 0)) := (hgrow.block xb (by simp; omega) (fun e => by have := own_block HOH.out xb e.symm; omega)).trans (fr_alloc_old HX.out)); (have k3 : w9.cell? ⟨xb, 3, none⟩ = some hv := fr_cell_of_heap hx9 rfl); (have f3 : w9.frozen? ⟨xb, 3, none⟩ = false := fr_free_of_heap hx9))
          all_goals
            go_wp2_with fail
            go_meet
            exact HN1.out.shares HX.out HOS.out HOH.out hown9 ⟨hgrow.os, hgrow.tape, hgrow.output, hgrow.size, hgrow.block⟩
        case rest =>
          have HN2 := Lib.hid hcut
          have n3 : wc.cell? ⟨b, 3, none⟩ = some (.int .i64 (next + k)) := fr_cell_of_heap hcut.head rfl
          have g3 : wc.frozen? ⟨b, 3, none⟩ = false := fr_free_of_heap hcut.head
          clear hcut
          have HW := Lib.hid (show wrap64 (next + (k : Int) + 1) = next + ((k + 1 : Nat) : Int) by have h1 := HCL.out; unfold wrap64; omega)
          go_upto_region 12 with fail
          rw [HW.out]
          have HN3 := Lib.hid HN2.out.tick
          clear n3 g3
          generalize wc.setCell ⟨b, 3, none⟩ (.int .i64 (next + ((k + 1 : Nat) : Int))) = w7 at HN3 ⊢
          have hcl := HCL.out.1
          go_wp2_with fail
          go_roundg (x.classes - (k + 1))
          case rel => exact ⟨k + 1, rfl, by go_num, by omega, HN3.out⟩
          case measure => have := HG.out; omega
    · obtain rfl : k = x.classes := by omega
      obtain ⟨sv, hv, hx, hos, hoh⟩ := HN.out.cells
      obtain ⟨sa, sc, hsv, -⟩ := (sl_own hos).form
      obtain ⟨ha, hc, hhv, -⟩ := (sl_own hoh).form
      have HX := Lib.hid hx
      have HR6 := Lib.hid (HR.out.tick HN.out.fp HN.out.head)
      obtain ⟨p', hp'⟩ : ∃ p' : QP, p' = ⟨s, 1, zerosI next x.classes, List.replicate x.classes qs0, sv, hv⟩ := ⟨_, rfl⟩
      have HP' := Lib.hid (show QPAt x.q wr p' ∧ QPG G x.q wr p' ∧ (p'.served.length = x.classes ∧ p'.sh.length = x.classes) ∧ p'.abs = ⟨s, 1, zerosI next x.classes, List.replicate x.classes (false, [])⟩ ∧ encQP p' = [.string s, .int .i64 1, .slice sa x.classes sc, .slice ha x.classes hc] from by
        have hup : ∀ g, xb + 1 ≤ g → G g := fun g hg => HR.out.up g (by have := HN.out.lo; omega)
        rw [hp']
        refine ⟨⟨?_, ?_, fun y hy => ?_⟩, ⟨fun _ => own_inG hos hup, fun _ => own_inG hoh hup, fun y hy => ?_⟩, ⟨zerosI_len _ _, List.length_replicate⟩, ?_, ?_⟩
        · show SlAt wr sv (zerosI next x.classes).length _
          rw [zerosI_len]
          exact sl_own hos
        · show SlAt wr hv (List.replicate x.classes qs0).length _
          rw [List.length_replicate]
          exact sl_own hoh
        · obtain rfl := List.eq_of_mem_replicate hy
          exact ⟨⟨none, 0, rfl, Nat.le_refl _, fun j u hu => by simp [flatDV, qs0] at hu⟩, fun d hd => by cases hd⟩
        · obtain rfl := List.eq_of_mem_replicate hy
          exact ⟨fun hl => absurd rfl hl, fun d hd => (by cases hd), (by simp [qs0]), fun d hd => (by cases hd)⟩
        · unfold QP.abs
          simp [List.map_replicate, QS.abs, qs0]
        · unfold encQP
          rw [hsv, hhv])
      clear hp' hos hoh
      rw [hsv, hhv] at hx
      clear hsv hhv
      obtain ⟨i0', hi0, hz0, hz1', hz2'⟩ := info_parts qrow_info
      have hlen := HCL.out.2.2
      obtain ⟨⟨v1', w5', ga, ca, wa, r1, r2, hLa, hba⟩, ⟨v2', w7, gb', cb, wb, r3, r4, hLb, hbb⟩, ⟨v3', w8, gc, cc, wcc, r5, r6, hLc, hbc⟩⟩ :=
        copy_snoc_runs (P := Tryz.prog) wr 43 43 43 55 i0' _ 4 72 Tryz.underlying43 hi0 hz0 hz1' hz2' rfl (by decide) (v := v) (n := l.length) (xs := l.flatMap encQP) (us := encQP p') (HR6.out.rows.src (flat_len encQP 4 encQP_len l)) (flatQP_one HR6.out.inv) rfl (by rw [HP'.out.2.2.2.2]; simp [Value.oneCell']) (by omega) (by omega)
      have HLA := Lib.hid hLa
      have HLB := Lib.hid hLb
      have HLC := Lib.hid hLc
      have hbw6 := fp_lt_of_heap HR6.out.head
      have hrw6 := fp_lt_of_heap hx
      have b4 : wr.cell? ⟨b, 4, none⟩ = some v := fr_cell_of_heap HR6.out.head rfl
      have q0 : wr.cell? ⟨xb, 0, none⟩ = some (.string s) := fr_cell_of_heap hx rfl
      have q1 : wr.cell? ⟨xb, 1, none⟩ = some (.int .i64 1) := fr_cell_of_heap hx rfl
      have q2 : wr.cell? ⟨xb, 2, none⟩ = some (.slice sa x.classes sc) := fr_cell_of_heap hx rfl
      have q3 : wr.cell? ⟨xb, 3, none⟩ = some (.slice ha x.classes hc) := fr_cell_of_heap hx rfl
      have q0a := cell_below hba q0
      have q0b := cell_below hbb q0
      have q0c := cell_below hbc q0
      have q1a := cell_below hba q1
      have q1b := cell_below hbb q1
      have q1c := cell_below hbc q1
      have q2a := cell_below hba q2
      have q2b := cell_below hbb q2
      have q2c := cell_below hbc q2
      have q3a := cell_below hba q3
      have q3b := cell_below hbb q3
      have q3c := cell_below hbc q3
      have hha := (hLa.below.block b hbw6).trans HR6.out.head
      have hhb := (hLb.below.block b hbw6).trans HR6.out.head
      have hhc := (hLc.below.block b hbw6).trans HR6.out.head
      have ka4 : wa.cell? ⟨b, 4, none⟩ = some v := fr_cell_of_heap hha rfl
      have kb4 : wb.cell? ⟨b, 4, none⟩ = some v := fr_cell_of_heap hhb rfl
      have kc4 : wcc.cell? ⟨b, 4, none⟩ = some v := fr_cell_of_heap hhc rfl
      have fa4 : wa.frozen? ⟨b, 4, none⟩ = false := fr_free_of_heap hha
      have fb4 : wb.frozen? ⟨b, 4, none⟩ = false := fr_free_of_heap hhb
      have fc4 : wcc.frozen? ⟨b, 4, none⟩ = false := fr_free_of_heap hhc
      clear hba hbb hbc hLa hLb hLc hi0 hz0 hz1' hz2' hha hhb hhc hlen hx
      simp only [HP'.out.2.2.2.2] at r2 r3 r4 r5 r6
      simp [go_sem] at r1 r2 r3 r4 r5 r6
      go_upto_region 16 with fail
      clear c1
      go_cut [] (fun wx => Fp (fun j => j = b) wr wx ∧ ∃ v', RefP G wx b x (next + x.classes) v' (l ++ [p']))
      case first =>
        go_region
        all_goals
          clear r1 r2 r3 r4 r5 r6
          go_wp2_with fail
          go_meet
        all_goals
          first
          | exact newQ_close HR6.out HP'.out.1 HP'.out.2.1 HP'.out.2.2.1 HCL.out.2.2 HLA.out
          | exact newQ_close HR6.out HP'.out.1 HP'.out.2.1 HP'.out.2.2.1 HCL.out.2.2 HLB.out
          | exact newQ_close HR6.out HP'.out.1 HP'.out.2.1 HP'.out.2.2.1 HCL.out.2.2 HLC.out
      case rest =>
        obtain ⟨hF9, v9, hR9⟩ := hcut
        have HF9 := Lib.hid (HN.out.fp.trans hF9 (fun _ _ h => h))
        have HR9 := Lib.hid hR9
        clear hR9 hF9 r1 r2 r3 r4 r5 r6 ka4 kb4 kc4 fa4 fb4 fc4 b4 q0 q1 q2 q3 q0a q0b q0c q1a q1b q1c q2a q2b q2c q3a q3b q3c
        go_wp2_with fail
        go_ret
        exact ⟨rfl, HF9.out, v9, _, HR9.out, by rw [List.map_append, List.map_singleton, HP'.out.2.2.2.1]⟩
end Go.Proofs.YtdbjihkgafhakaaGreatDoor
