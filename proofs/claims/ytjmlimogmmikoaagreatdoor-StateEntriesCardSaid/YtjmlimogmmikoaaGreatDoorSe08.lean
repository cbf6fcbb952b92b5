/-
  state: the entry of an operation of an invocation, by the program and by the document; a wide configuration: the walks.
-/
import Derived.Test.YtjmlimogmmikoaaGreatDoorSe07
namespace Go.Proofs.YtjmlimogmmikoaaGreatDoor
open Go.RowKit
structure Ivn where
  no : Int
  ten : Int
  name : ByteArray
  wt : Int
  ld : Int
def ivC (v : Ivn) : Array Value := #[.int .i64 v.no, .int .i64 v.ten, .string v.name, .int .i64 v.wt, .int .i64 v.ld]
def wOf (c : Cfg) (t : Int) : Int := if 0 ≤ t ∧ t < c.ts.length then ((c.ts[t.toNat]?).map Ten.weight).getD 0 else 0
def enC (c : Cfg) (v : Ivn) (o : Opr) : Array Value := #[.string o.need, .int .i64 o.cls, .int .i64 v.ten, .int .i64 (wOf c v.ten), .int .i64 v.no, .int .i64 v.wt, .int .i64 o.id, .int .i64 o.cost]
theorem en_info : (Tryz.prog.info? 56).map (·.size) = some 8 := by kernel_rfl
theorem iv_info : (Tryz.prog.info? 49).map (·.size) = some 5 := by kernel_rfl
theorem en8_one (s : ByteArray) (a b c d e f g : Int) : (#[.string s, .int .i64 a, .int .i64 b, .int .i64 c, .int .i64 d, .int .i64 e, .int .i64 f, .int .i64 g] : Array Value).all (·.oneCell') = true := by simp [Value.oneCell']
theorem wOf_in {c : Cfg} {k : Nat} {t : Ten} (h : c.ts[k]? = some t) : wOf c k = t.weight := by
  have := (List.getElem?_eq_some_iff.1 h).1
  unfold wOf
  rw [if_pos (by omega), Int.toNat_natCast, h]
  rfl
theorem wOf_out {c : Cfg} {t : Int} (h : ¬ (0 ≤ t ∧ t < c.ts.length)) : wOf c t = 0 := if_neg h
set_option maxRecDepth 100000 in
set_option maxHeartbeats 2000000 in
theorem stentry_in (tv lv : Value) (c : Cfg) (no : Int) (nm : ByteArray) (wt ld : Int) (o : Opr) (w : World) (hC : CfgAt w tv lv c) (k : Nat) (t : Ten) (ht : c.ts[k]? = some t) : Calls Tryz.prog 16 #[.agg (cfA tv lv c), .agg (ivC ⟨no, k, nm, wt, ld⟩), .agg (opA o)] w fun e w' => e = .returned (.agg (enC c ⟨no, k, nm, wt, ld⟩ o)) ∧ Below w.heap.size w w' := by
  obtain ⟨la, lcap, hlv, hlen, hcell⟩ := hC.1
  subst hlv
  have HW := Lib.hid (show wOf c k = t.weight from wOf_in ht)
  have hk : k < c.ts.length := (List.getElem?_eq_some_iff.1 ht).1
  obtain ⟨-, g, off, rfl, -, hw1, -⟩ := hcell k t ht
  have k0 : (cfA (.slice (some ⟨g, off, none⟩) c.ts.length lcap) lv c)[0]? = some (.slice (some ⟨g, off, none⟩) c.ts.length lcap) := rfl
  have i0 : (ivC ⟨no, k, nm, wt, ld⟩)[0]? = some (.int .i64 no) := rfl
  have i1 : (ivC ⟨no, k, nm, wt, ld⟩)[1]? = some (.int .i64 (k : Int)) := rfl
  have i3 : (ivC ⟨no, k, nm, wt, ld⟩)[3]? = some (.int .i64 wt) := rfl
  have o0 : (opA o)[0]? = some (.int .i64 o.id) := rfl
  have o5 : (opA o)[5]? = some (.string o.need) := rfl
  have o6 : (opA o)[6]? = some (.int .i64 o.cost) := rfl
  have o7 : (opA o)[7]? = some (.int .i64 o.cls) := rfl
  clear hcell hC ht
  have hB4 : Below w.heap.size w (((((w.alloc (.cells (cfA (.slice (some ⟨g, off, none⟩) c.ts.length lcap) lv c) 25)).alloc (.cells (ivC ⟨no, k, nm, wt, ld⟩) 49)).alloc (.cells (opA o) 53)).alloc (.cells #[.string ⟨#[]⟩, .int .i64 0, .int .i64 0, .int .i64 0, .int .i64 0, .int .i64 0, .int .i64 0, .int .i64 0] 56))) := (((box_below (w := w) (o := .cells (cfA (.slice (some ⟨g, off, none⟩) c.ts.length lcap) lv c) 25)).alloc (by simp) (.cells (ivC ⟨no, k, nm, wt, ld⟩) 49)).alloc (by simp; omega) (.cells (opA o) 53)).alloc (by simp; omega) (.cells #[.string ⟨#[]⟩, .int .i64 0, .int .i64 0, .int .i64 0, .int .i64 0, .int .i64 0, .int .i64 0, .int .i64 0] 56)
  have hZ4 : (((((w.alloc (.cells (cfA (.slice (some ⟨g, off, none⟩) c.ts.length lcap) lv c) 25)).alloc (.cells (ivC ⟨no, k, nm, wt, ld⟩) 49)).alloc (.cells (opA o) 53)).alloc (.cells #[.string ⟨#[]⟩, .int .i64 0, .int .i64 0, .int .i64 0, .int .i64 0, .int .i64 0, .int .i64 0, .int .i64 0] 56))).heap[w.heap.size + 1 + 1 + 1]? = some (.cells #[.string ⟨#[]⟩, .int .i64 0, .int .i64 0, .int .i64 0, .int .i64 0, .int .i64 0, .int .i64 0, .int .i64 0] 56) := by have h := heap_alloc_new (((w.alloc (.cells (cfA (.slice (some ⟨g, off, none⟩) c.ts.length lcap) lv c) 25)).alloc (.cells (ivC ⟨no, k, nm, wt, ld⟩) 49)).alloc (.cells (opA o) 53)) (.cells #[.string ⟨#[]⟩, .int .i64 0, .int .i64 0, .int .i64 0, .int .i64 0, .int .i64 0, .int .i64 0, .int .i64 0] 56); rwa [show (((w.alloc (.cells (cfA (.slice (some ⟨g, off, none⟩) c.ts.length lcap) lv c) 25)).alloc (.cells (ivC ⟨no, k, nm, wt, ld⟩) 49)).alloc (.cells (opA o) 53)).heap.size = w.heap.size + 1 + 1 + 1 by simp] at h
  have hc4 : (((((w.alloc (.cells (cfA (.slice (some ⟨g, off, none⟩) c.ts.length lcap) lv c) 25)).alloc (.cells (ivC ⟨no, k, nm, wt, ld⟩) 49)).alloc (.cells (opA o) 53)).alloc (.cells #[.string ⟨#[]⟩, .int .i64 0, .int .i64 0, .int .i64 0, .int .i64 0, .int .i64 0, .int .i64 0, .int .i64 0] 56))).heap[w.heap.size]? = some (.cells (cfA (.slice (some ⟨g, off, none⟩) c.ts.length lcap) lv c) 25) := fr_alloc_old (fr_alloc_old (fr_alloc_old (heap_alloc_new _ _)))
  have hv4 : (((((w.alloc (.cells (cfA (.slice (some ⟨g, off, none⟩) c.ts.length lcap) lv c) 25)).alloc (.cells (ivC ⟨no, k, nm, wt, ld⟩) 49)).alloc (.cells (opA o) 53)).alloc (.cells #[.string ⟨#[]⟩, .int .i64 0, .int .i64 0, .int .i64 0, .int .i64 0, .int .i64 0, .int .i64 0, .int .i64 0] 56))).heap[w.heap.size + 1]? = some (.cells (ivC ⟨no, k, nm, wt, ld⟩) 49) := fr_alloc_old (fr_alloc_old (heap_alloc_two _ _ _))
  have ho4 : (((((w.alloc (.cells (cfA (.slice (some ⟨g, off, none⟩) c.ts.length lcap) lv c) 25)).alloc (.cells (ivC ⟨no, k, nm, wt, ld⟩) 49)).alloc (.cells (opA o) 53)).alloc (.cells #[.string ⟨#[]⟩, .int .i64 0, .int .i64 0, .int .i64 0, .int .i64 0, .int .i64 0, .int .i64 0, .int .i64 0] 56))).heap[w.heap.size + 1 + 1]? = some (.cells (opA o) 53) := fr_alloc_old (heap_alloc_three _ _ _ _)
  have hs4 : (((((w.alloc (.cells (cfA (.slice (some ⟨g, off, none⟩) c.ts.length lcap) lv c) 25)).alloc (.cells (ivC ⟨no, k, nm, wt, ld⟩) 49)).alloc (.cells (opA o) 53)).alloc (.cells #[.string ⟨#[]⟩, .int .i64 0, .int .i64 0, .int .i64 0, .int .i64 0, .int .i64 0, .int .i64 0, .int .i64 0] 56))).heap.size = w.heap.size + 1 + 1 + 1 + 1 := by simp
  go_enter Tryz.func16, Tryz.ntmps16
  go_upto_region 1 with fail
  generalize ((((w.alloc (.cells (cfA (.slice (some ⟨g, off, none⟩) c.ts.length lcap) lv c) 25)).alloc (.cells (ivC ⟨no, k, nm, wt, ld⟩) 49)).alloc (.cells (opA o) 53)).alloc (.cells #[.string ⟨#[]⟩, .int .i64 0, .int .i64 0, .int .i64 0, .int .i64 0, .int .i64 0, .int .i64 0, .int .i64 0] 56)) = W4 at hB4 hZ4 hc4 hv4 ho4 hs4 ⊢
  have a0 := fr_cell_of_heap hc4 k0
  have b0 := fr_cell_of_heap hv4 i0
  have b1 := fr_cell_of_heap hv4 i1
  have b3 := fr_cell_of_heap hv4 i3
  have e0 := fr_cell_of_heap ho4 o0
  have e5 := fr_cell_of_heap ho4 o5
  have e6 := fr_cell_of_heap ho4 o6
  have e7 := fr_cell_of_heap ho4 o7
  have d1 := cell_below hB4 hw1
  have HB4 := Lib.hid hB4
  have HZ4 := Lib.hid hZ4
  clear hB4 hZ4 hc4 hv4 ho4 k0 i0 i1 i3 o0 o5 o6 o7 hw1
  go_upto_region 2 with fail
  have hE := heap_alloc_new W4 (.cells #[.string o.need, .int .i64 o.cls, .int .i64 (k : Int), .int .i64 0, .int .i64 no, .int .i64 wt, .int .i64 o.id, .int .i64 o.cost] 56)
  have a02 := cell_below (box_below (o := .cells #[.string o.need, .int .i64 o.cls, .int .i64 (k : Int), .int .i64 0, .int .i64 no, .int .i64 wt, .int .i64 o.id, .int .i64 o.cost] 56)) a0
  have b12 := cell_below (box_below (o := .cells #[.string o.need, .int .i64 o.cls, .int .i64 (k : Int), .int .i64 0, .int .i64 no, .int .i64 wt, .int .i64 o.id, .int .i64 o.cost] 56)) b1
  have d12 := cell_below (box_below (o := .cells #[.string o.need, .int .i64 o.cls, .int .i64 (k : Int), .int .i64 0, .int .i64 no, .int .i64 wt, .int .i64 o.id, .int .i64 o.cost] 56)) d1
  have HB5 := Lib.hid (HB4.out.alloc HB4.out.size (.cells #[.string o.need, .int .i64 o.cls, .int .i64 (k : Int), .int .i64 0, .int .i64 no, .int .i64 wt, .int .i64 o.id, .int .i64 o.cost] 56))
  have HZ5 := Lib.hid (fr_alloc_old (o := .cells #[.string o.need, .int .i64 o.cls, .int .i64 (k : Int), .int .i64 0, .int .i64 no, .int .i64 wt, .int .i64 o.id, .int .i64 o.cost] 56) HZ4.out)
  rw [hs4] at hE
  try simp only [hs4]
  generalize W4.alloc (.cells #[.string o.need, .int .i64 o.cls, .int .i64 (k : Int), .int .i64 0, .int .i64 no, .int .i64 wt, .int .i64 o.id, .int .i64 o.cost] 56) = W5 at hE a02 b12 d12 HB5 HZ5 ⊢
  have z0 := fr_cell_of_heap (i := 0) hE rfl
  have z1 := fr_cell_of_heap (i := 1) hE rfl
  have z2 := fr_cell_of_heap (i := 2) hE rfl
  have z3 := fr_cell_of_heap (i := 3) hE rfl
  have z4 := fr_cell_of_heap (i := 4) hE rfl
  have z5 := fr_cell_of_heap (i := 5) hE rfl
  have z6 := fr_cell_of_heap (i := 6) hE rfl
  have z7 := fr_cell_of_heap (i := 7) hE rfl
  have f3 := fr_free_of_heap (i := 3) hE
  clear HB4 HZ4 hE a0 b0 b1 b3 e0 e5 e6 e7 d1
  have HZ6 := Lib.hid (show (W5.setCell ⟨w.heap.size + 1 + 1 + 1 + 1, 3, none⟩ (.int .i64 t.weight)).heap[w.heap.size + 1 + 1 + 1]? = some (.cells #[.string ⟨#[]⟩, .int .i64 0, .int .i64 0, .int .i64 0, .int .i64 0, .int .i64 0, .int .i64 0, .int .i64 0] 56) by rw [fr_setCell_other (by omega)]; exact HZ5.out)
  have HB6 := Lib.hid (HB5.out.setCell (p := ⟨w.heap.size + 1 + 1 + 1 + 1, 3, none⟩) (by simp; omega) (.int .i64 t.weight))
  go_wp2_with (refine wpList_store_row rfl 56 _ _ rfl (w.heap.size + 1 + 1 + 1) #[.string o.need, .int .i64 o.cls, .int .i64 (k : Int), .int .i64 t.weight, .int .i64 no, .int .i64 wt, .int .i64 o.id, .int .i64 o.cost] rfl rfl 56 _ HZ6.out en_info rfl (en8_one _ _ _ _ _ _ _ _) ?_)
  refine bodyPost_ret (v := .agg (enC c ⟨no, k, nm, wt, ld⟩ o)) ?_ rfl ⟨rfl, below_setRow HB6.out (by omega) _⟩
  rw [show enC c ⟨no, k, nm, wt, ld⟩ o = #[.string o.need, .int .i64 o.cls, .int .i64 (k : Int), .int .i64 t.weight, .int .i64 no, .int .i64 wt, .int .i64 o.id, .int .i64 o.cost] by unfold enC; rw [HW.out]]
  exact results_row1 Tryz.results16 rfl (setRow_at HZ6.out) Tryz.underlying56 rfl en_info
set_option maxRecDepth 100000 in
set_option maxHeartbeats 2000000 in
theorem stentry_out (tv lv : Value) (c : Cfg) (no : Int) (nm : ByteArray) (wt ld : Int) (o : Opr) (w : World) (hC : CfgAt w tv lv c) (ten : Int) (hv : ¬ (0 ≤ ten ∧ ten < c.ts.length)) : Calls Tryz.prog 16 #[.agg (cfA tv lv c), .agg (ivC ⟨no, ten, nm, wt, ld⟩), .agg (opA o)] w fun e w' => e = .returned (.agg (enC c ⟨no, ten, nm, wt, ld⟩ o)) ∧ Below w.heap.size w w' := by
  obtain ⟨la, lcap, hlv, hlen, hcell⟩ := hC.1
  subst hlv
  have HW := Lib.hid (show wOf c ten = 0 from wOf_out hv)
  have k0 : (cfA (.slice la c.ts.length lcap) lv c)[0]? = some (.slice la c.ts.length lcap) := rfl
  have i0 : (ivC ⟨no, ten, nm, wt, ld⟩)[0]? = some (.int .i64 no) := rfl
  have i1 : (ivC ⟨no, ten, nm, wt, ld⟩)[1]? = some (.int .i64 ten) := rfl
  have i3 : (ivC ⟨no, ten, nm, wt, ld⟩)[3]? = some (.int .i64 wt) := rfl
  have o0 : (opA o)[0]? = some (.int .i64 o.id) := rfl
  have o5 : (opA o)[5]? = some (.string o.need) := rfl
  have o6 : (opA o)[6]? = some (.int .i64 o.cost) := rfl
  have o7 : (opA o)[7]? = some (.int .i64 o.cls) := rfl
  clear hcell hC
  have hB4 : Below w.heap.size w (((((w.alloc (.cells (cfA (.slice la c.ts.length lcap) lv c) 25)).alloc (.cells (ivC ⟨no, ten, nm, wt, ld⟩) 49)).alloc (.cells (opA o) 53)).alloc (.cells #[.string ⟨#[]⟩, .int .i64 0, .int .i64 0, .int .i64 0, .int .i64 0, .int .i64 0, .int .i64 0, .int .i64 0] 56))) := (((box_below (w := w) (o := .cells (cfA (.slice la c.ts.length lcap) lv c) 25)).alloc (by simp) (.cells (ivC ⟨no, ten, nm, wt, ld⟩) 49)).alloc (by simp; omega) (.cells (opA o) 53)).alloc (by simp; omega) (.cells #[.string ⟨#[]⟩, .int .i64 0, .int .i64 0, .int .i64 0, .int .i64 0, .int .i64 0, .int .i64 0, .int .i64 0] 56)
  have hZ4 : (((((w.alloc (.cells (cfA (.slice la c.ts.length lcap) lv c) 25)).alloc (.cells (ivC ⟨no, ten, nm, wt, ld⟩) 49)).alloc (.cells (opA o) 53)).alloc (.cells #[.string ⟨#[]⟩, .int .i64 0, .int .i64 0, .int .i64 0, .int .i64 0, .int .i64 0, .int .i64 0, .int .i64 0] 56))).heap[w.heap.size + 1 + 1 + 1]? = some (.cells #[.string ⟨#[]⟩, .int .i64 0, .int .i64 0, .int .i64 0, .int .i64 0, .int .i64 0, .int .i64 0, .int .i64 0] 56) := by have h := heap_alloc_new (((w.alloc (.cells (cfA (.slice la c.ts.length lcap) lv c) 25)).alloc (.cells (ivC ⟨no, ten, nm, wt, ld⟩) 49)).alloc (.cells (opA o) 53)) (.cells #[.string ⟨#[]⟩, .int .i64 0, .int .i64 0, .int .i64 0, .int .i64 0, .int .i64 0, .int .i64 0, .int .i64 0] 56); rwa [show (((w.alloc (.cells (cfA (.slice la c.ts.length lcap) lv c) 25)).alloc (.cells (ivC ⟨no, ten, nm, wt, ld⟩) 49)).alloc (.cells (opA o) 53)).heap.size = w.heap.size + 1 + 1 + 1 by simp] at h
  have hc4 : (((((w.alloc (.cells (cfA (.slice la c.ts.length lcap) lv c) 25)).alloc (.cells (ivC ⟨no, ten, nm, wt, ld⟩) 49)).alloc (.cells (opA o) 53)).alloc (.cells #[.string ⟨#[]⟩, .int .i64 0, .int .i64 0, .int .i64 0, .int .i64 0, .int .i64 0, .int .i64 0, .int .i64 0] 56))).heap[w.heap.size]? = some (.cells (cfA (.slice la c.ts.length lcap) lv c) 25) := fr_alloc_old (fr_alloc_old (fr_alloc_old (heap_alloc_new _ _)))
  have hv4 : (((((w.alloc (.cells (cfA (.slice la c.ts.length lcap) lv c) 25)).alloc (.cells (ivC ⟨no, ten, nm, wt, ld⟩) 49)).alloc (.cells (opA o) 53)).alloc (.cells #[.string ⟨#[]⟩, .int .i64 0, .int .i64 0, .int .i64 0, .int .i64 0, .int .i64 0, .int .i64 0, .int .i64 0] 56))).heap[w.heap.size + 1]? = some (.cells (ivC ⟨no, ten, nm, wt, ld⟩) 49) := fr_alloc_old (fr_alloc_old (heap_alloc_two _ _ _))
  have ho4 : (((((w.alloc (.cells (cfA (.slice la c.ts.length lcap) lv c) 25)).alloc (.cells (ivC ⟨no, ten, nm, wt, ld⟩) 49)).alloc (.cells (opA o) 53)).alloc (.cells #[.string ⟨#[]⟩, .int .i64 0, .int .i64 0, .int .i64 0, .int .i64 0, .int .i64 0, .int .i64 0, .int .i64 0] 56))).heap[w.heap.size + 1 + 1]? = some (.cells (opA o) 53) := fr_alloc_old (heap_alloc_three _ _ _ _)
  have hs4 : (((((w.alloc (.cells (cfA (.slice la c.ts.length lcap) lv c) 25)).alloc (.cells (ivC ⟨no, ten, nm, wt, ld⟩) 49)).alloc (.cells (opA o) 53)).alloc (.cells #[.string ⟨#[]⟩, .int .i64 0, .int .i64 0, .int .i64 0, .int .i64 0, .int .i64 0, .int .i64 0, .int .i64 0] 56))).heap.size = w.heap.size + 1 + 1 + 1 + 1 := by simp
  go_enter Tryz.func16, Tryz.ntmps16
  go_upto_region 1 with fail
  generalize ((((w.alloc (.cells (cfA (.slice la c.ts.length lcap) lv c) 25)).alloc (.cells (ivC ⟨no, ten, nm, wt, ld⟩) 49)).alloc (.cells (opA o) 53)).alloc (.cells #[.string ⟨#[]⟩, .int .i64 0, .int .i64 0, .int .i64 0, .int .i64 0, .int .i64 0, .int .i64 0, .int .i64 0] 56)) = W4 at hB4 hZ4 hc4 hv4 ho4 hs4 ⊢
  have a0 := fr_cell_of_heap hc4 k0
  have b0 := fr_cell_of_heap hv4 i0
  have b1 := fr_cell_of_heap hv4 i1
  have b3 := fr_cell_of_heap hv4 i3
  have e0 := fr_cell_of_heap ho4 o0
  have e5 := fr_cell_of_heap ho4 o5
  have e6 := fr_cell_of_heap ho4 o6
  have e7 := fr_cell_of_heap ho4 o7
  have HB4 := Lib.hid hB4
  have HZ4 := Lib.hid hZ4
  clear hB4 hZ4 hc4 hv4 ho4 k0 i0 i1 i3 o0 o5 o6 o7
  go_upto_region 2 with fail
  have hE := heap_alloc_new W4 (.cells #[.string o.need, .int .i64 o.cls, .int .i64 ten, .int .i64 0, .int .i64 no, .int .i64 wt, .int .i64 o.id, .int .i64 o.cost] 56)
  have a02 := cell_below (box_below (o := .cells #[.string o.need, .int .i64 o.cls, .int .i64 ten, .int .i64 0, .int .i64 no, .int .i64 wt, .int .i64 o.id, .int .i64 o.cost] 56)) a0
  have b12 := cell_below (box_below (o := .cells #[.string o.need, .int .i64 o.cls, .int .i64 ten, .int .i64 0, .int .i64 no, .int .i64 wt, .int .i64 o.id, .int .i64 o.cost] 56)) b1
  have HB5 := Lib.hid (HB4.out.alloc HB4.out.size (.cells #[.string o.need, .int .i64 o.cls, .int .i64 ten, .int .i64 0, .int .i64 no, .int .i64 wt, .int .i64 o.id, .int .i64 o.cost] 56))
  have HZ5 := Lib.hid (fr_alloc_old (o := .cells #[.string o.need, .int .i64 o.cls, .int .i64 ten, .int .i64 0, .int .i64 no, .int .i64 wt, .int .i64 o.id, .int .i64 o.cost] 56) HZ4.out)
  rw [hs4] at hE
  try simp only [hs4]
  generalize W4.alloc (.cells #[.string o.need, .int .i64 o.cls, .int .i64 ten, .int .i64 0, .int .i64 no, .int .i64 wt, .int .i64 o.id, .int .i64 o.cost] 56) = W5 at hE a02 b12 HB5 HZ5 ⊢
  have z0 := fr_cell_of_heap (i := 0) hE rfl
  have z1 := fr_cell_of_heap (i := 1) hE rfl
  have z2 := fr_cell_of_heap (i := 2) hE rfl
  have z3 := fr_cell_of_heap (i := 3) hE rfl
  have z4 := fr_cell_of_heap (i := 4) hE rfl
  have z5 := fr_cell_of_heap (i := 5) hE rfl
  have z6 := fr_cell_of_heap (i := 6) hE rfl
  have z7 := fr_cell_of_heap (i := 7) hE rfl
  clear HB4 HZ4 hE a0 b0 b1 b3 e0 e5 e6 e7
  by_cases h0 : 0 ≤ ten
  · have h1 : ¬ ten < c.ts.length := fun h => hv ⟨h0, h⟩
    clear hv
    go_wp2_with (refine wpList_store_row rfl 56 _ _ rfl (w.heap.size + 1 + 1 + 1) #[.string o.need, .int .i64 o.cls, .int .i64 ten, .int .i64 0, .int .i64 no, .int .i64 wt, .int .i64 o.id, .int .i64 o.cost] rfl rfl 56 _ HZ5.out en_info rfl (en8_one _ _ _ _ _ _ _ _) ?_)
    refine bodyPost_ret (v := .agg (enC c ⟨no, ten, nm, wt, ld⟩ o)) ?_ rfl ⟨rfl, below_setRow HB5.out (by omega) _⟩
    rw [show enC c ⟨no, ten, nm, wt, ld⟩ o = #[.string o.need, .int .i64 o.cls, .int .i64 ten, .int .i64 0, .int .i64 no, .int .i64 wt, .int .i64 o.id, .int .i64 o.cost] by unfold enC; rw [HW.out]]
    exact results_row1 Tryz.results16 rfl (setRow_at HZ5.out) Tryz.underlying56 rfl en_info
  · clear hv
    go_wp2_with (refine wpList_store_row rfl 56 _ _ rfl (w.heap.size + 1 + 1 + 1) #[.string o.need, .int .i64 o.cls, .int .i64 ten, .int .i64 0, .int .i64 no, .int .i64 wt, .int .i64 o.id, .int .i64 o.cost] rfl rfl 56 _ HZ5.out en_info rfl (en8_one _ _ _ _ _ _ _ _) ?_)
    refine bodyPost_ret (v := .agg (enC c ⟨no, ten, nm, wt, ld⟩ o)) ?_ rfl ⟨rfl, below_setRow HB5.out (by omega) _⟩
    rw [show enC c ⟨no, ten, nm, wt, ld⟩ o = #[.string o.need, .int .i64 o.cls, .int .i64 ten, .int .i64 0, .int .i64 no, .int .i64 wt, .int .i64 o.id, .int .i64 o.cost] by unfold enC; rw [HW.out]]
    exact results_row1 Tryz.results16 rfl (setRow_at HZ5.out) Tryz.underlying56 rfl en_info
set_option maxRecDepth 100000 in
set_option maxHeartbeats 2000000 in
theorem rentry35_in (tv lv : Value) (c : Cfg) (no : Int) (nm : ByteArray) (wt ld : Int) (o : Opr) (w : World) (hC : CfgAt w tv lv c) (k : Nat) (t : Ten) (ht : c.ts[k]? = some t) : Calls Tryz.prog 17 #[.agg (cfA tv lv c), .agg (ivC ⟨no, k, nm, wt, ld⟩), .agg (opA o)] w fun e w' => e = .returned (.agg (enC c ⟨no, k, nm, wt, ld⟩ o)) ∧ Below w.heap.size w w' := by
  obtain ⟨la, lcap, hlv, hlen, hcell⟩ := hC.1
  subst hlv
  have HW := Lib.hid (show wOf c k = t.weight from wOf_in ht)
  have hk : k < c.ts.length := (List.getElem?_eq_some_iff.1 ht).1
  obtain ⟨-, g, off, rfl, -, hw1, -⟩ := hcell k t ht
  have k0 : (cfA (.slice (some ⟨g, off, none⟩) c.ts.length lcap) lv c)[0]? = some (.slice (some ⟨g, off, none⟩) c.ts.length lcap) := rfl
  have i0 : (ivC ⟨no, k, nm, wt, ld⟩)[0]? = some (.int .i64 no) := rfl
  have i1 : (ivC ⟨no, k, nm, wt, ld⟩)[1]? = some (.int .i64 (k : Int)) := rfl
  have i3 : (ivC ⟨no, k, nm, wt, ld⟩)[3]? = some (.int .i64 wt) := rfl
  have o0 : (opA o)[0]? = some (.int .i64 o.id) := rfl
  have o5 : (opA o)[5]? = some (.string o.need) := rfl
  have o6 : (opA o)[6]? = some (.int .i64 o.cost) := rfl
  have o7 : (opA o)[7]? = some (.int .i64 o.cls) := rfl
  clear hcell hC ht
  have hB4 : Below w.heap.size w (((((w.alloc (.cells (cfA (.slice (some ⟨g, off, none⟩) c.ts.length lcap) lv c) 25)).alloc (.cells (ivC ⟨no, k, nm, wt, ld⟩) 49)).alloc (.cells (opA o) 53)).alloc (.cells #[.string ⟨#[]⟩, .int .i64 0, .int .i64 0, .int .i64 0, .int .i64 0, .int .i64 0, .int .i64 0, .int .i64 0] 56))) := (((box_below (w := w) (o := .cells (cfA (.slice (some ⟨g, off, none⟩) c.ts.length lcap) lv c) 25)).alloc (by simp) (.cells (ivC ⟨no, k, nm, wt, ld⟩) 49)).alloc (by simp; omega) (.cells (opA o) 53)).alloc (by simp; omega) (.cells #[.string ⟨#[]⟩, .int .i64 0, .int .i64 0, .int .i64 0, .int .i64 0, .int .i64 0, .int .i64 0, .int .i64 0] 56)
  have hZ4 : (((((w.alloc (.cells (cfA (.slice (some ⟨g, off, none⟩) c.ts.length lcap) lv c) 25)).alloc (.cells (ivC ⟨no, k, nm, wt, ld⟩) 49)).alloc (.cells (opA o) 53)).alloc (.cells #[.string ⟨#[]⟩, .int .i64 0, .int .i64 0, .int .i64 0, .int .i64 0, .int .i64 0, .int .i64 0, .int .i64 0] 56))).heap[w.heap.size + 1 + 1 + 1]? = some (.cells #[.string ⟨#[]⟩, .int .i64 0, .int .i64 0, .int .i64 0, .int .i64 0, .int .i64 0, .int .i64 0, .int .i64 0] 56) := by have h := heap_alloc_new (((w.alloc (.cells (cfA (.slice (some ⟨g, off, none⟩) c.ts.length lcap) lv c) 25)).alloc (.cells (ivC ⟨no, k, nm, wt, ld⟩) 49)).alloc (.cells (opA o) 53)) (.cells #[.string ⟨#[]⟩, .int .i64 0, .int .i64 0, .int .i64 0, .int .i64 0, .int .i64 0, .int .i64 0, .int .i64 0] 56); rwa [show (((w.alloc (.cells (cfA (.slice (some ⟨g, off, none⟩) c.ts.length lcap) lv c) 25)).alloc (.cells (ivC ⟨no, k, nm, wt, ld⟩) 49)).alloc (.cells (opA o) 53)).heap.size = w.heap.size + 1 + 1 + 1 by simp] at h
  have hc4 : (((((w.alloc (.cells (cfA (.slice (some ⟨g, off, none⟩) c.ts.length lcap) lv c) 25)).alloc (.cells (ivC ⟨no, k, nm, wt, ld⟩) 49)).alloc (.cells (opA o) 53)).alloc (.cells #[.string ⟨#[]⟩, .int .i64 0, .int .i64 0, .int .i64 0, .int .i64 0, .int .i64 0, .int .i64 0, .int .i64 0] 56))).heap[w.heap.size]? = some (.cells (cfA (.slice (some ⟨g, off, none⟩) c.ts.length lcap) lv c) 25) := fr_alloc_old (fr_alloc_old (fr_alloc_old (heap_alloc_new _ _)))
  have hv4 : (((((w.alloc (.cells (cfA (.slice (some ⟨g, off, none⟩) c.ts.length lcap) lv c) 25)).alloc (.cells (ivC ⟨no, k, nm, wt, ld⟩) 49)).alloc (.cells (opA o) 53)).alloc (.cells #[.string ⟨#[]⟩, .int .i64 0, .int .i64 0, .int .i64 0, .int .i64 0, .int .i64 0, .int .i64 0, .int .i64 0] 56))).heap[w.heap.size + 1]? = some (.cells (ivC ⟨no, k, nm, wt, ld⟩) 49) := fr_alloc_old (fr_alloc_old (heap_alloc_two _ _ _))
  have ho4 : (((((w.alloc (.cells (cfA (.slice (some ⟨g, off, none⟩) c.ts.length lcap) lv c) 25)).alloc (.cells (ivC ⟨no, k, nm, wt, ld⟩) 49)).alloc (.cells (opA o) 53)).alloc (.cells #[.string ⟨#[]⟩, .int .i64 0, .int .i64 0, .int .i64 0, .int .i64 0, .int .i64 0, .int .i64 0, .int .i64 0] 56))).heap[w.heap.size + 1 + 1]? = some (.cells (opA o) 53) := fr_alloc_old (heap_alloc_three _ _ _ _)
  have hs4 : (((((w.alloc (.cells (cfA (.slice (some ⟨g, off, none⟩) c.ts.length lcap) lv c) 25)).alloc (.cells (ivC ⟨no, k, nm, wt, ld⟩) 49)).alloc (.cells (opA o) 53)).alloc (.cells #[.string ⟨#[]⟩, .int .i64 0, .int .i64 0, .int .i64 0, .int .i64 0, .int .i64 0, .int .i64 0, .int .i64 0] 56))).heap.size = w.heap.size + 1 + 1 + 1 + 1 := by simp
  go_enter Tryz.func17, Tryz.ntmps17
  go_upto_region 1 with fail
  generalize ((((w.alloc (.cells (cfA (.slice (some ⟨g, off, none⟩) c.ts.length lcap) lv c) 25)).alloc (.cells (ivC ⟨no, k, nm, wt, ld⟩) 49)).alloc (.cells (opA o) 53)).alloc (.cells #[.string ⟨#[]⟩, .int .i64 0, .int .i64 0, .int .i64 0, .int .i64 0, .int .i64 0, .int .i64 0, .int .i64 0] 56)) = W4 at hB4 hZ4 hc4 hv4 ho4 hs4 ⊢
  have a0 := fr_cell_of_heap hc4 k0
  have b0 := fr_cell_of_heap hv4 i0
  have b1 := fr_cell_of_heap hv4 i1
  have b3 := fr_cell_of_heap hv4 i3
  have e0 := fr_cell_of_heap ho4 o0
  have e5 := fr_cell_of_heap ho4 o5
  have e6 := fr_cell_of_heap ho4 o6
  have e7 := fr_cell_of_heap ho4 o7
  have d1 := cell_below hB4 hw1
  have HB4 := Lib.hid hB4
  have HZ4 := Lib.hid hZ4
  clear hB4 hZ4 hc4 hv4 ho4 k0 i0 i1 i3 o0 o5 o6 o7 hw1
  go_wp2_with (refine wpList_store_row rfl 56 _ _ rfl (w.heap.size + 1 + 1 + 1) #[.string o.need, .int .i64 o.cls, .int .i64 (k : Int), .int .i64 t.weight, .int .i64 no, .int .i64 wt, .int .i64 o.id, .int .i64 o.cost] rfl rfl 56 _ HZ4.out en_info rfl (en8_one _ _ _ _ _ _ _ _) ?_)
  refine bodyPost_ret (v := .agg (enC c ⟨no, k, nm, wt, ld⟩ o)) ?_ rfl ⟨rfl, below_setRow HB4.out (by omega) _⟩
  rw [show enC c ⟨no, k, nm, wt, ld⟩ o = #[.string o.need, .int .i64 o.cls, .int .i64 (k : Int), .int .i64 t.weight, .int .i64 no, .int .i64 wt, .int .i64 o.id, .int .i64 o.cost] by unfold enC; rw [HW.out]]
  exact results_row1 Tryz.results17 rfl (setRow_at HZ4.out) Tryz.underlying56 rfl en_info
set_option maxRecDepth 100000 in
set_option maxHeartbeats 2000000 in
theorem rentry35_out (tv lv : Value) (c : Cfg) (no : Int) (nm : ByteArray) (wt ld : Int) (o : Opr) (w : World) (hC : CfgAt w tv lv c) (ten : Int) (hv : ¬ (0 ≤ ten ∧ ten < c.ts.length)) : Calls Tryz.prog 17 #[.agg (cfA tv lv c), .agg (ivC ⟨no, ten, nm, wt, ld⟩), .agg (opA o)] w fun e w' => e = .returned (.agg (enC c ⟨no, ten, nm, wt, ld⟩ o)) ∧ Below w.heap.size w w' := by
  obtain ⟨la, lcap, hlv, hlen, hcell⟩ := hC.1
  subst hlv
  have HW := Lib.hid (show wOf c ten = 0 from wOf_out hv)
  have k0 : (cfA (.slice la c.ts.length lcap) lv c)[0]? = some (.slice la c.ts.length lcap) := rfl
  have i0 : (ivC ⟨no, ten, nm, wt, ld⟩)[0]? = some (.int .i64 no) := rfl
  have i1 : (ivC ⟨no, ten, nm, wt, ld⟩)[1]? = some (.int .i64 ten) := rfl
  have i3 : (ivC ⟨no, ten, nm, wt, ld⟩)[3]? = some (.int .i64 wt) := rfl
  have o0 : (opA o)[0]? = some (.int .i64 o.id) := rfl
  have o5 : (opA o)[5]? = some (.string o.need) := rfl
  have o6 : (opA o)[6]? = some (.int .i64 o.cost) := rfl
  have o7 : (opA o)[7]? = some (.int .i64 o.cls) := rfl
  clear hcell hC
  have hB4 : Below w.heap.size w (((((w.alloc (.cells (cfA (.slice la c.ts.length lcap) lv c) 25)).alloc (.cells (ivC ⟨no, ten, nm, wt, ld⟩) 49)).alloc (.cells (opA o) 53)).alloc (.cells #[.string ⟨#[]⟩, .int .i64 0, .int .i64 0, .int .i64 0, .int .i64 0, .int .i64 0, .int .i64 0, .int .i64 0] 56))) := (((box_below (w := w) (o := .cells (cfA (.slice la c.ts.length lcap) lv c) 25)).alloc (by simp) (.cells (ivC ⟨no, ten, nm, wt, ld⟩) 49)).alloc (by simp; omega) (.cells (opA o) 53)).alloc (by simp; omega) (.cells #[.string ⟨#[]⟩, .int .i64 0, .int .i64 0, .int .i64 0, .int .i64 0, .int .i64 0, .int .i64 0, .int .i64 0] 56)
  have hZ4 : (((((w.alloc (.cells (cfA (.slice la c.ts.length lcap) lv c) 25)).alloc (.cells (ivC ⟨no, ten, nm, wt, ld⟩) 49)).alloc (.cells (opA o) 53)).alloc (.cells #[.string ⟨#[]⟩, .int .i64 0, .int .i64 0, .int .i64 0, .int .i64 0, .int .i64 0, .int .i64 0, .int .i64 0] 56))).heap[w.heap.size + 1 + 1 + 1]? = some (.cells #[.string ⟨#[]⟩, .int .i64 0, .int .i64 0, .int .i64 0, .int .i64 0, .int .i64 0, .int .i64 0, .int .i64 0] 56) := by have h := heap_alloc_new (((w.alloc (.cells (cfA (.slice la c.ts.length lcap) lv c) 25)).alloc (.cells (ivC ⟨no, ten, nm, wt, ld⟩) 49)).alloc (.cells (opA o) 53)) (.cells #[.string ⟨#[]⟩, .int .i64 0, .int .i64 0, .int .i64 0, .int .i64 0, .int .i64 0, .int .i64 0, .int .i64 0] 56); rwa [show (((w.alloc (.cells (cfA (.slice la c.ts.length lcap) lv c) 25)).alloc (.cells (ivC ⟨no, ten, nm, wt, ld⟩) 49)).alloc (.cells (opA o) 53)).heap.size = w.heap.size + 1 + 1 + 1 by simp] at h
  have hc4 : (((((w.alloc (.cells (cfA (.slice la c.ts.length lcap) lv c) 25)).alloc (.cells (ivC ⟨no, ten, nm, wt, ld⟩) 49)).alloc (.cells (opA o) 53)).alloc (.cells #[.string ⟨#[]⟩, .int .i64 0, .int .i64 0, .int .i64 0, .int .i64 0, .int .i64 0, .int .i64 0, .int .i64 0] 56))).heap[w.heap.size]? = some (.cells (cfA (.slice la c.ts.length lcap) lv c) 25) := fr_alloc_old (fr_alloc_old (fr_alloc_old (heap_alloc_new _ _)))
  have hv4 : (((((w.alloc (.cells (cfA (.slice la c.ts.length lcap) lv c) 25)).alloc (.cells (ivC ⟨no, ten, nm, wt, ld⟩) 49)).alloc (.cells (opA o) 53)).alloc (.cells #[.string ⟨#[]⟩, .int .i64 0, .int .i64 0, .int .i64 0, .int .i64 0, .int .i64 0, .int .i64 0, .int .i64 0] 56))).heap[w.heap.size + 1]? = some (.cells (ivC ⟨no, ten, nm, wt, ld⟩) 49) := fr_alloc_old (fr_alloc_old (heap_alloc_two _ _ _))
  have ho4 : (((((w.alloc (.cells (cfA (.slice la c.ts.length lcap) lv c) 25)).alloc (.cells (ivC ⟨no, ten, nm, wt, ld⟩) 49)).alloc (.cells (opA o) 53)).alloc (.cells #[.string ⟨#[]⟩, .int .i64 0, .int .i64 0, .int .i64 0, .int .i64 0, .int .i64 0, .int .i64 0, .int .i64 0] 56))).heap[w.heap.size + 1 + 1]? = some (.cells (opA o) 53) := fr_alloc_old (heap_alloc_three _ _ _ _)
  have hs4 : (((((w.alloc (.cells (cfA (.slice la c.ts.length lcap) lv c) 25)).alloc (.cells (ivC ⟨no, ten, nm, wt, ld⟩) 49)).alloc (.cells (opA o) 53)).alloc (.cells #[.string ⟨#[]⟩, .int .i64 0, .int .i64 0, .int .i64 0, .int .i64 0, .int .i64 0, .int .i64 0, .int .i64 0] 56))).heap.size = w.heap.size + 1 + 1 + 1 + 1 := by simp
  go_enter Tryz.func17, Tryz.ntmps17
  go_upto_region 1 with fail
  generalize ((((w.alloc (.cells (cfA (.slice la c.ts.length lcap) lv c) 25)).alloc (.cells (ivC ⟨no, ten, nm, wt, ld⟩) 49)).alloc (.cells (opA o) 53)).alloc (.cells #[.string ⟨#[]⟩, .int .i64 0, .int .i64 0, .int .i64 0, .int .i64 0, .int .i64 0, .int .i64 0, .int .i64 0] 56)) = W4 at hB4 hZ4 hc4 hv4 ho4 hs4 ⊢
  have a0 := fr_cell_of_heap hc4 k0
  have b0 := fr_cell_of_heap hv4 i0
  have b1 := fr_cell_of_heap hv4 i1
  have b3 := fr_cell_of_heap hv4 i3
  have e0 := fr_cell_of_heap ho4 o0
  have e5 := fr_cell_of_heap ho4 o5
  have e6 := fr_cell_of_heap ho4 o6
  have e7 := fr_cell_of_heap ho4 o7
  have HB4 := Lib.hid hB4
  have HZ4 := Lib.hid hZ4
  clear hB4 hZ4 hc4 hv4 ho4 k0 i0 i1 i3 o0 o5 o6 o7
  by_cases h0 : 0 ≤ ten
  · have h1 : ¬ ten < c.ts.length := fun h => hv ⟨h0, h⟩
    clear hv
    go_wp2_with (refine wpList_store_row rfl 56 _ _ rfl (w.heap.size + 1 + 1 + 1) #[.string o.need, .int .i64 o.cls, .int .i64 ten, .int .i64 0, .int .i64 no, .int .i64 wt, .int .i64 o.id, .int .i64 o.cost] rfl rfl 56 _ HZ4.out en_info rfl (en8_one _ _ _ _ _ _ _ _) ?_)
    refine bodyPost_ret (v := .agg (enC c ⟨no, ten, nm, wt, ld⟩ o)) ?_ rfl ⟨rfl, below_setRow HB4.out (by omega) _⟩
    rw [show enC c ⟨no, ten, nm, wt, ld⟩ o = #[.string o.need, .int .i64 o.cls, .int .i64 ten, .int .i64 0, .int .i64 no, .int .i64 wt, .int .i64 o.id, .int .i64 o.cost] by unfold enC; rw [HW.out]]
    exact results_row1 Tryz.results17 rfl (setRow_at HZ4.out) Tryz.underlying56 rfl en_info
  · clear hv
    go_wp2_with (refine wpList_store_row rfl 56 _ _ rfl (w.heap.size + 1 + 1 + 1) #[.string o.need, .int .i64 o.cls, .int .i64 ten, .int .i64 0, .int .i64 no, .int .i64 wt, .int .i64 o.id, .int .i64 o.cost] rfl rfl 56 _ HZ4.out en_info rfl (en8_one _ _ _ _ _ _ _ _) ?_)
    refine bodyPost_ret (v := .agg (enC c ⟨no, ten, nm, wt, ld⟩ o)) ?_ rfl ⟨rfl, below_setRow HB4.out (by omega) _⟩
    rw [show enC c ⟨no, ten, nm, wt, ld⟩ o = #[.string o.need, .int .i64 o.cls, .int .i64 ten, .int .i64 0, .int .i64 no, .int .i64 wt, .int .i64 o.id, .int .i64 o.cost] by unfold enC; rw [HW.out]]
    exact results_row1 Tryz.results17 rfl (setRow_at HZ4.out) Tryz.underlying56 rfl en_info
end Go.Proofs.YtjmlimogmmikoaaGreatDoor
