/-
  billetref29.B: Heard, Pause, Give, Free; worker.Book: Heard, Pause: the walks.
-/
import Derived.Test.YtmijmfgclmaodaaGreatDoorWk11
namespace Go.Proofs.YtmijmfgclmaodaaGreatDoor
open Go.RowKit

theorem post_from {T : TypeId} {base b : Nat} {v : Value} {s' : Bk} {r : Value} {w w1 : World} {e : Ending} {w' : World} (hb : Below w.heap.size w w1) (h : BookPost T base w1 b v s' r e w') : BookPost T base w b v s' r e w' := by
  obtain ⟨rfl, v', hB, hF, hk⟩ := h
  exact ⟨rfl, v', hB, (Fr.of_below hb).trans hF (fun j hj => .inl hj), fun j hj => (hk j hj).imp id (fun h => Nat.le_trans hb.size h)⟩
theorem post_ret {T : TypeId} {base b : Nat} {v : Value} {s' : Bk} {r r2 : Value} {w : World} {e : Ending} {w' : World} (h : BookPost T base w b v s' r e w') : BookPost T base w b v s' r2 (.returned r2) w' := ⟨rfl, h.2⟩
/-- Nothing was written. -/
theorem post_same {T : TypeId} {base b : Nat} {v : Value} {s : Bk} {r : Value} {w w' : World} (hB : BookAt T base w b v s) (hb : Below w.heap.size w w') : BookPost T base w b v s r (.returned r) w' :=
  ⟨rfl, v, hB.below hb, Fr.of_below hb, fun _ hk => .inl hk⟩
theorem setS_self {s : Bk} {k : Nat} {x : Wk} (hx : s.ws[k]? = some x) : setS s k x = s := by
  unfold setS
  obtain ⟨hk, h⟩ := List.getElem?_eq_some_iff.1 hx
  rw [← h, List.set_getElem_self]
set_option maxRecDepth 100000 in
set_option maxHeartbeats 1000000 in
theorem rbheard_none {base b : Nat} {v : Value} {s : Bk} (no : Int) (u : Int) (w : World) (hB : BookAt 29 base w b v s) (h : findI (noB no) s.ws = -1) :
    Calls Tryz.prog 22 #[.pointer (some ⟨b, 0, none⟩), .int .i64 no, .int .u64 u] w (BookPost 29 base w b v s (.bool false)) := by
  have HB := Lib.hid hB
  have HI := Lib.hid h
  have a0 := hB.c0
  have a1 := hB.c1
  have a2 := hB.c2
  clear hB h
  go_enter Tryz.func22, Tryz.ntmps22
  go_wp2_with fail
  refine (rbno_any s.room s.last _ s.ws no _ HB.out.rows).mono ?_
  rintro e w1 ⟨rfl, hb1⟩
  rw [HI.out]
  go_wp2
  go_ret
  exact post_same HB.out hb1
set_option maxRecDepth 100000 in
set_option maxHeartbeats 1000000 in
theorem rbheard_some {base b : Nat} {v : Value} {s : Bk} (no : Int) (u : Int) (k : Nat) (x : Wk) (w : World) (hB : BookAt 29 base w b v s) (h : findI (noB no) s.ws = k) (hx : s.ws[k]? = some x) (hbase : base ≤ w.heap.size) :
    Calls Tryz.prog 22 #[.pointer (some ⟨b, 0, none⟩), .int .i64 no, .int .u64 u] w (BookPost 29 base w b v (setS s k { x with untl := u }) (.bool true)) := by
  have HB := Lib.hid hB
  have HI := Lib.hid h
  have HX := Lib.hid hx
  have hk : k < s.ws.length := (List.getElem?_eq_some_iff.1 hx).1
  have hfew := hB.few
  obtain ⟨g, cap, rfl⟩ : ∃ g cap, v = .slice (some ⟨g, 0, none⟩) s.ws.length cap := by
    obtain ⟨_, ⟨_, h0⟩ | ⟨g, cap, cur, hv, _⟩⟩ := hB.own
    · omega
    · exact ⟨g, cap, hv⟩
  obtain ⟨g, off, hg, c0, c1, c2, c3, c4, c5, c6⟩ := RowsW.at (a := some ⟨g, 0, none⟩) (l := s.ws) (w := w) (by obtain ⟨a', cap', hv', _, hc⟩ := hB.rows; cases hv'; exact hc) hx
  cases hg
  rw [Nat.zero_add] at c0 c1 c2 c3 c4 c5 c6
  have a0 := hB.c0
  have a1 := hB.c1
  have a2 := hB.c2
  have k0 : (0 : Int) ≤ (k : Int) := by omega
  have k1 : (k : Int) < (s.ws.length : Int) := by omega
  clear hB h hx
  have HW := Lib.hid hbase
  go_enter Tryz.func22, Tryz.ntmps22
  go_wp2_with fail
  refine (rbno_any s.room s.last _ s.ws no _ HB.out.rows).mono ?_
  rintro e w1 ⟨rfl, hb1⟩
  rw [HI.out]
  have HA1 := Lib.hid (HB.out.below hb1)
  have HB1 := Lib.hid hb1
  have e2 := HA1.out.c2
  have hbw1 := HA1.out.lt
  have hgw1 : g < w1.heap.size := World.block_lt_of_cell? w1 _ (cell_below hb1 c0)
  have d0 := cell_below hb1 c0
  have d1 := cell_below hb1 c1
  have d2 := cell_below hb1 c2
  have d3 := cell_below hb1 c3
  have d4 := cell_below hb1 c4
  have d5 := cell_below hb1 c5
  have d6 := cell_below hb1 c6
  clear hb1 c0 c1 c2 c3 c4 c5 c6 a0 a1 a2
  go_wp2_with fail
  refine (rbset_any k x { x with untl := u } _ (HA1.out.below box_below) HX.out (by have := HW.out; have := HB1.out.size; simp; omega)).mono ?_
  rintro e w3 hp
  have HP := Lib.hid (post_from (HB1.out.trans (box_below.mono HB1.out.size)) hp)
  obtain ⟨rfl, -⟩ := hp
  go_wp2
  go_ret
  exact post_ret HP.out
set_option maxRecDepth 100000 in
set_option maxHeartbeats 1000000 in
theorem rbpause_none {base b : Nat} {v : Value} {s : Bk} (no : Int) (on : Bool) (w : World) (hB : BookAt 29 base w b v s) (h : findI (noB no) s.ws = -1) :
    Calls Tryz.prog 24 #[.pointer (some ⟨b, 0, none⟩), .int .i64 no, .bool on] w (BookPost 29 base w b v s (.bool false)) := by
  have HB := Lib.hid hB
  have HI := Lib.hid h
  have a0 := hB.c0
  have a1 := hB.c1
  have a2 := hB.c2
  clear hB h
  go_enter Tryz.func24, Tryz.ntmps24
  go_wp2_with fail
  refine (rbno_any s.room s.last _ s.ws no _ HB.out.rows).mono ?_
  rintro e w1 ⟨rfl, hb1⟩
  rw [HI.out]
  go_wp2
  go_ret
  exact post_same HB.out hb1
set_option maxRecDepth 100000 in
set_option maxHeartbeats 1000000 in
theorem rbpause_some {base b : Nat} {v : Value} {s : Bk} (no : Int) (on : Bool) (k : Nat) (x : Wk) (w : World) (hB : BookAt 29 base w b v s) (h : findI (noB no) s.ws = k) (hx : s.ws[k]? = some x) (hbase : base ≤ w.heap.size) :
    Calls Tryz.prog 24 #[.pointer (some ⟨b, 0, none⟩), .int .i64 no, .bool on] w (BookPost 29 base w b v (setS s k { x with paused := on }) (.bool true)) := by
  have HB := Lib.hid hB
  have HI := Lib.hid h
  have HX := Lib.hid hx
  have hk : k < s.ws.length := (List.getElem?_eq_some_iff.1 hx).1
  have hfew := hB.few
  obtain ⟨g, cap, rfl⟩ : ∃ g cap, v = .slice (some ⟨g, 0, none⟩) s.ws.length cap := by
    obtain ⟨_, ⟨_, h0⟩ | ⟨g, cap, cur, hv, _⟩⟩ := hB.own
    · omega
    · exact ⟨g, cap, hv⟩
  obtain ⟨g, off, hg, c0, c1, c2, c3, c4, c5, c6⟩ := RowsW.at (a := some ⟨g, 0, none⟩) (l := s.ws) (w := w) (by obtain ⟨a', cap', hv', _, hc⟩ := hB.rows; cases hv'; exact hc) hx
  cases hg
  rw [Nat.zero_add] at c0 c1 c2 c3 c4 c5 c6
  have a0 := hB.c0
  have a1 := hB.c1
  have a2 := hB.c2
  have k0 : (0 : Int) ≤ (k : Int) := by omega
  have k1 : (k : Int) < (s.ws.length : Int) := by omega
  clear hB h hx
  have HW := Lib.hid hbase
  go_enter Tryz.func24, Tryz.ntmps24
  go_wp2_with fail
  refine (rbno_any s.room s.last _ s.ws no _ HB.out.rows).mono ?_
  rintro e w1 ⟨rfl, hb1⟩
  rw [HI.out]
  have HA1 := Lib.hid (HB.out.below hb1)
  have HB1 := Lib.hid hb1
  have e2 := HA1.out.c2
  have hbw1 := HA1.out.lt
  have hgw1 : g < w1.heap.size := World.block_lt_of_cell? w1 _ (cell_below hb1 c0)
  have d0 := cell_below hb1 c0
  have d1 := cell_below hb1 c1
  have d2 := cell_below hb1 c2
  have d3 := cell_below hb1 c3
  have d4 := cell_below hb1 c4
  have d5 := cell_below hb1 c5
  have d6 := cell_below hb1 c6
  clear hb1 c0 c1 c2 c3 c4 c5 c6 a0 a1 a2
  go_wp2_with fail
  refine (rbset_any k x { x with paused := on } _ (HA1.out.below box_below) HX.out (by have := HW.out; have := HB1.out.size; simp; omega)).mono ?_
  rintro e w3 hp
  have HP := Lib.hid (post_from (HB1.out.trans (box_below.mono HB1.out.size)) hp)
  obtain ⟨rfl, -⟩ := hp
  go_wp2
  go_ret
  exact post_ret HP.out
set_option maxRecDepth 100000 in
set_option maxHeartbeats 1000000 in
theorem rbgive_none {base b : Nat} {v : Value} {s : Bk} (no : Int) (op : Int) (w : World) (hB : BookAt 29 base w b v s) (h : findI (noB no) s.ws = -1) :
    Calls Tryz.prog 26 #[.pointer (some ⟨b, 0, none⟩), .int .i64 no, .int .i64 op] w (BookPost 29 base w b v s (.bool false)) := by
  have HB := Lib.hid hB
  have HI := Lib.hid h
  have a0 := hB.c0
  have a1 := hB.c1
  have a2 := hB.c2
  clear hB h
  go_enter Tryz.func26, Tryz.ntmps26
  go_wp2_with fail
  refine (rbno_any s.room s.last _ s.ws no _ HB.out.rows).mono ?_
  rintro e w1 ⟨rfl, hb1⟩
  rw [HI.out]
  go_wp2
  go_ret
  exact post_same HB.out hb1
set_option maxRecDepth 100000 in
set_option maxHeartbeats 1000000 in
theorem rbgive_some {base b : Nat} {v : Value} {s : Bk} (no : Int) (op : Int) (k : Nat) (x : Wk) (w : World) (hB : BookAt 29 base w b v s) (h : findI (noB no) s.ws = k) (hx : s.ws[k]? = some x) (hn : x.op = 0) (h1 : 1 ≤ op) (hbase : base ≤ w.heap.size) :
    Calls Tryz.prog 26 #[.pointer (some ⟨b, 0, none⟩), .int .i64 no, .int .i64 op] w (BookPost 29 base w b v (setS s k { x with op := op }) (.bool true)) := by
  have HB := Lib.hid hB
  have HI := Lib.hid h
  have HX := Lib.hid hx
  have hk : k < s.ws.length := (List.getElem?_eq_some_iff.1 hx).1
  have hfew := hB.few
  obtain ⟨g, cap, rfl⟩ : ∃ g cap, v = .slice (some ⟨g, 0, none⟩) s.ws.length cap := by
    obtain ⟨_, ⟨_, h0⟩ | ⟨g, cap, cur, hv, _⟩⟩ := hB.own
    · omega
    · exact ⟨g, cap, hv⟩
  obtain ⟨g, off, hg, c0, c1, c2, c3, c4, c5, c6⟩ := RowsW.at (a := some ⟨g, 0, none⟩) (l := s.ws) (w := w) (by obtain ⟨a', cap', hv', _, hc⟩ := hB.rows; cases hv'; exact hc) hx
  cases hg
  rw [Nat.zero_add] at c0 c1 c2 c3 c4 c5 c6
  have a0 := hB.c0
  have a1 := hB.c1
  have a2 := hB.c2
  have k0 : (0 : Int) ≤ (k : Int) := by omega
  have k1 : (k : Int) < (s.ws.length : Int) := by omega
  clear hB h hx
  have hnb : (x.op != 0) = false := by rw [hn]; rfl
  clear hn
  have HW := Lib.hid hbase
  go_enter Tryz.func26, Tryz.ntmps26
  go_wp2_with fail
  refine (rbno_any s.room s.last _ s.ws no _ HB.out.rows).mono ?_
  rintro e w1 ⟨rfl, hb1⟩
  rw [HI.out]
  have HA1 := Lib.hid (HB.out.below hb1)
  have HB1 := Lib.hid hb1
  have e2 := HA1.out.c2
  have hbw1 := HA1.out.lt
  have hgw1 : g < w1.heap.size := World.block_lt_of_cell? w1 _ (cell_below hb1 c0)
  have d0 := cell_below hb1 c0
  have d1 := cell_below hb1 c1
  have d2 := cell_below hb1 c2
  have d3 := cell_below hb1 c3
  have d4 := cell_below hb1 c4
  have d5 := cell_below hb1 c5
  have d6 := cell_below hb1 c6
  clear hb1 c0 c1 c2 c3 c4 c5 c6 a0 a1 a2
  go_wp2_with fail
  refine (rbset_any k x { x with op := op } _ (HA1.out.below box_below) HX.out (by have := HW.out; have := HB1.out.size; simp; omega)).mono ?_
  rintro e w3 hp
  have HP := Lib.hid (post_from (HB1.out.trans (box_below.mono HB1.out.size)) hp)
  obtain ⟨rfl, -⟩ := hp
  go_wp2
  go_ret
  exact post_ret HP.out
set_option maxRecDepth 100000 in
set_option maxHeartbeats 1000000 in
theorem rbfree_none {base b : Nat} {v : Value} {s : Bk} (no : Int) (w : World) (hB : BookAt 29 base w b v s) (h : findI (noB no) s.ws = -1) :
    Calls Tryz.prog 28 #[.pointer (some ⟨b, 0, none⟩), .int .i64 no] w (BookPost 29 base w b v s (.bool false)) := by
  have HB := Lib.hid hB
  have HI := Lib.hid h
  have a0 := hB.c0
  have a1 := hB.c1
  have a2 := hB.c2
  clear hB h
  go_enter Tryz.func28, Tryz.ntmps28
  go_wp2_with fail
  refine (rbno_any s.room s.last _ s.ws no _ HB.out.rows).mono ?_
  rintro e w1 ⟨rfl, hb1⟩
  rw [HI.out]
  go_wp2
  go_ret
  exact post_same HB.out hb1
set_option maxRecDepth 100000 in
set_option maxHeartbeats 1000000 in
theorem rbfree_some {base b : Nat} {v : Value} {s : Bk} (no : Int) (k : Nat) (x : Wk) (w : World) (hB : BookAt 29 base w b v s) (h : findI (noB no) s.ws = k) (hx : s.ws[k]? = some x) (hn : x.op ≠ 0) (hbase : base ≤ w.heap.size) :
    Calls Tryz.prog 28 #[.pointer (some ⟨b, 0, none⟩), .int .i64 no] w (BookPost 29 base w b v (setS s k { x with op := 0 }) (.bool true)) := by
  have HB := Lib.hid hB
  have HI := Lib.hid h
  have HX := Lib.hid hx
  have hk : k < s.ws.length := (List.getElem?_eq_some_iff.1 hx).1
  have hfew := hB.few
  obtain ⟨g, cap, rfl⟩ : ∃ g cap, v = .slice (some ⟨g, 0, none⟩) s.ws.length cap := by
    obtain ⟨_, ⟨_, h0⟩ | ⟨g, cap, cur, hv, _⟩⟩ := hB.own
    · omega
    · exact ⟨g, cap, hv⟩
  obtain ⟨g, off, hg, c0, c1, c2, c3, c4, c5, c6⟩ := RowsW.at (a := some ⟨g, 0, none⟩) (l := s.ws) (w := w) (by obtain ⟨a', cap', hv', _, hc⟩ := hB.rows; cases hv'; exact hc) hx
  cases hg
  rw [Nat.zero_add] at c0 c1 c2 c3 c4 c5 c6
  have a0 := hB.c0
  have a1 := hB.c1
  have a2 := hB.c2
  have k0 : (0 : Int) ≤ (k : Int) := by omega
  have k1 : (k : Int) < (s.ws.length : Int) := by omega
  clear hB h hx
  have hnb : (x.op == 0) = false := beq_eq_false_iff_ne.2 hn
  clear hn
  have HW := Lib.hid hbase
  go_enter Tryz.func28, Tryz.ntmps28
  go_wp2_with fail
  refine (rbno_any s.room s.last _ s.ws no _ HB.out.rows).mono ?_
  rintro e w1 ⟨rfl, hb1⟩
  rw [HI.out]
  have HA1 := Lib.hid (HB.out.below hb1)
  have HB1 := Lib.hid hb1
  have e2 := HA1.out.c2
  have hbw1 := HA1.out.lt
  have hgw1 : g < w1.heap.size := World.block_lt_of_cell? w1 _ (cell_below hb1 c0)
  have d0 := cell_below hb1 c0
  have d1 := cell_below hb1 c1
  have d2 := cell_below hb1 c2
  have d3 := cell_below hb1 c3
  have d4 := cell_below hb1 c4
  have d5 := cell_below hb1 c5
  have d6 := cell_below hb1 c6
  clear hb1 c0 c1 c2 c3 c4 c5 c6 a0 a1 a2
  go_wp2_with fail
  refine (rbset_any k x { x with op := 0 } _ (HA1.out.below box_below) HX.out (by have := HW.out; have := HB1.out.size; simp; omega)).mono ?_
  rintro e w3 hp
  have HP := Lib.hid (post_from (HB1.out.trans (box_below.mono HB1.out.size)) hp)
  obtain ⟨rfl, -⟩ := hp
  go_wp2
  go_ret
  exact post_ret HP.out
set_option maxRecDepth 100000 in
set_option maxHeartbeats 1000000 in
theorem rbgive_no {base b : Nat} {v : Value} {s : Bk} (no : Int) (op : Int) (k : Nat) (x : Wk) (w : World) (hB : BookAt 29 base w b v s) (h : findI (noB no) s.ws = k) (hx : s.ws[k]? = some x) (hn : x.op ≠ 0 ∨ op < 1) :
    Calls Tryz.prog 26 #[.pointer (some ⟨b, 0, none⟩), .int .i64 no, .int .i64 op] w (BookPost 29 base w b v s (.bool false)) := by
  have HB := Lib.hid hB
  have HI := Lib.hid h
  have HX := Lib.hid hx
  have hk : k < s.ws.length := (List.getElem?_eq_some_iff.1 hx).1
  have hfew := hB.few
  obtain ⟨g, cap, rfl⟩ : ∃ g cap, v = .slice (some ⟨g, 0, none⟩) s.ws.length cap := by
    obtain ⟨_, ⟨_, h0⟩ | ⟨g, cap, cur, hv, _⟩⟩ := hB.own
    · omega
    · exact ⟨g, cap, hv⟩
  obtain ⟨g, off, hg, c0, c1, c2, c3, c4, c5, c6⟩ := RowsW.at (a := some ⟨g, 0, none⟩) (l := s.ws) (w := w) (by obtain ⟨a', cap', hv', _, hc⟩ := hB.rows; cases hv'; exact hc) hx
  cases hg
  rw [Nat.zero_add] at c0 c1 c2 c3 c4 c5 c6
  have a0 := hB.c0
  have a1 := hB.c1
  have a2 := hB.c2
  have k0 : (0 : Int) ≤ (k : Int) := by omega
  have k1 : (k : Int) < (s.ws.length : Int) := by omega
  clear hB h hx
  by_cases hz : x.op = 0
  · have h1 : op < 1 := by omega
    have hnb : (x.op != 0) = false := by rw [hz]; rfl
    clear hz hn
    go_enter Tryz.func26, Tryz.ntmps26
    go_wp2_with fail
    refine (rbno_any s.room s.last _ s.ws no _ HB.out.rows).mono ?_
    rintro e w1 ⟨rfl, hb1⟩
    rw [HI.out]
    have HA1 := Lib.hid (HB.out.below hb1)
    have HB1 := Lib.hid hb1
    have e2 := HA1.out.c2
    have hbw1 := HA1.out.lt
    have hgw1 : g < w1.heap.size := World.block_lt_of_cell? w1 _ (cell_below hb1 c0)
    have d0 := cell_below hb1 c0
    have d1 := cell_below hb1 c1
    have d2 := cell_below hb1 c2
    have d3 := cell_below hb1 c3
    have d4 := cell_below hb1 c4
    have d5 := cell_below hb1 c5
    have d6 := cell_below hb1 c6
    clear hb1 c0 c1 c2 c3 c4 c5 c6 a0 a1 a2
    go_wp2
    go_ret
    exact post_same HB.out HB1.out
  · have hnb : (x.op != 0) = true := by rw [bne_iff_ne]; exact hz
    clear hz hn
    go_enter Tryz.func26, Tryz.ntmps26
    go_wp2_with fail
    refine (rbno_any s.room s.last _ s.ws no _ HB.out.rows).mono ?_
    rintro e w1 ⟨rfl, hb1⟩
    rw [HI.out]
    have HA1 := Lib.hid (HB.out.below hb1)
    have HB1 := Lib.hid hb1
    have e2 := HA1.out.c2
    have hbw1 := HA1.out.lt
    have hgw1 : g < w1.heap.size := World.block_lt_of_cell? w1 _ (cell_below hb1 c0)
    have d0 := cell_below hb1 c0
    have d1 := cell_below hb1 c1
    have d2 := cell_below hb1 c2
    have d3 := cell_below hb1 c3
    have d4 := cell_below hb1 c4
    have d5 := cell_below hb1 c5
    have d6 := cell_below hb1 c6
    clear hb1 c0 c1 c2 c3 c4 c5 c6 a0 a1 a2
    go_wp2
    go_ret
    exact post_same HB.out HB1.out
set_option maxRecDepth 100000 in
set_option maxHeartbeats 1000000 in
theorem rbfree_no {base b : Nat} {v : Value} {s : Bk} (no : Int) (k : Nat) (x : Wk) (w : World) (hB : BookAt 29 base w b v s) (h : findI (noB no) s.ws = k) (hx : s.ws[k]? = some x) (hn : x.op = 0) :
    Calls Tryz.prog 28 #[.pointer (some ⟨b, 0, none⟩), .int .i64 no] w (BookPost 29 base w b v s (.bool false)) := by
  have HB := Lib.hid hB
  have HI := Lib.hid h
  have HX := Lib.hid hx
  have hk : k < s.ws.length := (List.getElem?_eq_some_iff.1 hx).1
  have hfew := hB.few
  obtain ⟨g, cap, rfl⟩ : ∃ g cap, v = .slice (some ⟨g, 0, none⟩) s.ws.length cap := by
    obtain ⟨_, ⟨_, h0⟩ | ⟨g, cap, cur, hv, _⟩⟩ := hB.own
    · omega
    · exact ⟨g, cap, hv⟩
  obtain ⟨g, off, hg, c0, c1, c2, c3, c4, c5, c6⟩ := RowsW.at (a := some ⟨g, 0, none⟩) (l := s.ws) (w := w) (by obtain ⟨a', cap', hv', _, hc⟩ := hB.rows; cases hv'; exact hc) hx
  cases hg
  rw [Nat.zero_add] at c0 c1 c2 c3 c4 c5 c6
  have a0 := hB.c0
  have a1 := hB.c1
  have a2 := hB.c2
  have k0 : (0 : Int) ≤ (k : Int) := by omega
  have k1 : (k : Int) < (s.ws.length : Int) := by omega
  clear hB h hx
  have hnb : (x.op == 0) = true := beq_iff_eq.2 hn
  clear hn
  go_enter Tryz.func28, Tryz.ntmps28
  go_wp2_with fail
  refine (rbno_any s.room s.last _ s.ws no _ HB.out.rows).mono ?_
  rintro e w1 ⟨rfl, hb1⟩
  rw [HI.out]
  have HA1 := Lib.hid (HB.out.below hb1)
  have HB1 := Lib.hid hb1
  have e2 := HA1.out.c2
  have hbw1 := HA1.out.lt
  have hgw1 : g < w1.heap.size := World.block_lt_of_cell? w1 _ (cell_below hb1 c0)
  have d0 := cell_below hb1 c0
  have d1 := cell_below hb1 c1
  have d2 := cell_below hb1 c2
  have d3 := cell_below hb1 c3
  have d4 := cell_below hb1 c4
  have d5 := cell_below hb1 c5
  have d6 := cell_below hb1 c6
  clear hb1 c0 c1 c2 c3 c4 c5 c6 a0 a1 a2
  go_wp2
  go_ret
  exact post_same HB.out HB1.out
set_option maxRecDepth 100000 in
set_option maxHeartbeats 1000000 in
theorem heard1_any (B g o : Nat) (old : Value) (u : Int) (w : World) (hp : w.cell? ⟨g, o + 6, none⟩ = some old) (hf : w.frozen? ⟨g, o + 6, none⟩ = false) (hB : w.cell? ⟨B, 0, none⟩ = some (.int .u64 u)) :
    Calls Tryz.prog 60 #[.pointer (some ⟨g, o, none⟩), .pointer (some ⟨B, 0, none⟩)] w fun e w' => e = .returned (.bool true) ∧ w' = w.setCell ⟨g, o + 6, none⟩ (.int .u64 u) := by
  go_enter Tryz.func60, Tryz.ntmps60
  go_wp2
  go_ret
  exact ⟨rfl, rfl⟩
set_option maxRecDepth 100000 in
set_option maxHeartbeats 1000000 in
theorem change_heard {base b : Nat} {v : Value} {s : Bk} (no : Int) (k : Nat) (x : Wk) (B : Nat) (u : Int) (w : World) (hB : BookAt 56 base w b v s) (h : findI (noB no) s.ws = k) (hx : s.ws[k]? = some x) (hop : w.cell? ⟨B, 0, none⟩ = some (.int .u64 u)) :
    Calls Tryz.prog 59 #[.pointer (some ⟨b, 0, none⟩), .int .i64 no, .func (.func 60) #[] #[.pointer (some ⟨B, 0, none⟩)]] w (BookPost 56 base w b v (setS s k { x with untl := u }) (.bool true)) := by
  have HB := Lib.hid hB
  have HI := Lib.hid h
  have HX := Lib.hid hx
  have hk : k < s.ws.length := (List.getElem?_eq_some_iff.1 hx).1
  have hfew := hB.few
  obtain ⟨g, cap, rfl⟩ : ∃ g cap, v = .slice (some ⟨g, 0, none⟩) s.ws.length cap := by
    obtain ⟨_, ⟨_, h0⟩ | ⟨g, cap, cur, hv, _⟩⟩ := hB.own
    · omega
    · exact ⟨g, cap, hv⟩
  obtain ⟨a', cap', hv', _, _, _, hcells⟩ := own_cells hB.own
  cases hv'
  obtain ⟨g', hg', _, _, hc0, hf0⟩ := hcells (k * 7 + 6) (.int .u64 x.untl) (by rw [flatW_get 6 hx (by omega)]; rfl)
  cases hg'
  clear hB h hx hcells
  go_enter Tryz.func59, Tryz.ntmps59
  go_wp2_with fail
  refine (at_any no _ HB.out).mono ?_
  rintro e w1 ⟨rfl, hb1⟩
  rw [HI.out]
  have HA1 := Lib.hid (HB.out.below hb1)
  have HB1 := Lib.hid hb1
  have c2 := HA1.out.c2
  have k2 := cell_below hb1 hc0
  have m2 : w1.frozen? ⟨g, k * 7 + 6, none⟩ = false := by rw [hb1.frozen (by have := World.block_lt_of_cell? w _ hc0; simpa using this)]; exact hf0
  have kop := cell_below hb1 hop
  clear hb1 hc0 hf0
  go_wp2_with fail
  refine (heard1_any B g (k * 7) _ u _ k2 m2 kop).mono ?_
  rintro e w2 ⟨rfl, rfl⟩
  go_wp2
  go_ret
  exact ⟨rfl, _, book_field (by decide) HA1.out rfl HX.out (by omega) rfl, (Fr.of_below HB1.out).setCell (.inl (by simp [blk_slice])) _, fun j hj => .inl hj⟩
set_option maxRecDepth 100000 in
set_option maxHeartbeats 1000000 in
theorem heard_none {base b : Nat} {v : Value} {s : Bk} (no : Int) (u : Int) (w : World) (hB : BookAt 56 base w b v s) (h : findI (noB no) s.ws = -1) :
    Calls Tryz.prog 21 #[.pointer (some ⟨b, 0, none⟩), .int .i64 no, .int .u64 u] w (BookPost 56 base w b v s (.bool false)) := by
  have HB := Lib.hid hB
  have HI := Lib.hid h
  clear hB h
  go_enter Tryz.func21, Tryz.ntmps21
  go_wp2_with fail
  refine (change_none no _ _ (HB.out.below box_below) HI.out).mono ?_
  rintro e w1 ⟨rfl, hb1⟩
  go_wp2
  go_ret
  exact post_same HB.out (box_below.trans (hb1.mono (by simp)))
set_option maxRecDepth 100000 in
set_option maxHeartbeats 1000000 in
theorem heard_some {base b : Nat} {v : Value} {s : Bk} (no : Int) (u : Int) (k : Nat) (x : Wk) (w : World) (hB : BookAt 56 base w b v s) (h : findI (noB no) s.ws = k) (hx : s.ws[k]? = some x) :
    Calls Tryz.prog 21 #[.pointer (some ⟨b, 0, none⟩), .int .i64 no, .int .u64 u] w (BookPost 56 base w b v (setS s k { x with untl := u }) (.bool true)) := by
  have HB := Lib.hid hB
  have HI := Lib.hid h
  have HX := Lib.hid hx
  clear hB h hx
  go_enter Tryz.func21, Tryz.ntmps21
  go_wp2_with fail
  refine (change_heard no k x _ u _ (HB.out.below box_below) HI.out HX.out (by simp)).mono ?_
  rintro e w1 hp
  have HP := Lib.hid (post_box hp)
  obtain ⟨rfl, -⟩ := hp
  go_wp2
  go_ret
  exact HP.out
set_option maxRecDepth 100000 in
set_option maxHeartbeats 1000000 in
theorem pause1_any (B g o : Nat) (old : Value) (on : Bool) (w : World) (hp : w.cell? ⟨g, o + 5, none⟩ = some old) (hf : w.frozen? ⟨g, o + 5, none⟩ = false) (hB : w.cell? ⟨B, 0, none⟩ = some (.bool on)) :
    Calls Tryz.prog 62 #[.pointer (some ⟨g, o, none⟩), .pointer (some ⟨B, 0, none⟩)] w fun e w' => e = .returned (.bool true) ∧ w' = w.setCell ⟨g, o + 5, none⟩ (.bool on) := by
  go_enter Tryz.func62, Tryz.ntmps62
  go_wp2
  go_ret
  exact ⟨rfl, rfl⟩
set_option maxRecDepth 100000 in
set_option maxHeartbeats 1000000 in
theorem change_pause {base b : Nat} {v : Value} {s : Bk} (no : Int) (k : Nat) (x : Wk) (B : Nat) (on : Bool) (w : World) (hB : BookAt 56 base w b v s) (h : findI (noB no) s.ws = k) (hx : s.ws[k]? = some x) (hop : w.cell? ⟨B, 0, none⟩ = some (.bool on)) :
    Calls Tryz.prog 59 #[.pointer (some ⟨b, 0, none⟩), .int .i64 no, .func (.func 62) #[] #[.pointer (some ⟨B, 0, none⟩)]] w (BookPost 56 base w b v (setS s k { x with paused := on }) (.bool true)) := by
  have HB := Lib.hid hB
  have HI := Lib.hid h
  have HX := Lib.hid hx
  have hk : k < s.ws.length := (List.getElem?_eq_some_iff.1 hx).1
  have hfew := hB.few
  obtain ⟨g, cap, rfl⟩ : ∃ g cap, v = .slice (some ⟨g, 0, none⟩) s.ws.length cap := by
    obtain ⟨_, ⟨_, h0⟩ | ⟨g, cap, cur, hv, _⟩⟩ := hB.own
    · omega
    · exact ⟨g, cap, hv⟩
  obtain ⟨a', cap', hv', _, _, _, hcells⟩ := own_cells hB.own
  cases hv'
  obtain ⟨g', hg', _, _, hc0, hf0⟩ := hcells (k * 7 + 5) (.bool x.paused) (by rw [flatW_get 5 hx (by omega)]; rfl)
  cases hg'
  clear hB h hx hcells
  go_enter Tryz.func59, Tryz.ntmps59
  go_wp2_with fail
  refine (at_any no _ HB.out).mono ?_
  rintro e w1 ⟨rfl, hb1⟩
  rw [HI.out]
  have HA1 := Lib.hid (HB.out.below hb1)
  have HB1 := Lib.hid hb1
  have c2 := HA1.out.c2
  have k2 := cell_below hb1 hc0
  have m2 : w1.frozen? ⟨g, k * 7 + 5, none⟩ = false := by rw [hb1.frozen (by have := World.block_lt_of_cell? w _ hc0; simpa using this)]; exact hf0
  have kop := cell_below hb1 hop
  clear hb1 hc0 hf0
  go_wp2_with fail
  refine (pause1_any B g (k * 7) _ on _ k2 m2 kop).mono ?_
  rintro e w2 ⟨rfl, rfl⟩
  go_wp2
  go_ret
  exact ⟨rfl, _, book_field (by decide) HA1.out rfl HX.out (by omega) rfl, (Fr.of_below HB1.out).setCell (.inl (by simp [blk_slice])) _, fun j hj => .inl hj⟩
set_option maxRecDepth 100000 in
set_option maxHeartbeats 1000000 in
theorem pause_none {base b : Nat} {v : Value} {s : Bk} (no : Int) (on : Bool) (w : World) (hB : BookAt 56 base w b v s) (h : findI (noB no) s.ws = -1) :
    Calls Tryz.prog 23 #[.pointer (some ⟨b, 0, none⟩), .int .i64 no, .bool on] w (BookPost 56 base w b v s (.bool false)) := by
  have HB := Lib.hid hB
  have HI := Lib.hid h
  clear hB h
  go_enter Tryz.func23, Tryz.ntmps23
  go_wp2_with fail
  refine (change_none no _ _ (HB.out.below box_below) HI.out).mono ?_
  rintro e w1 ⟨rfl, hb1⟩
  go_wp2
  go_ret
  exact post_same HB.out (box_below.trans (hb1.mono (by simp)))
set_option maxRecDepth 100000 in
set_option maxHeartbeats 1000000 in
theorem pause_some {base b : Nat} {v : Value} {s : Bk} (no : Int) (on : Bool) (k : Nat) (x : Wk) (w : World) (hB : BookAt 56 base w b v s) (h : findI (noB no) s.ws = k) (hx : s.ws[k]? = some x) :
    Calls Tryz.prog 23 #[.pointer (some ⟨b, 0, none⟩), .int .i64 no, .bool on] w (BookPost 56 base w b v (setS s k { x with paused := on }) (.bool true)) := by
  have HB := Lib.hid hB
  have HI := Lib.hid h
  have HX := Lib.hid hx
  clear hB h hx
  go_enter Tryz.func23, Tryz.ntmps23
  go_wp2_with fail
  refine (change_pause no k x _ on _ (HB.out.below box_below) HI.out HX.out (by simp)).mono ?_
  rintro e w1 hp
  have HP := Lib.hid (post_box hp)
  obtain ⟨rfl, -⟩ := hp
  go_wp2
  go_ret
  exact HP.out
end Go.Proofs.YtmijmfgclmaodaaGreatDoor
