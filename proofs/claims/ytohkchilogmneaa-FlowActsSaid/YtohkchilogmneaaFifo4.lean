/-
  fifo.Queue: Drop, Pop: the walks.
-/
import Derived.Test.YtohkchilogmneaaFifo3
import Derived.Test.YtohkchilogmneaaQDrop
import Derived.IntWalk
namespace Go.Proofs.Ytohkchilogmneaa
open Go.RowKit

theorem item_sz (x : It) : (Try.prog.info? 37).map (·.size) = some (#[.int .i64 x.id, .int .i64 x.cost] : Array Value).size := by
  obtain ⟨i0, hi, _, h1, _⟩ := info_parts item_info
  rw [hi]
  simp [h1]
theorem item_one (x : It) : (#[.int .i64 x.id, .int .i64 x.cost] : Array Value).all (·.oneCell') = true := by simp [Value.oneCell']
def DropPost (pre : List Int) (ρ : Roles) (w : World) (q : Nat) (l : List It) (x : It) (e : Ending) (w' : World) : Prop :=
  e = .returned (.tuple #[.agg #[.int .i64 x.id, .int .i64 x.cost], .bool true]) ∧ Fp (Part ρ pre) w w' ∧ QueAt pre ρ w' q (dropIt l x.id)
section
variable {pre : List Int} {ρ : Roles} {q : Nat} {l : List It}
set_option maxRecDepth 100000 in
set_option maxHeartbeats 2000000 in
theorem fifoDrop_nil (id : Int) (w : World) : Calls Try.prog 54 #[.pointer none, .int .i64 id] w fun e w' => e = .returned (.tuple #[.agg #[.int .i64 0, .int .i64 0], .bool false]) ∧ Below w.heap.size w w' := by
  go_enter Try.func54, Try.ntmps54
  go_wp2_with fail
  refine (fifoHas_nil id _).mono ?_
  rintro e w1 ⟨rfl, rfl⟩
  go_wp2
  refine bodyPost_ret (v := .tuple #[.agg #[.int .i64 0, .int .i64 0], .bool false]) (by simp [results, Try.results54, go_sem]) rfl ⟨rfl, ?_⟩
  exact box_below
set_option maxRecDepth 100000 in
set_option maxHeartbeats 2000000 in
theorem fifoDrop_none (id : Int) (w : World) (hQ : QueAt pre ρ w q l) (hid : I64 id) (h : hasIt id l = false) : Calls Try.prog 54 #[.pointer (some ⟨q, 0, none⟩), .int .i64 id] w fun e w' => e = .returned (.tuple #[.agg #[.int .i64 0, .int .i64 0], .bool false]) ∧ Below w.heap.size w w' := by
  have HQ := Lib.hid hQ
  have HI := Lib.hid hid
  have HH := Lib.hid h
  clear hQ hid h
  go_enter Try.func54, Try.ntmps54
  go_wp2_with fail
  refine (fifoHas_any (pre := pre) (ρ := ρ) id _ (HQ.out.below box_below) HI.out).mono ?_
  rintro e w1 ⟨rfl, rfl⟩
  rw [HH.out]
  go_wp2
  refine bodyPost_ret (v := .tuple #[.agg #[.int .i64 0, .int .i64 0], .bool false]) (by simp [results, Try.results54, go_sem]) rfl ⟨rfl, ?_⟩
  exact box_below
set_option maxRecDepth 100000 in
set_option maxHeartbeats 2000000 in
theorem fifoDrop_oo (x : It) (i : Nat) (w : World) (hQ : QueAt pre ρ w q l) (hx : l[i]? = some x) (h0 : i = 0) (hn : i + 1 = l.length) : Calls Try.prog 54 #[.pointer (some ⟨q, 0, none⟩), .int .i64 x.id] w (DropPost pre ρ w q l x) := by
  obtain ⟨m, lk, D, hq⟩ := hQ
  have HQ := Lib.hid hq
  have HX := Lib.hid hx
  have HHX := Lib.hid (show hasIt x.id l = true from has_iff.2 ⟨i, x, hx, rfl⟩)
  have HI := Lib.hid (hq.good.ok x (List.mem_of_getElem? hx)).2.1
  obtain ⟨s0, s1⟩ := cost_bounds hq.good.ok
  have s5 := (hq.good.ok x (List.mem_of_getElem? hx)).2.2
  have s6 := hq.good.few
  obtain ⟨sm, hsm⟩ : ∃ sm, sm = costIt l := ⟨_, rfl⟩
  have HSM := Lib.hid hsm
  have s3 : 0 ≤ sm := by omega
  have s4 : sm ≤ 64000000 := by omega
  obtain ⟨s7, s8⟩ := s5
  have HWR := Lib.hid (show IntKind.i64.wrap (sm - x.cost) = sm - x.cost from IntWalk.i64_in _ (by omega))
  have hqw : q < w.heap.size := fp_lt_of_heap hq.head
  have hqm : q ≠ m := fun e => by have h1 := hq.rq; rw [e, hq.rm] at h1; simp at h1
  have hlx := hq.link i x hx
  have hlxw := fp_lt_of_heap hlx.2
  have hqx : q ≠ lk x.id := fun e => by have h1 := hq.rq; rw [e, hlx.1] at h1; simp at h1
  have hxm : lk x.id ≠ m := fun e => by have h1 := hq.rm; rw [← e, hlx.1] at h1; simp at h1
  have hh0 : w.heap[q]? = some (.cells #[lkP lk l.head?, lkP lk l.getLast?, .map (some m), .int .i64 sm] 149 (0, 0)) := by rw [hsm]; exact hq.head
  have HH0 := Lib.hid hh0
  have hx0 : w.heap[lk x.id]? = some (.cells #[.int .i64 x.id, .int .i64 x.cost, .pointer none, .pointer none] 152 (0, 0)) := by
    have h := hlx.2
    unfold linkC at h
    rw [show prevI l i = none by unfold prevI; rw [if_pos h0]] at h
    rw [List.getElem?_eq_none (show l.length ≤ i + 1 by omega)] at h
    exact h
  have HX0 := Lib.hid hx0
  have HN0 := Lib.hid h0
  have HN1 := Lib.hid hn
  have hmw := hq.map.lt
  have hne_x : w.heap.size ≠ lk x.id := by omega
  have hne_q : w.heap.size ≠ q := by omega
  clear s0 s1 s6 hq hx hlx hsm hh0 hx0 h0 hn
  go_enter Try.func54, Try.ntmps54
  go_wp2_with fail
  refine (fifoHas_any (pre := pre) (ρ := ρ) x.id _ (QueAt.below ⟨m, lk, D, HQ.out⟩ box_below) HI.out).mono ?_
  rintro e w1 ⟨rfl, rfl⟩
  rw [HHX.out]
  go_upto_region 3 with fail
  obtain ⟨w2, hw2⟩ : ∃ w2 : World, w2 = w.alloc (.cells #[.int .i64 0, .int .i64 0] 37) := ⟨_, rfl⟩
  rw [← hw2]
  have HB2 := Lib.hid (show Below w.heap.size w w2 by rw [hw2]; exact box_below)
  have HR2 := Lib.hid (show w2.heap[w.heap.size]? = some (.cells #[.int .i64 0, .int .i64 0] 37 (0, 0)) by rw [hw2]; exact fr_alloc_at)
  have HHQ2 := Lib.hid ((HB2.out.block q hqw).trans HH0.out)
  have HHX2 := Lib.hid ((HB2.out.block _ hlxw).trans HX0.out)
  have HQ2 := Lib.hid (HQ.out.below HB2.out)
  have HF2 := Lib.hid (Fp.of_below (S := (fun k => k = q)) HB2.out)
  clear hw2
  have c2 := HQ2.out.c2
  have x2 : w2.cell? ⟨lk x.id, 2, none⟩ = some (.pointer none) := fr_cell_of_heap HHX2.out rfl
  have x3 : w2.cell? ⟨lk x.id, 3, none⟩ = some (.pointer none) := fr_cell_of_heap HHX2.out rfl
  have c0 := HQ2.out.c0
  have g0 := fr_free_of_heap (i := 0) HHQ2.out
  go_upto_region 7 with (at_lookup; refine wpList_lookup_lk (by rfl) _ _ rfl HQ2.out rfl x.id rfl HI.out (.pointer (some ⟨lk x.id, 0, none⟩)) (.inl ⟨HHX.out, rfl⟩) ?_)
  obtain ⟨w3, hw3⟩ : ∃ w3 : World, w3 = (w2.setCell ⟨q, 0, none⟩ (.pointer none)) := ⟨_, rfl⟩
  rw [← hw3]
  have HHQ3 := Lib.hid (show w3.heap[q]? = some (.cells #[.pointer none, lkP lk l.getLast?, .map (some m), .int .i64 sm] 149 (0, 0)) by rw [hw3]; exact fr_setCell_at HHQ2.out)
  have HHX3 := Lib.hid ((show w3.heap[lk x.id]? = w2.heap[lk x.id]? by rw [hw3]; exact fr_setCell_other (w := w2) (Ne.symm hqx)).trans HHX2.out)
  have HR3 := Lib.hid ((show w3.heap[w.heap.size]? = w2.heap[w.heap.size]? by rw [hw3]; exact fr_setCell_other (w := w2) hne_q).trans HR2.out)
  have HM3 := Lib.hid (show w3.ownsMap Try.prog 3 lkR m l.length D by rw [hw3]; exact HQ2.out.map.setCell (Ne.symm hqm) _)
  have HF3 := Lib.hid (show Fp (fun k => k = q) w w3 by rw [hw3]; exact HF2.out.setCell (p := ⟨q, 0, none⟩) (fun _ => rfl) _)
  clear hw3 c2 x2 x3 c0 g0
  have x2 : w3.cell? ⟨lk x.id, 2, none⟩ = some (.pointer none) := fr_cell_of_heap HHX3.out rfl
  have x3 : w3.cell? ⟨lk x.id, 3, none⟩ = some (.pointer none) := fr_cell_of_heap HHX3.out rfl
  have c1 := fr_cell_of_heap HHQ3.out (i := 1) rfl
  have g1 := fr_free_of_heap (i := 1) HHQ3.out
  go_upto_region 10 with fail
  obtain ⟨w4, hw4⟩ : ∃ w4 : World, w4 = w3.setCell ⟨q, 1, none⟩ (.pointer none) := ⟨_, rfl⟩
  rw [← hw4]
  have HHQ4 := Lib.hid (show w4.heap[q]? = some (.cells #[.pointer none, .pointer none, .map (some m), .int .i64 sm] 149 (0, 0)) by rw [hw4]; exact fr_setCell_at HHQ3.out)
  have HHX4 := Lib.hid ((show w4.heap[lk x.id]? = w3.heap[lk x.id]? by rw [hw4]; exact fr_setCell_other (w := w3) (Ne.symm hqx)).trans HHX3.out)
  have HR4 := Lib.hid ((show w4.heap[w.heap.size]? = w3.heap[w.heap.size]? by rw [hw4]; exact fr_setCell_other (w := w3) hne_q).trans HR3.out)
  have HM4 := Lib.hid (show w4.ownsMap Try.prog 3 lkR m l.length D by rw [hw4]; exact HM3.out.setCell (Ne.symm hqm) _)
  have HF4 := Lib.hid (show Fp (fun k => k = q) w w4 by rw [hw4]; exact HF3.out.setCell (p := ⟨q, 1, none⟩) (fun _ => rfl) _)
  clear hw4 x2 x3 c1 g1
  have c2 : w4.cell? ⟨q, 2, none⟩ = some (.map (some m)) := fr_cell_of_heap HHQ4.out rfl
  go_upto_region 11 with (at_delete; refine wpList_delete_own _ rfl _ _ 146 3 rfl 147 keyT Try.underlying146 lkR m l.length D rfl HM4.out _ (keyI x.id) rfl (keyI_of HI.out) ?_; intro w5 hown5 hturn5)
  have hg5 := hturn5.grown
  have HM5 := Lib.hid hown5
  have HHQ5 := Lib.hid ((hg5.block q (fp_lt_of_heap HHQ4.out) (by simp; exact hqm)).trans HHQ4.out)
  have HHX5 := Lib.hid ((hg5.block _ (fp_lt_of_heap HHX4.out) (by simp; exact hxm)).trans HHX4.out)
  have HR5 := Lib.hid ((hg5.block w.heap.size (fp_lt_of_heap HR4.out) (by simp; omega)).trans HR4.out)
  have HF5 := Lib.hid (show Fp (fun k => k = q ∨ k = m) w w5 from (HF4.out.mono (S' := (fun k => k = q ∨ k = m)) (fun k hk => by first | exact .inl hk | (rcases hk with hk | hk | hk <;> simp [hk]) | (rcases hk with hk | hk <;> simp [hk]))).grown hg5 (fun k _ hk => by simp at hk; simp [hk]))
  clear hown5 hturn5 hg5 c2
  have c3 : w5.cell? ⟨q, 3, none⟩ = some (.int .i64 sm) := fr_cell_of_heap HHQ5.out rfl
  have f3 := fr_free_of_heap (i := 3) HHQ5.out
  have x0 : w5.cell? ⟨lk x.id, 0, none⟩ = some (.int .i64 x.id) := fr_cell_of_heap HHX5.out rfl
  have x1 : w5.cell? ⟨lk x.id, 1, none⟩ = some (.int .i64 x.cost) := fr_cell_of_heap HHX5.out rfl
  go_region
  all_goals
    go_upto_region 12 with fail
    rw [HWR.out]
    obtain ⟨w6, hw6⟩ : ∃ w6 : World, w6 = (w5.setCell ⟨q, 3, none⟩ (.int .i64 (sm - x.cost))).drew := ⟨_, rfl⟩
    rw [← hw6]
    have HHQ6 := Lib.hid (show w6.heap[q]? = some (.cells #[.pointer none, .pointer none, .map (some m), .int .i64 (sm - x.cost)] 149 (0, 0)) by rw [hw6]; exact fr_setCell_at HHQ5.out)
    have HHX6 := Lib.hid ((show w6.heap[lk x.id]? = w5.heap[lk x.id]? by rw [hw6]; exact fr_setCell_other (w := w5) (Ne.symm hqx)).trans HHX5.out)
    have HR6 := Lib.hid ((show w6.heap[w.heap.size]? = w5.heap[w.heap.size]? by rw [hw6]; exact fr_setCell_other (w := w5) hne_q).trans HR5.out)
    have HM6 := Lib.hid (show w6.ownsMap Try.prog 3 lkR m l.length (D.del (keyI x.id)) by rw [hw6]; exact (HM5.out.setCell (Ne.symm hqm) _))
    have HF6 := Lib.hid (show Fp (fun k => k = q ∨ k = m) w w6 by rw [hw6]; exact (HF5.out.setCell (p := ⟨q, 3, none⟩) (fun _ => .inl rfl) _).drew)
    clear hw6 c3 f3 x0 x1
    have x0 : w6.cell? ⟨lk x.id, 0, none⟩ = some (.int .i64 x.id) := fr_cell_of_heap HHX6.out rfl
    have x1 : w6.cell? ⟨lk x.id, 1, none⟩ = some (.int .i64 x.cost) := fr_cell_of_heap HHX6.out rfl
    go_wp2_with (refine wpList_store_row rfl 37 _ _ rfl w.heap.size #[.int .i64 x.id, .int .i64 x.cost] rfl rfl 37 _ HR6.out (item_sz x) rfl (item_one x) ?_)
    refine bodyPost_ret (v := .tuple #[.agg #[.int .i64 x.id, .int .i64 x.cost], .bool true]) (results_row2 Try.results54 rfl rfl (setRow_heap w6 w.heap.size _ _ _ _ HR6.out) Try.underlying37 rfl (item_sz x)) rfl ⟨rfl, ?_, m, lk, D.del (keyI x.id), ?_⟩
    · refine (HF6.out.setRow (g := w.heap.size) (fun h => absurd h (by simp))).mono (fun k hk => ?_)
      rcases hk with rfl | rfl
      · exact ⟨_, HQ.out.rq⟩


      · exact ⟨_, HQ.out.rm⟩
    · rw [drop_erase HQ.out.good.once HX.out]
      have far : ∀ k, k ≠ w.heap.size → ∀ cs, (w6.setRow w.heap.size cs).heap[k]? = w6.heap[k]? := fun k hk cs => setRow_other w6 w.heap.size k cs hk
      have hn0 := HN0.out
      have hn1 := HN1.out
      refine drop_close HQ.out HX.out ?_ (Fp.row.ownMap HM6.out (by omega)) (fun j z hz hj => ?_)
      · rw [far q (Ne.symm hne_q), HHQ6.out, HSM.out]
        rw [if_pos hn0, show l[1]? = none by rw [List.getElem?_eq_none (by omega)]]
        rw [if_pos hn1, show prevI l i = none by unfold prevI; rw [if_pos hn0]]
        rfl
      · have hlz := HQ.out.link j z hz
        have hzw := fp_lt_of_heap hlz.2
        rw [far _ (by omega)]
        have h1 : lk z.id ≠ q := fun e => by have h1 := hlz.1; rw [e, HQ.out.rq] at h1; simp at h1
        have h2 : lk z.id ≠ m := fun e => by have h1 := hlz.1; rw [e, HQ.out.rm] at h1; simp at h1
        rw [HF6.out.block _ hzw (by simp [h1, h2]), hlz.2]
        unfold linkC linkD
        rw [if_neg (show ¬ j = i + 1 from fun e => by have := (List.getElem?_eq_some_iff.1 hz).1; omega)]
        rw [if_neg (show ¬ j + 1 = i by omega)]
set_option maxRecDepth 100000 in
set_option maxHeartbeats 2000000 in
theorem fifoDrop_on (x : It) (i : Nat) (w : World) (hQ : QueAt pre ρ w q l) (hx : l[i]? = some x) (h0 : i = 0) {n : It} (hn : l[i + 1]? = some n) : Calls Try.prog 54 #[.pointer (some ⟨q, 0, none⟩), .int .i64 x.id] w (DropPost pre ρ w q l x) := by
  obtain ⟨m, lk, D, hq⟩ := hQ
  have HQ := Lib.hid hq
  have HX := Lib.hid hx
  have HHX := Lib.hid (show hasIt x.id l = true from has_iff.2 ⟨i, x, hx, rfl⟩)
  have HI := Lib.hid (hq.good.ok x (List.mem_of_getElem? hx)).2.1
  obtain ⟨s0, s1⟩ := cost_bounds hq.good.ok
  have s5 := (hq.good.ok x (List.mem_of_getElem? hx)).2.2
  have s6 := hq.good.few
  obtain ⟨sm, hsm⟩ : ∃ sm, sm = costIt l := ⟨_, rfl⟩
  have HSM := Lib.hid hsm
  have s3 : 0 ≤ sm := by omega
  have s4 : sm ≤ 64000000 := by omega
  obtain ⟨s7, s8⟩ := s5
  have HWR := Lib.hid (show IntKind.i64.wrap (sm - x.cost) = sm - x.cost from IntWalk.i64_in _ (by omega))
  have hqw : q < w.heap.size := fp_lt_of_heap hq.head
  have hqm : q ≠ m := fun e => by have h1 := hq.rq; rw [e, hq.rm] at h1; simp at h1
  have hlx := hq.link i x hx
  have hlxw := fp_lt_of_heap hlx.2
  have hqx : q ≠ lk x.id := fun e => by have h1 := hq.rq; rw [e, hlx.1] at h1; simp at h1
  have hxm : lk x.id ≠ m := fun e => by have h1 := hq.rm; rw [← e, hlx.1] at h1; simp at h1
  have hh0 : w.heap[q]? = some (.cells #[lkP lk l.head?, lkP lk l.getLast?, .map (some m), .int .i64 sm] 149 (0, 0)) := by rw [hsm]; exact hq.head
  have HH0 := Lib.hid hh0
  have hx0 : w.heap[lk x.id]? = some (.cells #[.int .i64 x.id, .int .i64 x.cost, .pointer none, .pointer (some ⟨lk n.id, 0, none⟩)] 152 (0, 0)) := by
    have h := hlx.2
    unfold linkC at h
    rw [show prevI l i = none by unfold prevI; rw [if_pos h0]] at h
    rw [hn] at h
    exact h
  have HX0 := Lib.hid hx0
  have hln := hq.link (i + 1) n hn
  have hlnw := fp_lt_of_heap hln.2
  have hqn : q ≠ lk n.id := fun e => by have h1 := hq.rq; rw [e, hln.1] at h1; simp at h1
  have hnm : lk n.id ≠ m := fun e => by have h1 := hq.rm; rw [← e, hln.1] at h1; simp at h1
  have hxn : lk x.id ≠ lk n.id := fun e => by
    have h1 := hlx.1
    rw [e, hln.1] at h1
    simp at h1
    have := once_inj hq.good.once hn hx h1
    omega
  have HLN := Lib.hid hln
  have HNG := Lib.hid hn
  have HN0 := Lib.hid h0
  have HN1 := Lib.hid hn
  have hmw := hq.map.lt
  have hne_x : w.heap.size ≠ lk x.id := by omega
  have hne_q : w.heap.size ≠ q := by omega
  clear s0 s1 s6 hq hx hlx hsm hh0 hx0 h0 hln hn
  go_enter Try.func54, Try.ntmps54
  go_wp2_with fail
  refine (fifoHas_any (pre := pre) (ρ := ρ) x.id _ (QueAt.below ⟨m, lk, D, HQ.out⟩ box_below) HI.out).mono ?_
  rintro e w1 ⟨rfl, rfl⟩
  rw [HHX.out]
  go_upto_region 3 with fail
  obtain ⟨w2, hw2⟩ : ∃ w2 : World, w2 = w.alloc (.cells #[.int .i64 0, .int .i64 0] 37) := ⟨_, rfl⟩
  rw [← hw2]
  have HB2 := Lib.hid (show Below w.heap.size w w2 by rw [hw2]; exact box_below)
  have HR2 := Lib.hid (show w2.heap[w.heap.size]? = some (.cells #[.int .i64 0, .int .i64 0] 37 (0, 0)) by rw [hw2]; exact fr_alloc_at)
  have HHQ2 := Lib.hid ((HB2.out.block q hqw).trans HH0.out)
  have HHX2 := Lib.hid ((HB2.out.block _ hlxw).trans HX0.out)
  have HQ2 := Lib.hid (HQ.out.below HB2.out)
  have HF2 := Lib.hid (Fp.of_below (S := (fun k => k = q ∨ k = lk n.id)) HB2.out)
  clear hw2
  have c2 := HQ2.out.c2
  have x2 : w2.cell? ⟨lk x.id, 2, none⟩ = some (.pointer none) := fr_cell_of_heap HHX2.out rfl
  have x3 : w2.cell? ⟨lk x.id, 3, none⟩ = some (.pointer (some ⟨lk n.id, 0, none⟩)) := fr_cell_of_heap HHX2.out rfl
  have c0 := HQ2.out.c0
  have g0 := fr_free_of_heap (i := 0) HHQ2.out
  go_upto_region 7 with (at_lookup; refine wpList_lookup_lk (by rfl) _ _ rfl HQ2.out rfl x.id rfl HI.out (.pointer (some ⟨lk x.id, 0, none⟩)) (.inl ⟨HHX.out, rfl⟩) ?_)
  obtain ⟨w3, hw3⟩ : ∃ w3 : World, w3 = (w2.setCell ⟨q, 0, none⟩ (.pointer (some ⟨lk n.id, 0, none⟩))) := ⟨_, rfl⟩
  rw [← hw3]
  have HHQ3 := Lib.hid (show w3.heap[q]? = some (.cells #[.pointer (some ⟨lk n.id, 0, none⟩), lkP lk l.getLast?, .map (some m), .int .i64 sm] 149 (0, 0)) by rw [hw3]; exact fr_setCell_at HHQ2.out)
  have HHX3 := Lib.hid ((show w3.heap[lk x.id]? = w2.heap[lk x.id]? by rw [hw3]; exact fr_setCell_other (w := w2) (Ne.symm hqx)).trans HHX2.out)
  have HR3 := Lib.hid ((show w3.heap[w.heap.size]? = w2.heap[w.heap.size]? by rw [hw3]; exact fr_setCell_other (w := w2) hne_q).trans HR2.out)
  have HM3 := Lib.hid (show w3.ownsMap Try.prog 3 lkR m l.length D by rw [hw3]; exact HQ2.out.map.setCell (Ne.symm hqm) _)
  have HF3 := Lib.hid (show Fp (fun k => k = q ∨ k = lk n.id) w w3 by rw [hw3]; exact HF2.out.setCell (p := ⟨q, 0, none⟩) (fun _ => .inl rfl) _)
  have HNN3 := Lib.hid ((show w3.heap[lk n.id]? = w2.heap[lk n.id]? by rw [hw3]; exact fr_setCell_other (w := w2) (Ne.symm hqn)).trans ((HB2.out.block _ hlnw).trans HLN.out.2))
  clear hw3 c2 x2 x3 c0 g0
  have x2 : w3.cell? ⟨lk x.id, 2, none⟩ = some (.pointer none) := fr_cell_of_heap HHX3.out rfl
  have x3 : w3.cell? ⟨lk x.id, 3, none⟩ = some (.pointer (some ⟨lk n.id, 0, none⟩)) := fr_cell_of_heap HHX3.out rfl
  have y2 : w3.cell? ⟨lk n.id, 2, none⟩ = some (lkP lk (prevI l (i + 1))) := fr_cell_of_heap HNN3.out rfl
  have g2 := fr_free_of_heap (i := 2) HNN3.out
  go_upto_region 9 with fail
  go_region
  go_upto_region 10 with fail
  obtain ⟨w4, hw4⟩ : ∃ w4 : World, w4 = (w3.setCell ⟨lk n.id, 2, none⟩ (.pointer none)).drew := ⟨_, rfl⟩
  rw [← hw4]
  have HHQ4 := Lib.hid ((show w4.heap[q]? = w3.heap[q]? by rw [hw4]; exact fr_setCell_other (w := w3) hqn).trans HHQ3.out)
  have HNN4 := Lib.hid (show w4.heap[lk n.id]? = some (.cells #[.int .i64 n.id, .int .i64 n.cost, .pointer none, lkP lk l[i + 1 + 1]?] 152 (0, 0)) by rw [hw4]; exact fr_setCell_at HNN3.out)
  have HHX4 := Lib.hid ((show w4.heap[lk x.id]? = w3.heap[lk x.id]? by rw [hw4]; exact fr_setCell_other (w := w3) hxn).trans HHX3.out)
  have HR4 := Lib.hid ((show w4.heap[w.heap.size]? = w3.heap[w.heap.size]? by rw [hw4]; exact fr_setCell_other (w := w3) (by omega)).trans HR3.out)
  have HM4 := Lib.hid (show w4.ownsMap Try.prog 3 lkR m l.length D by rw [hw4]; exact (HM3.out.setCell (Ne.symm hnm) _))
  have HF4 := Lib.hid (show Fp (fun k => k = q ∨ k = lk n.id) w w4 by rw [hw4]; exact (HF3.out.setCell (p := ⟨lk n.id, 2, none⟩) (fun _ => .inr rfl) _).drew)
  clear hw4 x2 x3 y2 g2
  have c2 : w4.cell? ⟨q, 2, none⟩ = some (.map (some m)) := fr_cell_of_heap HHQ4.out rfl
  go_upto_region 11 with (at_delete; refine wpList_delete_own _ rfl _ _ 146 3 rfl 147 keyT Try.underlying146 lkR m l.length D rfl HM4.out _ (keyI x.id) rfl (keyI_of HI.out) ?_; intro w5 hown5 hturn5)
  have hg5 := hturn5.grown
  have HM5 := Lib.hid hown5
  have HHQ5 := Lib.hid ((hg5.block q (fp_lt_of_heap HHQ4.out) (by simp; exact hqm)).trans HHQ4.out)
  have HHX5 := Lib.hid ((hg5.block _ (fp_lt_of_heap HHX4.out) (by simp; exact hxm)).trans HHX4.out)
  have HR5 := Lib.hid ((hg5.block w.heap.size (fp_lt_of_heap HR4.out) (by simp; omega)).trans HR4.out)
  have HF5 := Lib.hid (show Fp (fun k => k = q ∨ k = lk n.id ∨ k = m) w w5 from (HF4.out.mono (S' := (fun k => k = q ∨ k = lk n.id ∨ k = m)) (fun k hk => by first | exact .inl hk | (rcases hk with hk | hk | hk <;> simp [hk]) | (rcases hk with hk | hk <;> simp [hk]))).grown hg5 (fun k _ hk => by simp at hk; simp [hk]))
  have HNN5 := Lib.hid ((hg5.block _ (fp_lt_of_heap HNN4.out) (by simp; exact hnm)).trans HNN4.out)
  clear hown5 hturn5 hg5 c2
  have c3 : w5.cell? ⟨q, 3, none⟩ = some (.int .i64 sm) := fr_cell_of_heap HHQ5.out rfl
  have f3 := fr_free_of_heap (i := 3) HHQ5.out
  have x0 : w5.cell? ⟨lk x.id, 0, none⟩ = some (.int .i64 x.id) := fr_cell_of_heap HHX5.out rfl
  have x1 : w5.cell? ⟨lk x.id, 1, none⟩ = some (.int .i64 x.cost) := fr_cell_of_heap HHX5.out rfl
  go_region
  all_goals
    go_upto_region 12 with fail
    rw [HWR.out]
    obtain ⟨w6, hw6⟩ : ∃ w6 : World, w6 = (w5.setCell ⟨q, 3, none⟩ (.int .i64 (sm - x.cost))).drew := ⟨_, rfl⟩
    rw [← hw6]
    have HHQ6 := Lib.hid (show w6.heap[q]? = some (.cells #[.pointer (some ⟨lk n.id, 0, none⟩), lkP lk l.getLast?, .map (some m), .int .i64 (sm - x.cost)] 149 (0, 0)) by rw [hw6]; exact fr_setCell_at HHQ5.out)
    have HHX6 := Lib.hid ((show w6.heap[lk x.id]? = w5.heap[lk x.id]? by rw [hw6]; exact fr_setCell_other (w := w5) (Ne.symm hqx)).trans HHX5.out)
    have HR6 := Lib.hid ((show w6.heap[w.heap.size]? = w5.heap[w.heap.size]? by rw [hw6]; exact fr_setCell_other (w := w5) hne_q).trans HR5.out)
    have HM6 := Lib.hid (show w6.ownsMap Try.prog 3 lkR m l.length (D.del (keyI x.id)) by rw [hw6]; exact (HM5.out.setCell (Ne.symm hqm) _))
    have HF6 := Lib.hid (show Fp (fun k => k = q ∨ k = lk n.id ∨ k = m) w w6 by rw [hw6]; exact (HF5.out.setCell (p := ⟨q, 3, none⟩) (fun _ => .inl rfl) _).drew)
    have HNN6 := Lib.hid ((show w6.heap[lk n.id]? = w5.heap[lk n.id]? by rw [hw6]; exact fr_setCell_other (w := w5) (Ne.symm hqn)).trans HNN5.out)
    clear hw6 c3 f3 x0 x1
    have x0 : w6.cell? ⟨lk x.id, 0, none⟩ = some (.int .i64 x.id) := fr_cell_of_heap HHX6.out rfl
    have x1 : w6.cell? ⟨lk x.id, 1, none⟩ = some (.int .i64 x.cost) := fr_cell_of_heap HHX6.out rfl
    go_wp2_with (refine wpList_store_row rfl 37 _ _ rfl w.heap.size #[.int .i64 x.id, .int .i64 x.cost] rfl rfl 37 _ HR6.out (item_sz x) rfl (item_one x) ?_)
    refine bodyPost_ret (v := .tuple #[.agg #[.int .i64 x.id, .int .i64 x.cost], .bool true]) (results_row2 Try.results54 rfl rfl (setRow_heap w6 w.heap.size _ _ _ _ HR6.out) Try.underlying37 rfl (item_sz x)) rfl ⟨rfl, ?_, m, lk, D.del (keyI x.id), ?_⟩
    · refine (HF6.out.setRow (g := w.heap.size) (fun h => absurd h (by simp))).mono (fun k hk => ?_)
      rcases hk with rfl | rfl | rfl
      · exact ⟨_, HQ.out.rq⟩

      · exact ⟨_, HLN.out.1⟩
      · exact ⟨_, HQ.out.rm⟩
    · rw [drop_erase HQ.out.good.once HX.out]
      have far : ∀ k, k ≠ w.heap.size → ∀ cs, (w6.setRow w.heap.size cs).heap[k]? = w6.heap[k]? := fun k hk cs => setRow_other w6 w.heap.size k cs hk
      have hn0 := HN0.out
      have hn1 := HN1.out
      refine drop_close HQ.out HX.out ?_ (Fp.row.ownMap HM6.out (by omega)) (fun j z hz hj => ?_)
      · rw [far q (Ne.symm hne_q), HHQ6.out, HSM.out]
        rw [if_pos hn0, show l[1]? = some n by rw [← hn1, hn0]]
        rw [if_neg (show ¬ i + 1 = l.length from fun e => by rw [List.getElem?_eq_none (by omega)] at hn1; cases hn1)]
        rfl
      · have hlz := HQ.out.link j z hz
        have hzw := fp_lt_of_heap hlz.2
        rw [far _ (by omega)]
        by_cases hjn : j = i + 1
        · subst hjn
          obtain rfl : n = z := Option.some.inj (hn1.symm.trans hz)
          rw [HNN6.out]
          unfold linkD
          rw [if_pos rfl, if_neg (by omega), show prevI l i = none by unfold prevI; rw [if_pos hn0]]
          rfl
        have h1 : lk z.id ≠ q := fun e => by have h1 := hlz.1; rw [e, HQ.out.rq] at h1; simp at h1
        have h2 : lk z.id ≠ m := fun e => by have h1 := hlz.1; rw [e, HQ.out.rm] at h1; simp at h1
        have hnz : lk z.id ≠ lk n.id := fun e => by
          have h1 := hlz.1
          rw [e, HLN.out.1] at h1
          simp at h1
          have := once_inj HQ.out.good.once HNG.out hz h1
          omega
        rw [HF6.out.block _ hzw (by simp [h1, h2, hnz]), hlz.2]
        unfold linkC linkD
        rw [if_neg hjn]
        rw [if_neg (show ¬ j + 1 = i by omega)]
set_option maxRecDepth 100000 in
set_option maxHeartbeats 2000000 in
theorem fifoDrop_po (x : It) (i : Nat) (w : World) (hQ : QueAt pre ρ w q l) (hx : l[i]? = some x) {p : It} (hp : l[i - 1]? = some p) (h0 : 0 < i) (hn : i + 1 = l.length) : Calls Try.prog 54 #[.pointer (some ⟨q, 0, none⟩), .int .i64 x.id] w (DropPost pre ρ w q l x) := by
  obtain ⟨m, lk, D, hq⟩ := hQ
  have HQ := Lib.hid hq
  have HX := Lib.hid hx
  have HHX := Lib.hid (show hasIt x.id l = true from has_iff.2 ⟨i, x, hx, rfl⟩)
  have HI := Lib.hid (hq.good.ok x (List.mem_of_getElem? hx)).2.1
  obtain ⟨s0, s1⟩ := cost_bounds hq.good.ok
  have s5 := (hq.good.ok x (List.mem_of_getElem? hx)).2.2
  have s6 := hq.good.few
  obtain ⟨sm, hsm⟩ : ∃ sm, sm = costIt l := ⟨_, rfl⟩
  have HSM := Lib.hid hsm
  have s3 : 0 ≤ sm := by omega
  have s4 : sm ≤ 64000000 := by omega
  obtain ⟨s7, s8⟩ := s5
  have HWR := Lib.hid (show IntKind.i64.wrap (sm - x.cost) = sm - x.cost from IntWalk.i64_in _ (by omega))
  have hqw : q < w.heap.size := fp_lt_of_heap hq.head
  have hqm : q ≠ m := fun e => by have h1 := hq.rq; rw [e, hq.rm] at h1; simp at h1
  have hlx := hq.link i x hx
  have hlxw := fp_lt_of_heap hlx.2
  have hqx : q ≠ lk x.id := fun e => by have h1 := hq.rq; rw [e, hlx.1] at h1; simp at h1
  have hxm : lk x.id ≠ m := fun e => by have h1 := hq.rm; rw [← e, hlx.1] at h1; simp at h1
  have hh0 : w.heap[q]? = some (.cells #[lkP lk l.head?, lkP lk l.getLast?, .map (some m), .int .i64 sm] 149 (0, 0)) := by rw [hsm]; exact hq.head
  have HH0 := Lib.hid hh0
  have hx0 : w.heap[lk x.id]? = some (.cells #[.int .i64 x.id, .int .i64 x.cost, .pointer (some ⟨lk p.id, 0, none⟩), .pointer none] 152 (0, 0)) := by
    have h := hlx.2
    unfold linkC at h
    rw [show prevI l i = some p by unfold prevI; rw [if_neg (by omega)]; exact hp] at h
    rw [List.getElem?_eq_none (show l.length ≤ i + 1 by omega)] at h
    exact h
  have HX0 := Lib.hid hx0
  have hlp := hq.link (i - 1) p hp
  have hlpw := fp_lt_of_heap hlp.2
  have hqp : q ≠ lk p.id := fun e => by have h1 := hq.rq; rw [e, hlp.1] at h1; simp at h1
  have hpm : lk p.id ≠ m := fun e => by have h1 := hq.rm; rw [← e, hlp.1] at h1; simp at h1
  have hxp : lk x.id ≠ lk p.id := fun e => by
    have h1 := hlx.1
    rw [e, hlp.1] at h1
    simp at h1
    have := once_inj hq.good.once hp hx h1
    omega
  have HLP := Lib.hid hlp
  have HPG := Lib.hid hp
  have HN0 := Lib.hid h0
  have HN1 := Lib.hid hn
  have hmw := hq.map.lt
  have hne_x : w.heap.size ≠ lk x.id := by omega
  have hne_q : w.heap.size ≠ q := by omega
  clear s0 s1 s6 hq hx hlx hsm hh0 hx0 h0 hlp hp hn
  go_enter Try.func54, Try.ntmps54
  go_wp2_with fail
  refine (fifoHas_any (pre := pre) (ρ := ρ) x.id _ (QueAt.below ⟨m, lk, D, HQ.out⟩ box_below) HI.out).mono ?_
  rintro e w1 ⟨rfl, rfl⟩
  rw [HHX.out]
  go_upto_region 3 with fail
  obtain ⟨w2, hw2⟩ : ∃ w2 : World, w2 = w.alloc (.cells #[.int .i64 0, .int .i64 0] 37) := ⟨_, rfl⟩
  rw [← hw2]
  have HB2 := Lib.hid (show Below w.heap.size w w2 by rw [hw2]; exact box_below)
  have HR2 := Lib.hid (show w2.heap[w.heap.size]? = some (.cells #[.int .i64 0, .int .i64 0] 37 (0, 0)) by rw [hw2]; exact fr_alloc_at)
  have HHQ2 := Lib.hid ((HB2.out.block q hqw).trans HH0.out)
  have HHX2 := Lib.hid ((HB2.out.block _ hlxw).trans HX0.out)
  have HQ2 := Lib.hid (HQ.out.below HB2.out)
  have HF2 := Lib.hid (Fp.of_below (S := (fun k => k = q ∨ k = lk p.id)) HB2.out)
  clear hw2
  have c2 := HQ2.out.c2
  have x2 : w2.cell? ⟨lk x.id, 2, none⟩ = some (.pointer (some ⟨lk p.id, 0, none⟩)) := fr_cell_of_heap HHX2.out rfl
  have x3 : w2.cell? ⟨lk x.id, 3, none⟩ = some (.pointer none) := fr_cell_of_heap HHX2.out rfl
  have HPP2 := Lib.hid ((HB2.out.block _ hlpw).trans HLP.out.2)
  have y3 : w2.cell? ⟨lk p.id, 3, none⟩ = some (lkP lk l[i - 1 + 1]?) := fr_cell_of_heap HPP2.out rfl
  have g3 := fr_free_of_heap (i := 3) HPP2.out
  go_upto_region 6 with (at_lookup; refine wpList_lookup_lk (by rfl) _ _ rfl HQ2.out rfl x.id rfl HI.out (.pointer (some ⟨lk x.id, 0, none⟩)) (.inl ⟨HHX.out, rfl⟩) ?_)
  go_region
  go_upto_region 7 with fail
  obtain ⟨w3, hw3⟩ : ∃ w3 : World, w3 = (w2.setCell ⟨lk p.id, 3, none⟩ (.pointer none)).drew := ⟨_, rfl⟩
  rw [← hw3]
  have HHQ3 := Lib.hid ((show w3.heap[q]? = w2.heap[q]? by rw [hw3]; exact fr_setCell_other (w := w2) hqp).trans HHQ2.out)
  have HPP3 := Lib.hid (show w3.heap[lk p.id]? = some (.cells #[.int .i64 p.id, .int .i64 p.cost, lkP lk (prevI l (i - 1)), .pointer none] 152 (0, 0)) by rw [hw3]; exact fr_setCell_at HPP2.out)
  have HHX3 := Lib.hid ((show w3.heap[lk x.id]? = w2.heap[lk x.id]? by rw [hw3]; exact fr_setCell_other (w := w2) hxp).trans HHX2.out)
  have HR3 := Lib.hid ((show w3.heap[w.heap.size]? = w2.heap[w.heap.size]? by rw [hw3]; exact fr_setCell_other (w := w2) (by omega)).trans HR2.out)
  have HM3 := Lib.hid (show w3.ownsMap Try.prog 3 lkR m l.length D by rw [hw3]; exact (HQ2.out.map.setCell (Ne.symm hpm) _))
  have HF3 := Lib.hid (show Fp (fun k => k = q ∨ k = lk p.id) w w3 by rw [hw3]; exact (HF2.out.setCell (p := ⟨lk p.id, 3, none⟩) (fun _ => .inr rfl) _).drew)
  clear hw3 c2 x2 x3 y3 g3
  have x2 : w3.cell? ⟨lk x.id, 2, none⟩ = some (.pointer (some ⟨lk p.id, 0, none⟩)) := fr_cell_of_heap HHX3.out rfl
  have x3 : w3.cell? ⟨lk x.id, 3, none⟩ = some (.pointer none) := fr_cell_of_heap HHX3.out rfl
  have c1 := fr_cell_of_heap HHQ3.out (i := 1) rfl
  have g1 := fr_free_of_heap (i := 1) HHQ3.out
  go_upto_region 10 with fail
  obtain ⟨w4, hw4⟩ : ∃ w4 : World, w4 = w3.setCell ⟨q, 1, none⟩ (.pointer (some ⟨lk p.id, 0, none⟩)) := ⟨_, rfl⟩
  rw [← hw4]
  have HHQ4 := Lib.hid (show w4.heap[q]? = some (.cells #[lkP lk l.head?, .pointer (some ⟨lk p.id, 0, none⟩), .map (some m), .int .i64 sm] 149 (0, 0)) by rw [hw4]; exact fr_setCell_at HHQ3.out)
  have HHX4 := Lib.hid ((show w4.heap[lk x.id]? = w3.heap[lk x.id]? by rw [hw4]; exact fr_setCell_other (w := w3) (Ne.symm hqx)).trans HHX3.out)
  have HR4 := Lib.hid ((show w4.heap[w.heap.size]? = w3.heap[w.heap.size]? by rw [hw4]; exact fr_setCell_other (w := w3) hne_q).trans HR3.out)
  have HM4 := Lib.hid (show w4.ownsMap Try.prog 3 lkR m l.length D by rw [hw4]; exact HM3.out.setCell (Ne.symm hqm) _)
  have HF4 := Lib.hid (show Fp (fun k => k = q ∨ k = lk p.id) w w4 by rw [hw4]; exact HF3.out.setCell (p := ⟨q, 1, none⟩) (fun _ => .inl rfl) _)
  have HPP4 := Lib.hid ((show w4.heap[lk p.id]? = w3.heap[lk p.id]? by rw [hw4]; exact fr_setCell_other (w := w3) (Ne.symm hqp)).trans HPP3.out)
  clear hw4 x2 x3 c1 g1
  have c2 : w4.cell? ⟨q, 2, none⟩ = some (.map (some m)) := fr_cell_of_heap HHQ4.out rfl
  go_upto_region 11 with (at_delete; refine wpList_delete_own _ rfl _ _ 146 3 rfl 147 keyT Try.underlying146 lkR m l.length D rfl HM4.out _ (keyI x.id) rfl (keyI_of HI.out) ?_; intro w5 hown5 hturn5)
  have hg5 := hturn5.grown
  have HM5 := Lib.hid hown5
  have HHQ5 := Lib.hid ((hg5.block q (fp_lt_of_heap HHQ4.out) (by simp; exact hqm)).trans HHQ4.out)
  have HHX5 := Lib.hid ((hg5.block _ (fp_lt_of_heap HHX4.out) (by simp; exact hxm)).trans HHX4.out)
  have HR5 := Lib.hid ((hg5.block w.heap.size (fp_lt_of_heap HR4.out) (by simp; omega)).trans HR4.out)
  have HF5 := Lib.hid (show Fp (fun k => k = q ∨ k = lk p.id ∨ k = m) w w5 from (HF4.out.mono (S' := (fun k => k = q ∨ k = lk p.id ∨ k = m)) (fun k hk => by first | exact .inl hk | (rcases hk with hk | hk | hk <;> simp [hk]) | (rcases hk with hk | hk <;> simp [hk]))).grown hg5 (fun k _ hk => by simp at hk; simp [hk]))
  have HPP5 := Lib.hid ((hg5.block _ (fp_lt_of_heap HPP4.out) (by simp; exact hpm)).trans HPP4.out)
  clear hown5 hturn5 hg5 c2
  have c3 : w5.cell? ⟨q, 3, none⟩ = some (.int .i64 sm) := fr_cell_of_heap HHQ5.out rfl
  have f3 := fr_free_of_heap (i := 3) HHQ5.out
  have x0 : w5.cell? ⟨lk x.id, 0, none⟩ = some (.int .i64 x.id) := fr_cell_of_heap HHX5.out rfl
  have x1 : w5.cell? ⟨lk x.id, 1, none⟩ = some (.int .i64 x.cost) := fr_cell_of_heap HHX5.out rfl
  go_region
  all_goals
    go_upto_region 12 with fail
    rw [HWR.out]
    obtain ⟨w6, hw6⟩ : ∃ w6 : World, w6 = (w5.setCell ⟨q, 3, none⟩ (.int .i64 (sm - x.cost))).drew := ⟨_, rfl⟩
    rw [← hw6]
    have HHQ6 := Lib.hid (show w6.heap[q]? = some (.cells #[lkP lk l.head?, .pointer (some ⟨lk p.id, 0, none⟩), .map (some m), .int .i64 (sm - x.cost)] 149 (0, 0)) by rw [hw6]; exact fr_setCell_at HHQ5.out)
    have HHX6 := Lib.hid ((show w6.heap[lk x.id]? = w5.heap[lk x.id]? by rw [hw6]; exact fr_setCell_other (w := w5) (Ne.symm hqx)).trans HHX5.out)
    have HR6 := Lib.hid ((show w6.heap[w.heap.size]? = w5.heap[w.heap.size]? by rw [hw6]; exact fr_setCell_other (w := w5) hne_q).trans HR5.out)
    have HM6 := Lib.hid (show w6.ownsMap Try.prog 3 lkR m l.length (D.del (keyI x.id)) by rw [hw6]; exact (HM5.out.setCell (Ne.symm hqm) _))
    have HF6 := Lib.hid (show Fp (fun k => k = q ∨ k = lk p.id ∨ k = m) w w6 by rw [hw6]; exact (HF5.out.setCell (p := ⟨q, 3, none⟩) (fun _ => .inl rfl) _).drew)
    have HPP6 := Lib.hid ((show w6.heap[lk p.id]? = w5.heap[lk p.id]? by rw [hw6]; exact fr_setCell_other (w := w5) (Ne.symm hqp)).trans HPP5.out)
    clear hw6 c3 f3 x0 x1
    have x0 : w6.cell? ⟨lk x.id, 0, none⟩ = some (.int .i64 x.id) := fr_cell_of_heap HHX6.out rfl
    have x1 : w6.cell? ⟨lk x.id, 1, none⟩ = some (.int .i64 x.cost) := fr_cell_of_heap HHX6.out rfl
    go_wp2_with (refine wpList_store_row rfl 37 _ _ rfl w.heap.size #[.int .i64 x.id, .int .i64 x.cost] rfl rfl 37 _ HR6.out (item_sz x) rfl (item_one x) ?_)
    refine bodyPost_ret (v := .tuple #[.agg #[.int .i64 x.id, .int .i64 x.cost], .bool true]) (results_row2 Try.results54 rfl rfl (setRow_heap w6 w.heap.size _ _ _ _ HR6.out) Try.underlying37 rfl (item_sz x)) rfl ⟨rfl, ?_, m, lk, D.del (keyI x.id), ?_⟩
    · refine (HF6.out.setRow (g := w.heap.size) (fun h => absurd h (by simp))).mono (fun k hk => ?_)
      rcases hk with rfl | rfl | rfl
      · exact ⟨_, HQ.out.rq⟩
      · exact ⟨_, HLP.out.1⟩

      · exact ⟨_, HQ.out.rm⟩
    · rw [drop_erase HQ.out.good.once HX.out]
      have far : ∀ k, k ≠ w.heap.size → ∀ cs, (w6.setRow w.heap.size cs).heap[k]? = w6.heap[k]? := fun k hk cs => setRow_other w6 w.heap.size k cs hk
      have hn0 := HN0.out
      have hn1 := HN1.out
      refine drop_close HQ.out HX.out ?_ (Fp.row.ownMap HM6.out (by omega)) (fun j z hz hj => ?_)
      · rw [far q (Ne.symm hne_q), HHQ6.out, HSM.out]
        rw [if_neg (show ¬ i = 0 by omega)]
        rw [if_pos hn1, show prevI l i = some p by unfold prevI; rw [if_neg (by omega)]; exact HPG.out]
        rfl
      · have hlz := HQ.out.link j z hz
        have hzw := fp_lt_of_heap hlz.2
        rw [far _ (by omega)]
        by_cases hjp : j + 1 = i
        · obtain rfl : p = z := Option.some.inj (HPG.out.symm.trans (by rw [show i - 1 = j by omega]; exact hz))
          rw [HPP6.out]
          unfold linkD
          rw [if_neg (by omega), if_pos hjp, show i - 1 = j by omega, List.getElem?_eq_none (show l.length ≤ i + 1 by omega)]
          rfl
        have h1 : lk z.id ≠ q := fun e => by have h1 := hlz.1; rw [e, HQ.out.rq] at h1; simp at h1
        have h2 : lk z.id ≠ m := fun e => by have h1 := hlz.1; rw [e, HQ.out.rm] at h1; simp at h1
        have hpz : lk z.id ≠ lk p.id := fun e => by
          have h1 := hlz.1
          rw [e, HLP.out.1] at h1
          simp at h1
          have := once_inj HQ.out.good.once HPG.out hz h1
          omega
        rw [HF6.out.block _ hzw (by simp [h1, h2, hpz]), hlz.2]
        unfold linkC linkD
        rw [if_neg (show ¬ j = i + 1 from fun e => by have := (List.getElem?_eq_some_iff.1 hz).1; omega)]
        rw [if_neg hjp]
set_option maxRecDepth 100000 in
set_option maxHeartbeats 2000000 in
theorem fifoDrop_pn (x : It) (i : Nat) (w : World) (hQ : QueAt pre ρ w q l) (hx : l[i]? = some x) {p : It} (hp : l[i - 1]? = some p) (h0 : 0 < i) {n : It} (hn : l[i + 1]? = some n) : Calls Try.prog 54 #[.pointer (some ⟨q, 0, none⟩), .int .i64 x.id] w (DropPost pre ρ w q l x) := by
  obtain ⟨m, lk, D, hq⟩ := hQ
  have HQ := Lib.hid hq
  have HX := Lib.hid hx
  have HHX := Lib.hid (show hasIt x.id l = true from has_iff.2 ⟨i, x, hx, rfl⟩)
  have HI := Lib.hid (hq.good.ok x (List.mem_of_getElem? hx)).2.1
  obtain ⟨s0, s1⟩ := cost_bounds hq.good.ok
  have s5 := (hq.good.ok x (List.mem_of_getElem? hx)).2.2
  have s6 := hq.good.few
  obtain ⟨sm, hsm⟩ : ∃ sm, sm = costIt l := ⟨_, rfl⟩
  have HSM := Lib.hid hsm
  have s3 : 0 ≤ sm := by omega
  have s4 : sm ≤ 64000000 := by omega
  obtain ⟨s7, s8⟩ := s5
  have HWR := Lib.hid (show IntKind.i64.wrap (sm - x.cost) = sm - x.cost from IntWalk.i64_in _ (by omega))
  have hqw : q < w.heap.size := fp_lt_of_heap hq.head
  have hqm : q ≠ m := fun e => by have h1 := hq.rq; rw [e, hq.rm] at h1; simp at h1
  have hlx := hq.link i x hx
  have hlxw := fp_lt_of_heap hlx.2
  have hqx : q ≠ lk x.id := fun e => by have h1 := hq.rq; rw [e, hlx.1] at h1; simp at h1
  have hxm : lk x.id ≠ m := fun e => by have h1 := hq.rm; rw [← e, hlx.1] at h1; simp at h1
  have hh0 : w.heap[q]? = some (.cells #[lkP lk l.head?, lkP lk l.getLast?, .map (some m), .int .i64 sm] 149 (0, 0)) := by rw [hsm]; exact hq.head
  have HH0 := Lib.hid hh0
  have hx0 : w.heap[lk x.id]? = some (.cells #[.int .i64 x.id, .int .i64 x.cost, .pointer (some ⟨lk p.id, 0, none⟩), .pointer (some ⟨lk n.id, 0, none⟩)] 152 (0, 0)) := by
    have h := hlx.2
    unfold linkC at h
    rw [show prevI l i = some p by unfold prevI; rw [if_neg (by omega)]; exact hp] at h
    rw [hn] at h
    exact h
  have HX0 := Lib.hid hx0
  have hlp := hq.link (i - 1) p hp
  have hlpw := fp_lt_of_heap hlp.2
  have hqp : q ≠ lk p.id := fun e => by have h1 := hq.rq; rw [e, hlp.1] at h1; simp at h1
  have hpm : lk p.id ≠ m := fun e => by have h1 := hq.rm; rw [← e, hlp.1] at h1; simp at h1
  have hxp : lk x.id ≠ lk p.id := fun e => by
    have h1 := hlx.1
    rw [e, hlp.1] at h1
    simp at h1
    have := once_inj hq.good.once hp hx h1
    omega
  have HLP := Lib.hid hlp
  have HPG := Lib.hid hp
  have hln := hq.link (i + 1) n hn
  have hlnw := fp_lt_of_heap hln.2
  have hqn : q ≠ lk n.id := fun e => by have h1 := hq.rq; rw [e, hln.1] at h1; simp at h1
  have hnm : lk n.id ≠ m := fun e => by have h1 := hq.rm; rw [← e, hln.1] at h1; simp at h1
  have hxn : lk x.id ≠ lk n.id := fun e => by
    have h1 := hlx.1
    rw [e, hln.1] at h1
    simp at h1
    have := once_inj hq.good.once hn hx h1
    omega
  have HLN := Lib.hid hln
  have HNG := Lib.hid hn
  have hpn : lk p.id ≠ lk n.id := fun e => by
    have h1 := hlp.1
    rw [e, hln.1] at h1
    simp at h1
    have := once_inj hq.good.once hn hp h1
    omega
  have HN0 := Lib.hid h0
  have HN1 := Lib.hid hn
  have hmw := hq.map.lt
  have hne_x : w.heap.size ≠ lk x.id := by omega
  have hne_q : w.heap.size ≠ q := by omega
  clear s0 s1 s6 hq hx hlx hsm hh0 hx0 h0 hlp hp hln hn
  go_enter Try.func54, Try.ntmps54
  go_wp2_with fail
  refine (fifoHas_any (pre := pre) (ρ := ρ) x.id _ (QueAt.below ⟨m, lk, D, HQ.out⟩ box_below) HI.out).mono ?_
  rintro e w1 ⟨rfl, rfl⟩
  rw [HHX.out]
  go_upto_region 3 with fail
  obtain ⟨w2, hw2⟩ : ∃ w2 : World, w2 = w.alloc (.cells #[.int .i64 0, .int .i64 0] 37) := ⟨_, rfl⟩
  rw [← hw2]
  have HB2 := Lib.hid (show Below w.heap.size w w2 by rw [hw2]; exact box_below)
  have HR2 := Lib.hid (show w2.heap[w.heap.size]? = some (.cells #[.int .i64 0, .int .i64 0] 37 (0, 0)) by rw [hw2]; exact fr_alloc_at)
  have HHQ2 := Lib.hid ((HB2.out.block q hqw).trans HH0.out)
  have HHX2 := Lib.hid ((HB2.out.block _ hlxw).trans HX0.out)
  have HQ2 := Lib.hid (HQ.out.below HB2.out)
  have HF2 := Lib.hid (Fp.of_below (S := (fun k => k = q ∨ k = lk p.id ∨ k = lk n.id)) HB2.out)
  clear hw2
  have c2 := HQ2.out.c2
  have x2 : w2.cell? ⟨lk x.id, 2, none⟩ = some (.pointer (some ⟨lk p.id, 0, none⟩)) := fr_cell_of_heap HHX2.out rfl
  have x3 : w2.cell? ⟨lk x.id, 3, none⟩ = some (.pointer (some ⟨lk n.id, 0, none⟩)) := fr_cell_of_heap HHX2.out rfl
  have HPP2 := Lib.hid ((HB2.out.block _ hlpw).trans HLP.out.2)
  have y3 : w2.cell? ⟨lk p.id, 3, none⟩ = some (lkP lk l[i - 1 + 1]?) := fr_cell_of_heap HPP2.out rfl
  have g3 := fr_free_of_heap (i := 3) HPP2.out
  go_upto_region 6 with (at_lookup; refine wpList_lookup_lk (by rfl) _ _ rfl HQ2.out rfl x.id rfl HI.out (.pointer (some ⟨lk x.id, 0, none⟩)) (.inl ⟨HHX.out, rfl⟩) ?_)
  go_region
  go_upto_region 7 with fail
  obtain ⟨w3, hw3⟩ : ∃ w3 : World, w3 = (w2.setCell ⟨lk p.id, 3, none⟩ (.pointer (some ⟨lk n.id, 0, none⟩))).drew := ⟨_, rfl⟩
  rw [← hw3]
  have HHQ3 := Lib.hid ((show w3.heap[q]? = w2.heap[q]? by rw [hw3]; exact fr_setCell_other (w := w2) hqp).trans HHQ2.out)
  have HPP3 := Lib.hid (show w3.heap[lk p.id]? = some (.cells #[.int .i64 p.id, .int .i64 p.cost, lkP lk (prevI l (i - 1)), .pointer (some ⟨lk n.id, 0, none⟩)] 152 (0, 0)) by rw [hw3]; exact fr_setCell_at HPP2.out)
  have HHX3 := Lib.hid ((show w3.heap[lk x.id]? = w2.heap[lk x.id]? by rw [hw3]; exact fr_setCell_other (w := w2) hxp).trans HHX2.out)
  have HR3 := Lib.hid ((show w3.heap[w.heap.size]? = w2.heap[w.heap.size]? by rw [hw3]; exact fr_setCell_other (w := w2) (by omega)).trans HR2.out)
  have HM3 := Lib.hid (show w3.ownsMap Try.prog 3 lkR m l.length D by rw [hw3]; exact (HQ2.out.map.setCell (Ne.symm hpm) _))
  have HF3 := Lib.hid (show Fp (fun k => k = q ∨ k = lk p.id ∨ k = lk n.id) w w3 by rw [hw3]; exact (HF2.out.setCell (p := ⟨lk p.id, 3, none⟩) (fun _ => .inr (.inl rfl)) _).drew)
  have HNN3 := Lib.hid ((show w3.heap[lk n.id]? = w2.heap[lk n.id]? by rw [hw3]; exact fr_setCell_other (w := w2) (Ne.symm hpn)).trans ((HB2.out.block _ hlnw).trans HLN.out.2))
  clear hw3 c2 x2 x3 y3 g3
  have x2 : w3.cell? ⟨lk x.id, 2, none⟩ = some (.pointer (some ⟨lk p.id, 0, none⟩)) := fr_cell_of_heap HHX3.out rfl
  have x3 : w3.cell? ⟨lk x.id, 3, none⟩ = some (.pointer (some ⟨lk n.id, 0, none⟩)) := fr_cell_of_heap HHX3.out rfl
  have y2 : w3.cell? ⟨lk n.id, 2, none⟩ = some (lkP lk (prevI l (i + 1))) := fr_cell_of_heap HNN3.out rfl
  have g2 := fr_free_of_heap (i := 2) HNN3.out
  go_upto_region 9 with fail
  go_region
  go_upto_region 10 with fail
  obtain ⟨w4, hw4⟩ : ∃ w4 : World, w4 = (w3.setCell ⟨lk n.id, 2, none⟩ (.pointer (some ⟨lk p.id, 0, none⟩))).drew := ⟨_, rfl⟩
  rw [← hw4]
  have HHQ4 := Lib.hid ((show w4.heap[q]? = w3.heap[q]? by rw [hw4]; exact fr_setCell_other (w := w3) hqn).trans HHQ3.out)
  have HNN4 := Lib.hid (show w4.heap[lk n.id]? = some (.cells #[.int .i64 n.id, .int .i64 n.cost, .pointer (some ⟨lk p.id, 0, none⟩), lkP lk l[i + 1 + 1]?] 152 (0, 0)) by rw [hw4]; exact fr_setCell_at HNN3.out)
  have HHX4 := Lib.hid ((show w4.heap[lk x.id]? = w3.heap[lk x.id]? by rw [hw4]; exact fr_setCell_other (w := w3) hxn).trans HHX3.out)
  have HR4 := Lib.hid ((show w4.heap[w.heap.size]? = w3.heap[w.heap.size]? by rw [hw4]; exact fr_setCell_other (w := w3) (by omega)).trans HR3.out)
  have HM4 := Lib.hid (show w4.ownsMap Try.prog 3 lkR m l.length D by rw [hw4]; exact (HM3.out.setCell (Ne.symm hnm) _))
  have HF4 := Lib.hid (show Fp (fun k => k = q ∨ k = lk p.id ∨ k = lk n.id) w w4 by rw [hw4]; exact (HF3.out.setCell (p := ⟨lk n.id, 2, none⟩) (fun _ => .inr (.inr rfl)) _).drew)
  have HPP4 := Lib.hid ((show w4.heap[lk p.id]? = w3.heap[lk p.id]? by rw [hw4]; exact fr_setCell_other (w := w3) hpn).trans HPP3.out)
  clear hw4 x2 x3 y2 g2
  have c2 : w4.cell? ⟨q, 2, none⟩ = some (.map (some m)) := fr_cell_of_heap HHQ4.out rfl
  go_upto_region 11 with (at_delete; refine wpList_delete_own _ rfl _ _ 146 3 rfl 147 keyT Try.underlying146 lkR m l.length D rfl HM4.out _ (keyI x.id) rfl (keyI_of HI.out) ?_; intro w5 hown5 hturn5)
  have hg5 := hturn5.grown
  have HM5 := Lib.hid hown5
  have HHQ5 := Lib.hid ((hg5.block q (fp_lt_of_heap HHQ4.out) (by simp; exact hqm)).trans HHQ4.out)
  have HHX5 := Lib.hid ((hg5.block _ (fp_lt_of_heap HHX4.out) (by simp; exact hxm)).trans HHX4.out)
  have HR5 := Lib.hid ((hg5.block w.heap.size (fp_lt_of_heap HR4.out) (by simp; omega)).trans HR4.out)
  have HF5 := Lib.hid (show Fp (fun k => k = q ∨ k = lk p.id ∨ k = lk n.id ∨ k = m) w w5 from (HF4.out.mono (S' := (fun k => k = q ∨ k = lk p.id ∨ k = lk n.id ∨ k = m)) (fun k hk => by first | exact .inl hk | (rcases hk with hk | hk | hk <;> simp [hk]) | (rcases hk with hk | hk <;> simp [hk]))).grown hg5 (fun k _ hk => by simp at hk; simp [hk]))
  have HPP5 := Lib.hid ((hg5.block _ (fp_lt_of_heap HPP4.out) (by simp; exact hpm)).trans HPP4.out)
  have HNN5 := Lib.hid ((hg5.block _ (fp_lt_of_heap HNN4.out) (by simp; exact hnm)).trans HNN4.out)
  clear hown5 hturn5 hg5 c2
  have c3 : w5.cell? ⟨q, 3, none⟩ = some (.int .i64 sm) := fr_cell_of_heap HHQ5.out rfl
  have f3 := fr_free_of_heap (i := 3) HHQ5.out
  have x0 : w5.cell? ⟨lk x.id, 0, none⟩ = some (.int .i64 x.id) := fr_cell_of_heap HHX5.out rfl
  have x1 : w5.cell? ⟨lk x.id, 1, none⟩ = some (.int .i64 x.cost) := fr_cell_of_heap HHX5.out rfl
  go_region
  all_goals
    go_upto_region 12 with fail
    rw [HWR.out]
    obtain ⟨w6, hw6⟩ : ∃ w6 : World, w6 = (w5.setCell ⟨q, 3, none⟩ (.int .i64 (sm - x.cost))).drew := ⟨_, rfl⟩
    rw [← hw6]
    have HHQ6 := Lib.hid (show w6.heap[q]? = some (.cells #[lkP lk l.head?, lkP lk l.getLast?, .map (some m), .int .i64 (sm - x.cost)] 149 (0, 0)) by rw [hw6]; exact fr_setCell_at HHQ5.out)
    have HHX6 := Lib.hid ((show w6.heap[lk x.id]? = w5.heap[lk x.id]? by rw [hw6]; exact fr_setCell_other (w := w5) (Ne.symm hqx)).trans HHX5.out)
    have HR6 := Lib.hid ((show w6.heap[w.heap.size]? = w5.heap[w.heap.size]? by rw [hw6]; exact fr_setCell_other (w := w5) hne_q).trans HR5.out)
    have HM6 := Lib.hid (show w6.ownsMap Try.prog 3 lkR m l.length (D.del (keyI x.id)) by rw [hw6]; exact (HM5.out.setCell (Ne.symm hqm) _))
    have HF6 := Lib.hid (show Fp (fun k => k = q ∨ k = lk p.id ∨ k = lk n.id ∨ k = m) w w6 by rw [hw6]; exact (HF5.out.setCell (p := ⟨q, 3, none⟩) (fun _ => .inl rfl) _).drew)
    have HPP6 := Lib.hid ((show w6.heap[lk p.id]? = w5.heap[lk p.id]? by rw [hw6]; exact fr_setCell_other (w := w5) (Ne.symm hqp)).trans HPP5.out)
    have HNN6 := Lib.hid ((show w6.heap[lk n.id]? = w5.heap[lk n.id]? by rw [hw6]; exact fr_setCell_other (w := w5) (Ne.symm hqn)).trans HNN5.out)
    clear hw6 c3 f3 x0 x1
    have x0 : w6.cell? ⟨lk x.id, 0, none⟩ = some (.int .i64 x.id) := fr_cell_of_heap HHX6.out rfl
    have x1 : w6.cell? ⟨lk x.id, 1, none⟩ = some (.int .i64 x.cost) := fr_cell_of_heap HHX6.out rfl
    go_wp2_with (refine wpList_store_row rfl 37 _ _ rfl w.heap.size #[.int .i64 x.id, .int .i64 x.cost] rfl rfl 37 _ HR6.out (item_sz x) rfl (item_one x) ?_)
    refine bodyPost_ret (v := .tuple #[.agg #[.int .i64 x.id, .int .i64 x.cost], .bool true]) (results_row2 Try.results54 rfl rfl (setRow_heap w6 w.heap.size _ _ _ _ HR6.out) Try.underlying37 rfl (item_sz x)) rfl ⟨rfl, ?_, m, lk, D.del (keyI x.id), ?_⟩
    · refine (HF6.out.setRow (g := w.heap.size) (fun h => absurd h (by simp))).mono (fun k hk => ?_)
      rcases hk with rfl | rfl | rfl | rfl
      · exact ⟨_, HQ.out.rq⟩
      · exact ⟨_, HLP.out.1⟩
      · exact ⟨_, HLN.out.1⟩
      · exact ⟨_, HQ.out.rm⟩
    · rw [drop_erase HQ.out.good.once HX.out]
      have far : ∀ k, k ≠ w.heap.size → ∀ cs, (w6.setRow w.heap.size cs).heap[k]? = w6.heap[k]? := fun k hk cs => setRow_other w6 w.heap.size k cs hk
      have hn0 := HN0.out
      have hn1 := HN1.out
      refine drop_close HQ.out HX.out ?_ (Fp.row.ownMap HM6.out (by omega)) (fun j z hz hj => ?_)
      · rw [far q (Ne.symm hne_q), HHQ6.out, HSM.out]
        rw [if_neg (show ¬ i = 0 by omega)]
        rw [if_neg (show ¬ i + 1 = l.length from fun e => by rw [List.getElem?_eq_none (by omega)] at hn1; cases hn1)]
      
      · have hlz := HQ.out.link j z hz
        have hzw := fp_lt_of_heap hlz.2
        rw [far _ (by omega)]
        by_cases hjp : j + 1 = i
        · obtain rfl : p = z := Option.some.inj (HPG.out.symm.trans (by rw [show i - 1 = j by omega]; exact hz))
          rw [HPP6.out]
          unfold linkD
          rw [if_neg (by omega), if_pos hjp, show i - 1 = j by omega, hn1]
          rfl
        by_cases hjn : j = i + 1
        · subst hjn
          obtain rfl : n = z := Option.some.inj (hn1.symm.trans hz)
          rw [HNN6.out]
          unfold linkD
          rw [if_pos rfl, if_neg (by omega), show prevI l i = some p by unfold prevI; rw [if_neg (by omega)]; exact HPG.out]
          rfl
        have h1 : lk z.id ≠ q := fun e => by have h1 := hlz.1; rw [e, HQ.out.rq] at h1; simp at h1
        have h2 : lk z.id ≠ m := fun e => by have h1 := hlz.1; rw [e, HQ.out.rm] at h1; simp at h1
        have hpz : lk z.id ≠ lk p.id := fun e => by
          have h1 := hlz.1
          rw [e, HLP.out.1] at h1
          simp at h1
          have := once_inj HQ.out.good.once HPG.out hz h1
          omega
        have hnz : lk z.id ≠ lk n.id := fun e => by
          have h1 := hlz.1
          rw [e, HLN.out.1] at h1
          simp at h1
          have := once_inj HQ.out.good.once HNG.out hz h1
          omega
        rw [HF6.out.block _ hzw (by simp [h1, h2, hpz, hnz]), hlz.2]
        unfold linkC linkD
        rw [if_neg hjn]
        rw [if_neg hjp]
/-- THE WALK: Drop. -/
theorem fifoDrop_some (x : It) (i : Nat) (w : World) (hQ : QueAt pre ρ w q l) (hx : l[i]? = some x) : Calls Try.prog 54 #[.pointer (some ⟨q, 0, none⟩), .int .i64 x.id] w (DropPost pre ρ w q l x) := by
  have hi : i < l.length := (List.getElem?_eq_some_iff.1 hx).1
  rcases Nat.eq_zero_or_pos i with h | h
  · rcases Nat.lt_or_ge (i + 1) l.length with h1 | h1
    · exact fifoDrop_on x i w hQ hx h (n := l[i + 1]) (List.getElem?_eq_getElem h1)
    · exact fifoDrop_oo x i w hQ hx h (by omega)
  · rcases Nat.lt_or_ge (i + 1) l.length with h1 | h1
    · exact fifoDrop_pn x i w hQ hx (p := l[i - 1]) (List.getElem?_eq_getElem (by omega)) h (n := l[i + 1]) (List.getElem?_eq_getElem h1)
    · exact fifoDrop_po x i w hQ hx (p := l[i - 1]) (List.getElem?_eq_getElem (by omega)) h (by omega)
end
end Go.Proofs.Ytohkchilogmneaa
