/-
  law16: quanta, back: the walks.
-/
import Derived.Test.YtohkchilogmneaaRight16
namespace Go.Proofs.Ytohkchilogmneaa
open Go.RowKit Go.Sort

def setQ (q : Int) (p : DV) : DV := (p.1, q, p.2.2.1, p.2.2.2)
theorem setQ_fst (q : Int) (l : List DV) : (l.map (setQ q)).map Prod.fst = l.map Prod.fst := by rw [List.map_map]; rfl
theorem own_fp' {w w' : World} {S : Nat → Prop} {base size n : Nat} {e : TypeId} {v : Value} {xs : List Value} (h : w.ownsRow base e size v n xs) (hF : Fp S w w') (hS : ∀ b, v.ownBlock = some b → ¬ S b) : w'.ownsRow base e size v n xs := by
  obtain ⟨hl, ⟨hv, hz⟩ | ⟨g, cap, cur, hv, hb, hh, rest⟩⟩ := h
  · exact ⟨hl, .inl ⟨hv, hz⟩⟩
  · exact ⟨hl, .inr ⟨g, cap, cur, hv, hb, hF.heap hh (hS g (by rw [hv]; rfl)), rest⟩⟩
set_option maxRecDepth 100000 in
set_option maxHeartbeats 4000000 in
/-- THE WALK: quanta. -/
theorem quanta16_any (q : Int) (v : Value) (l : List DV) (w : World) (h : DRowsAt w v l) (hf : l.length ≤ 1000000) : Calls Try.prog 42 #[v, .int .i64 q] w fun e w' => ∃ v', e = .returned v' ∧ w'.ownsRow w.heap.size 90 6 v' (l.map (setQ q)).length (flatDV (l.map (setQ q))) ∧ Below w.heap.size w w' := by
  have HR := Lib.hid h
  have HL := Lib.hid hf
  obtain ⟨a, cap, rfl, -⟩ := h.form
  clear h hf
  go_enter Try.func42, Try.ntmps42
  go_wp2_with fail
  go_loopg [5, 6] l.length (fun g ov i wr => ∃ k : Nat, g = l.length - k ∧ i = .int .i64 k ∧ k ≤ l.length ∧ wr.ownsRow w.heap.size 90 6 ov ((l.map (setQ q)).take k).length (flatDV ((l.map (setQ q)).take k)) ∧ Below w.heap.size w wr)
  case atStart => exact ⟨0, rfl, rfl, Nat.zero_le _, own_empty (Nat.le_refl _), box_below⟩
  case round =>
    obtain ⟨k, hg, rfl, hk, ho, hb⟩ := hrel
    have HG := Lib.hid hg
    have HO := Lib.hid ho
    have HB := Lib.hid hb
    clear hg ho hb
    by_cases hlt : k < l.length
    · obtain ⟨⟨x, q0, vx, li⟩, hx⟩ : ∃ p, l[k]? = some p := ⟨_, List.getElem?_eq_getElem hlt⟩
      obtain ⟨ax, cx, hvx, -⟩ := (HR.out.inv _ (List.mem_of_getElem? hx)).rows.form
      simp only at hvx
      subst hvx
      obtain ⟨g, off, cap', hv, _, c0, c1, c2, c3, c4, c5⟩ := (HR.out.below HB.out).at hx
      cases hv
      simp only at c0 c1 c2 c3 c4 c5
      have HT := Lib.hid (show (l.map (setQ q)).take (k + 1) = (l.map (setQ q)).take k ++ [(x, q, .slice ax li.length cx, li)] by
        rw [List.take_add_one, List.getElem?_map, hx]
        rfl)
      have hkl : (k : Int) < (l.length : Int) := by omega
      have htl : ((l.map (setQ q)).take k).length = k := by rw [List.length_take, List.length_map]; omega
      obtain ⟨D, hD⟩ : ∃ D, D = (l.map (setQ q)).take k := ⟨_, rfl⟩
      rw [← hD] at HO HT htl
      have hlen := HL.out
      have hc2 : D.length < 140737488355328 := by omega
      have hc3 : (D.length + 1) * 64 ≤ 140737488355328 := by omega
      clear hx hD
      go_upto_region 6 with fail
      obtain ⟨w2, hw2⟩ : ∃ w2 : World, w2 = wr.alloc (.cells #[.int .i64 x.id, .int .i64 x.wt, .int .i64 x.df, .int .i64 q0, .slice ax li.length cx, .bool x.gv] 90) := ⟨_, rfl⟩
      obtain ⟨xb, hxb⟩ : ∃ xb : Nat, xb = wr.heap.size := ⟨_, rfl⟩
      rw [← hw2, ← hxb]
      have hx2 : w2.heap[xb]? = some (.cells #[.int .i64 x.id, .int .i64 x.wt, .int .i64 x.df, .int .i64 q0, .slice ax li.length cx, .bool x.gv] 90 (0, 0)) := by rw [hw2, hxb]; exact fr_alloc_at
      have HX2 := Lib.hid hx2
      have HB2 := Lib.hid (show Below w.heap.size w w2 by rw [hw2]; exact HB.out.alloc HB.out.size _)
      have HO2 := Lib.hid (show w2.ownsRow w.heap.size 90 6 u5 D.length (flatDV D) by rw [hw2]; exact HO.out.alloc _)
      have HXW := Lib.hid (show w.heap.size ≤ xb by rw [hxb]; exact HB.out.size)
      have HXO := Lib.hid (show u5.ownBlock ≠ some xb from fun e => by
        have := own_lt HO.out xb (by simp [blk, e])
        omega)
      have f3 : w2.frozen? ⟨xb, 3, none⟩ = false := fr_free_of_heap hx2
      have k3 : w2.cell? ⟨xb, 3, none⟩ = some (.int .i64 q0) := fr_cell_of_heap hx2 rfl
      clear hw2 hxb hx2 c0 c1 c2 c3 c4 c5
      go_upto_region 7 with fail
      obtain ⟨w3, hw3⟩ : ∃ w3 : World, w3 = w2.setCell ⟨xb, 3, none⟩ (.int .i64 q) := ⟨_, rfl⟩
      rw [← hw3]
      have hx3 : w3.heap[xb]? = some (.cells #[.int .i64 x.id, .int .i64 x.wt, .int .i64 x.df, .int .i64 q, .slice ax li.length cx, .bool x.gv] 90 (0, 0)) := by rw [hw3]; exact fr_setCell_at HX2.out
      have hF3 : Fp (fun j => j = xb) w2 w3 := by rw [hw3]; exact (Fp.refl (fun j => j = xb) w2).setCell (p := ⟨xb, 3, none⟩) (fun _ => rfl) _
      have HB3 := Lib.hid (HB2.out.trans (hF3.below HB2.out.size (fun j hj e => by have := HXW.out; omega)))
      have HO3 := Lib.hid (own_fp' HO2.out hF3 (fun j hj e => HXO.out (by rw [hj, e])))
      have k0 : w3.cell? ⟨xb, 0, none⟩ = some (.int .i64 x.id) := fr_cell_of_heap hx3 rfl
      have k1 : w3.cell? ⟨xb, 1, none⟩ = some (.int .i64 x.wt) := fr_cell_of_heap hx3 rfl
      have k2 : w3.cell? ⟨xb, 2, none⟩ = some (.int .i64 x.df) := fr_cell_of_heap hx3 rfl
      have k3 : w3.cell? ⟨xb, 3, none⟩ = some (.int .i64 q) := fr_cell_of_heap hx3 rfl
      have k4 : w3.cell? ⟨xb, 4, none⟩ = some (.slice ax li.length cx) := fr_cell_of_heap hx3 rfl
      have k5 : w3.cell? ⟨xb, 5, none⟩ = some (.bool x.gv) := fr_cell_of_heap hx3 rfl
      have hc1 : w.heap.size ≤ w3.heap.size := HB3.out.size
      clear hw3 hx3 hF3 f3
      go_wp2_with (at_builtin; refine wpList_append_at (us := #[.int .i64 x.id, .int .i64 x.wt, .int .i64 x.df, .int .i64 q, .slice ax li.length cx, .bool x.gv]) rfl _ _ 82 rfl w.heap.size _ 6 64 Try.underlying82 drow_info rfl (by decide) u5 D.length (flatDV D) rfl HO3.out rfl rfl (by simp [Value.oneCell']) ?c1 ?c2 ?c3 ?_; (case c1 => exact hc1); (case c2 => exact hc2); (case c3 => exact hc3); intro gg gcap w4 ho4 hg4 hat4)
      have HO4 := Lib.hid ho4
      have HB4 := Lib.hid (HB3.out.trans ⟨hg4.os, hg4.tape, hg4.output, hg4.size, fun j hj => hg4.block j (by omega) (fun e => by have := own_block HO3.out j e.symm; omega)⟩ : Below w.heap.size w w4)
      clear ho4 hg4 hat4 k0 k1 k2 k3 k4 k5
      go_wp2_with fail
      go_roundg (l.length - (k + 1))
      case rel => exact ⟨k + 1, rfl, by go_num, by omega, by have h := HO4.out; rw [htl] at h; rw [HT.out, List.length_append, flatDV_snoc, htl]; exact h, HB4.out⟩
      case measure => have := HG.out; omega
    · have HK := Lib.hid (show (l.map (setQ q)).take k = l.map (setQ q) from List.take_of_length_le (by rw [List.length_map]; omega))
      go_wp2_with fail
      go_ret
      have h := HO.out
      rw [HK.out] at h
      exact ⟨_, rfl, h, HB.out⟩
/-- The program's rows, as far as they are built. -/
structure TIn (w wr : World) (ov : Value) (l : List TV) : Prop where
  own : wr.ownsRow w.heap.size 143 5 ov l.length (flatTV l)
  inv : ∀ p ∈ l, wr.ownsRow w.heap.size 48 4 p.2.1 p.2.2.length (flatRV p.2.2) ∧ (∀ r ∈ p.2.2, ItsAt w r.2 r.1.its) ∧ p.2.2.map Prod.fst = p.1.rows
theorem TIn.below {w wr w' : World} {ov : Value} {l : List TV} (h : TIn w wr ov l) (hb : Below wr.heap.size wr w') : TIn w w' ov l := ⟨own_below h.own hb, fun p hp => ⟨own_below (h.inv p hp).1 hb, (h.inv p hp).2⟩⟩
theorem TIn.rows {w wr : World} {ov : Value} {l : List TV} (h : TIn w wr ov l) (hb : Below w.heap.size w wr) : TRowsAt wr ov l := by
  obtain ⟨a, cap, rfl, hle, _, _, hc⟩ := own_cells h.own
  exact ⟨⟨a, cap, rfl, hle, fun j u hu => by obtain ⟨g, ha, _, _, h0, _⟩ := hc j u hu; exact ⟨g, 0, ha, by rw [Nat.zero_add]; exact h0⟩⟩, fun p hp => ⟨rows_own (h.inv p hp).1 (fun r hr => ((h.inv p hp).2.1 r hr).below hb), (h.inv p hp).2.2⟩⟩
set_option maxRecDepth 100000 in
set_option maxHeartbeats 8000000 in
/-- THE WALK: back. -/
theorem back16_any (v : Value) (l : List DV) (w : World) (h : DRowsAt w v l) (hf : l.length ≤ 1000000) (hfs : ∀ p ∈ l, p.2.2.2.length ≤ 1000000) : Calls Try.prog 44 #[v] w fun e w' => ∃ v' l', e = .returned v' ∧ TRowsAt w' v' l' ∧ l'.map Prod.fst = l.map Prod.fst ∧ l'.map (fun p => p.2.2) = l.map (fun p => p.2.2.2) ∧ Below w.heap.size w w' := by
  have HR := Lib.hid h
  have HL := Lib.hid hf
  have HLS := Lib.hid hfs
  obtain ⟨a, cap, rfl, -⟩ := h.form
  clear h hf hfs
  go_enter Try.func44, Try.ntmps44
  go_wp2_with fail
  go_loopg [3, 4] l.length (fun g ov i wr => ∃ (k : Nat) (D : List TV), g = l.length - k ∧ i = .int .i64 k ∧ k ≤ l.length ∧ (D.map Prod.fst = (l.map Prod.fst).take k ∧ D.map (fun p => p.2.2) = (l.map (fun p => p.2.2.2)).take k) ∧ TIn w wr ov D ∧ Below w.heap.size w wr)
  case atStart => exact ⟨0, [], rfl, rfl, Nat.zero_le _, ⟨rfl, rfl⟩, ⟨own_empty (Nat.le_refl _), fun p hp => by cases hp⟩, box_below⟩
  case round =>
    obtain ⟨k, D, hg, rfl, hk, hm, ho, hb⟩ := hrel
    have HG := Lib.hid hg
    have HM := Lib.hid hm
    have HO := Lib.hid ho
    have HB := Lib.hid hb
    clear hg ho hb hm
    by_cases hlt : k < l.length
    · obtain ⟨⟨x, q0, vx, li⟩, hx⟩ : ∃ p, l[k]? = some p := ⟨_, List.getElem?_eq_getElem hlt⟩
      have hmem := List.mem_of_getElem? hx
      have HIN := Lib.hid (HR.out.inv _ hmem)
      have HFI := Lib.hid (HLS.out _ hmem)
      obtain ⟨ax, cx, hvx, -⟩ := (HR.out.inv _ hmem).rows.form
      simp only at hvx
      subst hvx
      obtain ⟨g, off, cap', hv, _, c0, c1, c2, c3, c4, c5⟩ := HR.out.at hx
      cases hv
      simp only at c0 c1 c2 c3 c4 c5
      have HC := Lib.hid (And.intro c0 (And.intro c1 (And.intro c2 (And.intro c4 c5))))
      have HXX := Lib.hid (show (l.map Prod.fst)[k]? = some x by rw [List.getElem?_map, hx]; rfl)
      have HXL := Lib.hid (show (l.map (fun p => p.2.2.2))[k]? = some li by rw [List.getElem?_map, hx]; rfl)
      have hkl : (k : Int) < (l.length : Int) := by omega
      have hll : D.length = k := by
        have h := congrArg List.length HM.out.1
        rw [List.length_map, List.length_take, List.length_map] at h
        omega
      have hf := HL.out
      have hgw : g < w.heap.size := World.block_lt_of_cell? w _ c0
      clear hx hmem c0 c1 c2 c3 c4 c5
      obtain ⟨wo, hwo⟩ : ∃ wo : World, wo = wr := ⟨_, rfl⟩
      subst hwo
      go_upto_region 6 with fail
      obtain ⟨w2, hw2⟩ : ∃ w2 : World, w2 = wo.alloc (.cells #[] 48) := ⟨_, rfl⟩
      have ho2 : w2.ownsRow wo.heap.size 48 4 (.slice (some ⟨wo.heap.size, 0, none⟩) 0 0) (li.take 0).length (flatRV (li.take 0)) := by rw [hw2]; exact own_empty (Nat.le_refl _)
      have hb2 : Below wo.heap.size wo w2 := by rw [hw2]; exact box_below
      have HO2 := Lib.hid ho2
      have HB2 := Lib.hid hb2
      rw [← hw2]
      clear hw2 ho2 hb2
      go_wp2_with fail
      go_loopg [5, 6] li.length (fun g fv kk wr' => ∃ j : Nat, g = li.length - j ∧ kk = .int .i64 j ∧ j ≤ li.length ∧ wr'.ownsRow wo.heap.size 48 4 fv (li.take j).length (flatRV (li.take j)) ∧ Below wo.heap.size wo wr')
      case atStart => exact ⟨0, rfl, rfl, Nat.zero_le _, HO2.out, HB2.out⟩
      case round =>
        obtain ⟨j, hg', rfl, hj, hoj, hbj⟩ := hrel
        have HG' := Lib.hid hg'
        have HOJ := Lib.hid hoj
        have HBJ := Lib.hid hbj
        have HBW := Lib.hid (HB.out.trans (hbj.mono HB.out.size))
        clear hg' hoj hbj
        have c4 := cell_below HBW.out HC.out.2.2.2.1
        by_cases hjl : j < li.length
        · obtain ⟨⟨r, vr⟩, hr⟩ : ∃ p, li[j]? = some p := ⟨_, List.getElem?_eq_getElem hjl⟩
          obtain ⟨ai, ci, rfl⟩ : ∃ ai ci, vr = .slice ai r.its.length ci := its_form (HIN.out.rows.its _ (List.mem_of_getElem? hr))
          obtain ⟨gr, offr, capr, hv, _, d0, d1, d2, d3⟩ := (HIN.out.rows.below HBW.out).at hr
          cases hv
          simp only at d0 d1 d2 d3
          have HT := Lib.hid (show li.take (j + 1) = li.take j ++ [(r, .slice ai r.its.length ci)] by rw [List.take_succ_eq_append_getElem hjl, (List.getElem?_eq_some_iff.1 hr).2])
          have hjl2 : (j : Int) < (li.length : Int) := by omega
          have htl : (li.take j).length = j := by rw [List.length_take]; omega
          obtain ⟨E, hE⟩ : ∃ E, E = li.take j := ⟨_, rfl⟩
          rw [← hE] at HOJ HT htl
          have hfi := HFI.out
          have hc2 : E.length < 140737488355328 := by omega
          have hc3 : (E.length + 1) * 48 ≤ 140737488355328 := by omega
          clear hr hE
          go_upto_region 10 with fail
          obtain ⟨w3, hw3⟩ : ∃ w3 : World, w3 = wr.alloc (.cells #[.int .i64 r.id, .int .i64 r.wt, .int .i64 r.df, .slice ai r.its.length ci] 56) := ⟨_, rfl⟩
          obtain ⟨xb, hxb⟩ : ∃ xb : Nat, xb = wr.heap.size := ⟨_, rfl⟩
          rw [← hw3, ← hxb]
          have hx3 : w3.heap[xb]? = some (.cells #[.int .i64 r.id, .int .i64 r.wt, .int .i64 r.df, .slice ai r.its.length ci] 56 (0, 0)) := by rw [hw3, hxb]; exact fr_alloc_at
          have HB3 := Lib.hid (show Below wo.heap.size wo w3 by rw [hw3]; exact HBJ.out.alloc HBJ.out.size _)
          have HO3 := Lib.hid (show w3.ownsRow wo.heap.size 48 4 u5 E.length (flatRV E) by rw [hw3]; exact HOJ.out.alloc _)
          have k0 : w3.cell? ⟨xb, 0, none⟩ = some (.int .i64 r.id) := fr_cell_of_heap hx3 rfl
          have k1 : w3.cell? ⟨xb, 1, none⟩ = some (.int .i64 r.wt) := fr_cell_of_heap hx3 rfl
          have k2 : w3.cell? ⟨xb, 2, none⟩ = some (.int .i64 r.df) := fr_cell_of_heap hx3 rfl
          have k3 : w3.cell? ⟨xb, 3, none⟩ = some (.slice ai r.its.length ci) := fr_cell_of_heap hx3 rfl
          have hc1 : wo.heap.size ≤ w3.heap.size := HB3.out.size
          clear hw3 hxb hx3 d0 d1 d2 d3 c4
          go_wp2_with (at_builtin; refine wpList_append_at (us := #[.int .i64 r.id, .int .i64 r.wt, .int .i64 r.df, .slice ai r.its.length ci]) rfl _ _ 44 rfl wo.heap.size _ 4 48 Try.underlying44 frow_info rfl (by decide) u5 E.length (flatRV E) rfl HO3.out rfl rfl (by simp [Value.oneCell']) ?c1 ?c2 ?c3 ?_; (case c1 => exact hc1); (case c2 => exact hc2); (case c3 => exact hc3); intro gg gcap w4 ho4 hg4 hat4)
          have HO4 := Lib.hid ho4
          have HB4 := Lib.hid (HB3.out.trans ⟨hg4.os, hg4.tape, hg4.output, hg4.size, fun j hj => hg4.block j (by omega) (fun e => by have := own_block HO3.out j e.symm; omega)⟩ : Below wo.heap.size wo w4)
          clear ho4 hg4 hat4 k0 k1 k2 k3
          go_wp2_with fail
          go_roundg (li.length - (j + 1))
          case rel => exact ⟨j + 1, rfl, by go_num, by omega, by have h := HO4.out; rw [htl] at h; rw [HT.out, List.length_append, flatRV_snoc, htl]; exact h, HB4.out⟩
          case measure => have := HG'.out; omega
        · have HJ := Lib.hid (show li.take j = li from List.take_of_length_le (by omega))
          have hoj := HOJ.out
          rw [HJ.out] at hoj
          have HOF := Lib.hid hoj
          obtain ⟨ai, ci, hvi, -⟩ := own_cells hoj
          subst hvi
          have HOD := Lib.hid (HO.out.below HBJ.out)
          have c0 := cell_below HBW.out HC.out.1
          have c1 := cell_below HBW.out HC.out.2.1
          have c2 := cell_below HBW.out HC.out.2.2.1
          have c5 := cell_below HBW.out HC.out.2.2.2.2
          obtain ⟨i0, hi0, hz0, hz1, hz2⟩ := info_parts trow_info
          have hw1 := HBW.out.size
          have hwo1 := HB.out.size
          have hb5 : Below wr.heap.size wr wr.drew := ⟨rfl, rfl, rfl, Nat.le_refl _, fun _ _ => rfl⟩
          have hfar : ∀ o, (⟨g, o, none⟩ : Addr).block < w.heap.size := fun _ => hgw
          clear hoj
          go_upto_region 11 with fail
          clear c4
          go_region_held3 (fun w' => w'.cell? ⟨g, off + k * 6, none⟩ = some (.int .i64 x.id) ∧ w'.cell? ⟨g, off + k * 6 + 1, none⟩ = some (.int .i64 x.wt) ∧ w'.cell? ⟨g, off + k * 6 + 2, none⟩ = some (.int .i64 x.df) ∧ w'.cell? ⟨g, off + k * 6 + 5, none⟩ = some (.bool x.gv))
            (first
              | go_keep
              | exact ⟨(hb9.cell (p := ⟨g, off + k * 6, none⟩) hgw).trans ((HBW.out.cell (p := ⟨g, off + k * 6, none⟩) hgw).symm.trans c0), (hb9.cell (p := ⟨g, off + k * 6 + 1, none⟩) hgw).trans ((HBW.out.cell (p := ⟨g, off + k * 6 + 1, none⟩) hgw).symm.trans c1), (hb9.cell (p := ⟨g, off + k * 6 + 2, none⟩) hgw).trans ((HBW.out.cell (p := ⟨g, off + k * 6 + 2, none⟩) hgw).symm.trans c2), (hb9.cell (p := ⟨g, off + k * 6 + 5, none⟩) hgw).trans ((HBW.out.cell (p := ⟨g, off + k * 6 + 5, none⟩) hgw).symm.trans c5)⟩)
            (first
              | (refine step_append_lies _ (by rfl) _ _ _ (by rfl) w.heap.size 143 i0 _ 5 56 Try.underlying94 hi0 hz0 hz1 hz2 rfl (by omega) u3 D.length (flatTV D) (by rfl) ((own_below HOD.out.own hb5).alloc _)
                        ⟨wr.heap.size, 0, none⟩ 1 1 (encTV (x, .slice ai li.length ci, li)) (by rfl) (by rfl) (World.news_of_block (cs := #[.int .i64 x.id, .int .i64 x.wt, .int .i64 x.df, .slice ai li.length ci, .bool x.gv]) (t := 143) (fr := (0, 0)) (heap_alloc_new _ _)) (by simp [Value.oneCell', encTV]) (by omega) (by unfold maxLen; omega) (by omega) (by simp; omega) (wr.heap.size + 1) (by simp) ?_; intro gg gcap w9 hown9 hgrow hat hlt9; (have hb9 : Below w.heap.size w w9 := (HBW.out.alloc hw1 _).trans ⟨hgrow.os, hgrow.tape, hgrow.output, Nat.le_trans (by simp) hgrow.size, fun j hj => hgrow.block j (by simp; omega) (fun e => by have := own_block HOD.out.own j e.symm; omega)⟩)))
          have hr9 := (show TIn w w9 (.slice (some ⟨gg, 0, none⟩) (D.length + 1) gcap) (D ++ [(x, .slice ai li.length ci, li)]) from ⟨by rw [List.length_append, flatTV_snoc]; exact hown9, fun p hp => by
            have hkp : ∀ {e : TypeId} {s : Nat} {vv : Value} {m : Nat} {xs : List Value}, e ≠ 143 → wr.drew.ownsRow w.heap.size e s vv m xs → w9.ownsRow w.heap.size e s vv m xs := fun hne h => World.ownsRow.kept (h.alloc _) hgrow (own_apart h (own_below HOD.out.own hb5) hne)
            rcases List.mem_append.1 hp with hp | hp
            · exact ⟨hkp (by decide) (own_below (HOD.out.inv p hp).1 hb5), (HOD.out.inv p hp).2⟩
            · rw [List.mem_singleton] at hp
              subst hp
              exact ⟨hkp (by decide) (own_base (own_below HOF.out hb5) hwo1), fun r hr => HIN.out.rows.its r hr, HIN.out.same⟩⟩)
          rw [hll] at hr9
          have HR9 := Lib.hid hr9
          have HB9 := Lib.hid hb9
          clear hr9 hown9 hgrow hat hlt9 hb5 hb9 hi0 hz0 hz1 hz2 hfar c0 c1 c2 c5
          go_wp2_with fail
          go_roundg (l.length - (k + 1))
          case rel =>
            refine ⟨k + 1, _, rfl, by go_num, by omega, ⟨?_, ?_⟩, HR9.out, HB9.out⟩
            · rw [List.map_append, HM.out.1, List.take_add_one, HXX.out]
              rfl
            · rw [List.map_append, HM.out.2, List.take_add_one, HXL.out]
              rfl
          case measure => have := HG.out; omega
    · have HK := Lib.hid (show D.map Prod.fst = l.map Prod.fst ∧ D.map (fun p => p.2.2) = l.map (fun p => p.2.2.2) from ⟨by rw [HM.out.1]; exact List.take_of_length_le (by rw [List.length_map]; omega), by rw [HM.out.2]; exact List.take_of_length_le (by rw [List.length_map]; omega)⟩)
      go_wp2_with fail
      go_ret
      exact ⟨_, D, rfl, HO.out.rows HB.out, HK.out.1, HK.out.2, HB.out⟩
end Go.Proofs.Ytohkchilogmneaa
