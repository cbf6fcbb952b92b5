/-
  law35: flows, shares: the walks.
  law35: pools: the walk.
-/
import Derived.Test.YtjmlimogmmikoaaGreatDoorSx08
import Derived.Test.YtjmlimogmmikoaaGreatDoorSx10
import Derived.Deep.AppendLies
import Derived.Deep.LoopGhost
import Derived.Deep.RegionHeld3
import Derived.Deep.DeepCutAuto
import Derived.BigRegion
import Derived.Deep.Cut
import Derived.Deep.RegionLaw
namespace Go.Proofs.YtjmlimogmmikoaaGreatDoor
open Go.RowKit
theorem its_form {w : World} {v : Value} {l : List It} (h : ItsAt w v l) : ∃ a c, v = .slice a l.length c := by
  obtain ⟨a, c, hv, _⟩ := h
  exact ⟨a, c, hv⟩
set_option maxRecDepth 100000 in
set_option maxHeartbeats 4000000 in
theorem flows35_any (v : Value) (l : List (FRow × Value)) (w : World) (hl : RowsAt w v l) (hlen : l.length ≤ 1000000) : Calls Tryz.prog 165 #[v] w fun e w' => ∃ v', e = .returned v' ∧ w'.ownsRow w.heap.size 237 4 v' l.length (flatRV l) ∧ Below w.heap.size w w' := by
  have HL := Lib.hid hl
  have HLEN := Lib.hid hlen
  obtain ⟨a, cap, rfl, -⟩ := hl.form
  clear hl hlen
  go_enter Tryz.func165, Tryz.ntmps165
  go_wp2_with fail
  go_loopg [3, 4] l.length (fun g ov i wr => ∃ k : Nat, g = l.length - k ∧ i = .int .i64 k ∧ k ≤ l.length ∧ wr.ownsRow w.heap.size 237 4 ov (l.take k).length (flatRV (l.take k)) ∧ Below w.heap.size w wr)
  case atStart => exact ⟨0, rfl, rfl, Nat.zero_le _, own_empty (Nat.le_refl _), box_below⟩
  case round =>
    obtain ⟨k, hg, rfl, hk, ho, hb⟩ := hrel
    have HG := Lib.hid hg
    have HO := Lib.hid ho
    have HB := Lib.hid hb
    clear hg ho hb
    by_cases hlt : k < l.length
    · obtain ⟨⟨x, vx⟩, hx⟩ : ∃ p, l[k]? = some p := ⟨_, List.getElem?_eq_getElem hlt⟩
      have HXX := Lib.hid hx
      obtain ⟨ax, cx, rfl⟩ : ∃ ax cx, vx = .slice ax x.its.length cx := its_form (HL.out.its _ (List.mem_of_getElem? hx))
      obtain ⟨g, off, cap', hv, _, c0, c1, c2, c3⟩ := (HL.out.below HB.out).at hx
      cases hv
      simp only at c0 c1 c2 c3
      have HT := Lib.hid (show l.take (k + 1) = l.take k ++ [(x, .slice ax x.its.length cx)] by rw [List.take_succ_eq_append_getElem hlt, (List.getElem?_eq_some_iff.1 hx).2])
      have hkl : (k : Int) < (l.length : Int) := by omega
      have htl : (l.take k).length = k := by rw [List.length_take]; omega
      have hf := HLEN.out
      obtain ⟨D, hD⟩ : ∃ D, D = l.take k := ⟨_, rfl⟩
      rw [← hD] at HO HT htl
      rw [htl] at HO
      have hgw : g < w.heap.size := by
        obtain ⟨g2, off2, cap2, hv2, _, q0, _⟩ := HL.out.at hx
        cases hv2
        exact World.block_lt_of_cell? w _ q0
      obtain ⟨i0, hi0, hz0, hz1, hz2⟩ := info_parts frow_info
      have hw1 := HB.out.size
      clear hx hD
      go_upto_region 5 with fail
      go_region_held3 (fun w' => w'.cell? ⟨g, off + k * 4, none⟩ = some (.int .i64 x.id) ∧ w'.cell? ⟨g, off + k * 4 + 1, none⟩ = some (.int .i64 x.wt) ∧ w'.cell? ⟨g, off + k * 4 + 2, none⟩ = some (.int .i64 x.df) ∧ w'.cell? ⟨g, off + k * 4 + 3, none⟩ = some (.slice ax x.its.length cx))
        (first
          | go_keep
          | exact ⟨(hb9.cell (p := ⟨g, off + k * 4, none⟩) hgw).trans ((HB.out.cell (p := ⟨g, off + k * 4, none⟩) hgw).symm.trans c0), (hb9.cell (p := ⟨g, off + k * 4 + 1, none⟩) hgw).trans ((HB.out.cell (p := ⟨g, off + k * 4 + 1, none⟩) hgw).symm.trans c1), (hb9.cell (p := ⟨g, off + k * 4 + 2, none⟩) hgw).trans ((HB.out.cell (p := ⟨g, off + k * 4 + 2, none⟩) hgw).symm.trans c2), (hb9.cell (p := ⟨g, off + k * 4 + 3, none⟩) hgw).trans ((HB.out.cell (p := ⟨g, off + k * 4 + 3, none⟩) hgw).symm.trans c3)⟩)
        (first
          | (refine step_append_lies _ (by rfl) _ _ _ (by rfl) w.heap.size 237 i0 _ 4 48 Tryz.underlying189 hi0 hz0 hz1 hz2 rfl (by omega) u3 k (flatRV D) (by rfl) ((own_below HO.out ⟨rfl, rfl, rfl, Nat.le_refl _, fun _ _ => rfl⟩).alloc _)
                    ⟨wr.heap.size, 0, none⟩ 1 1 (encRV (x, .slice ax x.its.length cx)) (by rfl) (by rfl) (World.news_of_block (cs := #[.int .i64 x.id, .int .i64 x.wt, .int .i64 x.df, .slice ax x.its.length cx]) (t := 237) (fr := (0, 0)) (heap_alloc_new _ _)) (by simp [Value.oneCell', encRV]) (by omega) (by unfold maxLen; omega) (by omega) (by simp; omega) (wr.heap.size + 1) (by simp) ?_; intro gg gcap w9 hown9 hgrow hat hlt9; (have hb9 : Below w.heap.size w w9 := (HB.out.alloc hw1 _).trans ⟨hgrow.os, hgrow.tape, hgrow.output, Nat.le_trans (by simp) hgrow.size, fun j hj => hgrow.block j (by simp; omega) (fun e => by have := own_block HO.out j e.symm; omega)⟩)))
      have HO9 := Lib.hid hown9
      have HB9 := Lib.hid hb9
      clear hown9 hgrow hat hlt9 hb9 hi0 hz0 hz1 hz2 hgw c0 c1 c2 c3
      go_wp2_with fail
      go_roundg (l.length - (k + 1))
      case rel => exact ⟨k + 1, rfl, by go_num, by omega, by rw [HT.out, List.length_append, flatRV_snoc, htl]; exact HO9.out, HB9.out⟩
      case measure => have := HG.out; omega
    · have HK := Lib.hid (show l.take k = l from List.take_of_length_le (by omega))
      go_wp2_with fail
      go_ret
      have h := HO.out
      rw [HK.out] at h
      exact ⟨_, rfl, h, HB.out⟩
set_option maxRecDepth 100000 in
set_option maxHeartbeats 4000000 in
theorem shares35_any (v : Value) (l : List DV) (w : World) (h : DRowsAt w v l) (hf : l.length ≤ 1000000) (hfs : ∀ p ∈ l, p.2.2.2.length ≤ 1000000) : Calls Tryz.prog 97 #[v] w fun e w' => ∃ v' l', e = .returned v' ∧ TIn17 w.heap.size w w' v' l' ∧ l'.map Prod.fst = l.map Prod.fst ∧ l'.map (fun p => p.2.2) = l.map (fun p => p.2.2.2) ∧ Below w.heap.size w w' := by
  have HR := Lib.hid h
  have HL := Lib.hid hf
  have HLS := Lib.hid hfs
  obtain ⟨a, cap, rfl, -⟩ := h.form
  clear h hf hfs
  go_enter Tryz.func97, Tryz.ntmps97
  go_wp2_with fail
  go_loopg [3, 4] l.length (fun g ov i wr => ∃ (k : Nat) (D : List TV), g = l.length - k ∧ i = .int .i64 k ∧ k ≤ l.length ∧ (D.map Prod.fst = (l.map Prod.fst).take k ∧ D.map (fun p => p.2.2) = (l.map (fun p => p.2.2.2)).take k) ∧ TIn17 w.heap.size w wr ov D ∧ Below w.heap.size w wr)
  case atStart => exact ⟨0, [], rfl, rfl, Nat.zero_le _, ⟨rfl, rfl⟩, ⟨own_empty (Nat.le_refl _), fun p hp => by cases hp⟩, box_below⟩
  case round =>
    obtain ⟨k, D, hg, rfl, hk, hm, ho, hb⟩ := hrel
    have HG := Lib.hid hg
    have HM := Lib.hid hm
    have HO := Lib.hid ho
    have HB := Lib.hid hb
    clear hg ho hb hm
    by_cases hlt : k < l.length
    · obtain ⟨⟨x, q0, vx, li⟩, hx⟩ : ∃ p, l[k]? = some p := ⟨_, List.getElem?_eq_getElem hlt⟩
      have hmem := List.mem_of_getElem? hx
      have HIN := Lib.hid (HR.out.inv _ hmem)
      have HFI := Lib.hid (HLS.out _ hmem)
      obtain ⟨ax, cx, hvx, -⟩ := (HR.out.inv _ hmem).rows.form
      simp only at hvx
      subst hvx
      obtain ⟨g, off, cap', hv, _, c0, c1, c2, -, c3, c4⟩ := (HR.out.below HB.out).at hx
      cases hv
      simp only at c0 c1 c2 c3 c4
      have HXX := Lib.hid (show (l.map Prod.fst)[k]? = some x by rw [List.getElem?_map, hx]; rfl)
      have HXL := Lib.hid (show (l.map (fun p => p.2.2.2))[k]? = some li by rw [List.getElem?_map, hx]; rfl)
      have hkl : (k : Int) < (l.length : Int) := by omega
      have hll : D.length = k := by
        have h := congrArg List.length HM.out.1
        rw [List.length_map, List.length_take, List.length_map] at h
        omega
      have hf := HL.out
      have hgw : g < w.heap.size := by
        obtain ⟨g2, off2, cap2, hv2, _, q0, _⟩ := HR.out.at hx
        cases hv2
        exact World.block_lt_of_cell? w _ q0
      obtain ⟨i0, hi0, hz0, hz1, hz2⟩ := info_parts trow_info
      have hw1 := HB.out.size
      have hbd : Below wr.heap.size wr wr.drew := ⟨rfl, rfl, rfl, Nat.le_refl _, fun _ _ => rfl⟩
      clear hx hmem
      go_upto_region 5 with fail
      go_region_held3 (fun w' => w'.cell? ⟨g, off + k * 6, none⟩ = some (.int .i64 x.id) ∧ w'.cell? ⟨g, off + k * 6 + 1, none⟩ = some (.int .i64 x.wt) ∧ w'.cell? ⟨g, off + k * 6 + 2, none⟩ = some (.int .i64 x.df) ∧ w'.cell? ⟨g, off + k * 6 + 4, none⟩ = some (.slice ax li.length cx) ∧ w'.cell? ⟨g, off + k * 6 + 5, none⟩ = some (.bool x.gv))
        (first
          | go_keep
          | exact ⟨cell_below hb5 c0, cell_below hb5 c1, cell_below hb5 c2, cell_below hb5 c3, cell_below hb5 c4⟩
          | exact ⟨(hb9.cell (p := ⟨g, off + k * 6, none⟩) hgw).trans ((HB.out.cell (p := ⟨g, off + k * 6, none⟩) hgw).symm.trans c0), (hb9.cell (p := ⟨g, off + k * 6 + 1, none⟩) hgw).trans ((HB.out.cell (p := ⟨g, off + k * 6 + 1, none⟩) hgw).symm.trans c1), (hb9.cell (p := ⟨g, off + k * 6 + 2, none⟩) hgw).trans ((HB.out.cell (p := ⟨g, off + k * 6 + 2, none⟩) hgw).symm.trans c2), (hb9.cell (p := ⟨g, off + k * 6 + 4, none⟩) hgw).trans ((HB.out.cell (p := ⟨g, off + k * 6 + 4, none⟩) hgw).symm.trans c3), (hb9.cell (p := ⟨g, off + k * 6 + 5, none⟩) hgw).trans ((HB.out.cell (p := ⟨g, off + k * 6 + 5, none⟩) hgw).symm.trans c4)⟩)
        (first
          | (go_at_call 165; refine (flows35_any _ li _ ((HIN.out.rows.below HB.out).below hbd) HFI.out).mono ?_; rintro e w5 ⟨vi, rfl, hown5, hb5'⟩; (have hb5 := below_chain2 hbd hb5'); obtain ⟨ai, ci, hvi, -⟩ := own_cells hown5; subst hvi; (have hs5 : wr.heap.size ≤ w5.heap.size := hb5.size); (have HOWN5 := Lib.hid hown5); clear hb5' hown5)
          | (refine step_append_lies _ (by rfl) _ _ _ (by rfl) w.heap.size 191 i0 _ 5 56 Tryz.underlying165 hi0 hz0 hz1 hz2 rfl (by omega) u3 D.length (flatTV D) (by rfl) ((own_below HO.out.own hb5).alloc _)
                    ⟨w5.heap.size, 0, none⟩ 1 1 (encTV (x, .slice ai li.length ci, li)) (by rfl) (by rfl) (World.news_of_block (cs := #[.int .i64 x.id, .int .i64 x.wt, .int .i64 x.df, .slice ai li.length ci, .bool x.gv]) (t := 191) (fr := (0, 0)) (heap_alloc_new _ _)) (by simp [Value.oneCell', encTV]) (by omega) (by unfold maxLen; omega) (by omega) (by simp; omega) (w5.heap.size + 1) (by simp) ?_; intro gg gcap w9 hown9 hgrow hat hlt9; (have hb9 : Below w.heap.size w w9 := ((HB.out.trans (hb5.mono hw1)).alloc (by omega) _).grown hgrow (by simp; omega) (fun j hj => own_block HO.out.own j hj))))
      have hr9 := (show TIn17 w.heap.size w w9 (.slice (some ⟨gg, 0, none⟩) (D.length + 1) gcap) (D ++ [(x, .slice ai li.length ci, li)]) from ⟨by rw [List.length_append, flatTV_snoc]; exact hown9, fun p hp => by
        have hkp : ∀ {e : TypeId} {s : Nat} {vv : Value} {m : Nat} {xs : List Value}, e ≠ 191 → w5.ownsRow w.heap.size e s vv m xs → w9.ownsRow w.heap.size e s vv m xs := fun hne h => World.ownsRow.kept (h.alloc _) hgrow (own_apart h (own_below HO.out.own hb5) hne)
        rcases List.mem_append.1 hp with hp | hp
        · exact ⟨hkp (by decide) (own_below (HO.out.inv p hp).1 hb5), (HO.out.inv p hp).2⟩
        · rw [List.mem_singleton] at hp
          subst hp
          exact ⟨hkp (by decide) (own_base HOWN5.out hw1), fun r hr => HIN.out.rows.its r hr, HIN.out.same⟩⟩)
      rw [hll] at hr9
      have HR9 := Lib.hid hr9
      have HB9 := Lib.hid hb9
      clear hr9 hown9 hgrow hat hlt9 hb5 hb9 hbd hs5 hi0 hz0 hz1 hz2 hgw c0 c1 c2 c3 c4
      go_wp2_with fail
      go_roundg (l.length - (k + 1))
      case rel =>
        refine ⟨k + 1, _, rfl, by go_num, by omega, ⟨?_, ?_⟩, HR9.out, HB9.out⟩
        · rw [List.map_append, HM.out.1, List.take_add_one, HXX.out]
          rfl
        · rw [List.map_append, HM.out.2, List.take_add_one, HXL.out]
          rfl
      case measure => have := HG.out; omega
    · have HK := Lib.hid (show D.map Prod.fst = l.map Prod.fst ∧ D.map (fun p => p.2.2) = l.map (fun p => p.2.2.2) from ⟨by rw [HM.out.1]; exact List.take_of_length_le (by rw [List.length_map]; omega), by rw [HM.out.2]; exact List.take_of_length_le (by rw [List.length_map]; omega)⟩)
      go_wp2_with fail
      go_ret
      exact ⟨_, D, rfl, HO.out, HK.out.1, HK.out.2, HB.out⟩
end Go.Proofs.YtjmlimogmmikoaaGreatDoor
namespace Go.Proofs.YtjmlimogmmikoaaGreatDoor
open Go.RowKit Go.Sort
structure PBx (w w0 : World) (xb : Nat) (p : QX) (j m : Nat) (wr : World) : Prop where
  cells : ∃ (hv gv : Value) (sh : List (Value × List TV)), wr.heap[xb]? = some (.cells (encPR ⟨p.name, p.uses, p.sv, hv, gv⟩).toArray 98 (0, 0)) ∧ wr.ownsRow (xb + 1) 165 1 hv j (sh.map Prod.fst) ∧ wr.ownsRow (xb + 1) 4 1 gv m ((p.sh.take m).map (fun y => Value.bool y.2.gv)) ∧ (∀ s ∈ sh, TIn17 (xb + 1) w wr s.1 s.2) ∧
    sh.map (fun (s : Value × List TV) => s.2.map Prod.fst) = (p.sh.take j).map (fun y => y.2.l.map Prod.fst) ∧ sh.map (fun (s : Value × List TV) => s.2.map (fun z => z.2.2)) = (p.sh.take j).map (fun y => y.2.l.map (fun d => d.2.2.2))
  below : Below w0.heap.size w0 wr
  lo : w0.heap.size ≤ xb
section
variable {w w0 wr w9 : World} {xb j m : Nat} {p : QX} {y : Int × QS} {hv gv v9 : Value} {sh : List (Value × List TV)} {o : Obj}
theorem PBx.on (h : PBx w w0 xb p j m wr) (hb : Below wr.heap.size wr w9) : PBx w w0 xb p j m w9 := by
  obtain ⟨⟨hv, gv, sh, h1, h2, h3, h4, h5, h6⟩, hB, hlo⟩ := h
  exact ⟨⟨hv, gv, sh, (hb.block _ (fp_lt_of_heap h1)).trans h1, own_below h2 hb, own_below h3 hb, fun s hs => (h4 s hs).below hb, h5, h6⟩, hB.trans (hb.mono hB.size), hlo⟩
theorem pbx_below (h : PBx w w0 xb p j m wr) {u : Value} (hown : ∀ k, u.ownBlock = some k → xb + 1 ≤ k) (hg : (wr.alloc o).grownBy w9 u.ownBlock) (q : Nat) : Below w0.heap.size w0 (w9.setCell ⟨xb, q, none⟩ v9) := by
  have hlo := h.lo
  have hF : Fp (fun k => w0.heap.size ≤ k) wr (w9.setCell ⟨xb, q, none⟩ v9) := (((Fp.refl _ wr).alloc o).grown hg (fun k _ e => by have := hown k e; omega)).setCell (fun _ => hlo) _
  exact h.below.trans (hF.below h.below.size (fun k hk e => by omega))
theorem PBx.shares (h : PBx w w0 xb p j m wr) (hy : p.sh[j]? = some y) {s : Value × List TV} (hs : TIn17 (xb + 1) w wr s.1 s.2) (e1 : s.2.map Prod.fst = y.2.l.map Prod.fst) (e2 : s.2.map (fun z => z.2.2) = y.2.l.map (fun d => d.2.2.2))
    (hx : wr.heap[xb]? = some (.cells (encPR ⟨p.name, p.uses, p.sv, hv, gv⟩).toArray 98 (0, 0))) (h2 : wr.ownsRow (xb + 1) 165 1 hv j (sh.map Prod.fst)) (h3 : wr.ownsRow (xb + 1) 4 1 gv m ((p.sh.take m).map (fun y => Value.bool y.2.gv))) (h4 : ∀ s ∈ sh, TIn17 (xb + 1) w wr s.1 s.2)
    (h5 : sh.map (fun (s : Value × List TV) => s.2.map Prod.fst) = (p.sh.take j).map (fun y => y.2.l.map Prod.fst)) (h6 : sh.map (fun (s : Value × List TV) => s.2.map (fun z => z.2.2)) = (p.sh.take j).map (fun y => y.2.l.map (fun d => d.2.2.2)))
    (ho9 : w9.ownsRow (xb + 1) 165 1 v9 (j + 1) (sh.map Prod.fst ++ [s.1])) (hg : (wr.alloc o).grownBy w9 hv.ownBlock) : PBx w w0 xb p (j + 1) m (w9.setCell ⟨xb, 3, none⟩ v9) := by
  have hxl := fp_lt_of_heap hx
  have hown : ∀ k, hv.ownBlock = some k → xb + 1 ≤ k := own_block h2
  have hx9 : w9.heap[xb]? = some (.cells (encPR ⟨p.name, p.uses, p.sv, hv, gv⟩).toArray 98 (0, 0)) := (hg.block xb (by simp; omega) (fun e => by have := hown xb e.symm; omega)).trans (fr_alloc_old hx)
  refine ⟨⟨v9, gv, sh ++ [s], fr_setCell_at hx9, ?_, RowKit.ownsRow_setCell_below (own_grown (h3.alloc o) hg (own_apart h3 h2 (by decide))) (by simp) _, fun z hz => ?_, ?_, ?_⟩, pbx_below h hown hg 3, h.lo⟩
  · rw [List.map_append]
    exact RowKit.ownsRow_setCell_below ho9 (by simp) _
  · have hk : ∀ {ov : Value} {l : List TV}, TIn17 (xb + 1) w wr ov l → TIn17 (xb + 1) w (w9.setCell ⟨xb, 3, none⟩ v9) ov l := fun hT => ((hT.alloc o).grown (h2.alloc o) (by decide) (by decide) hg).setBox (by omega)
    rcases List.mem_append.1 hz with hz | hz
    · exact hk (h4 z hz)
    · rw [List.mem_singleton] at hz
      subst hz
      exact hk hs
  · rw [List.map_append, h5, List.take_add_one, hy]
    simp [e1]
  · rw [List.map_append, h6, List.take_add_one, hy]
    simp [e2]
theorem PBx.given (h : PBx w w0 xb p j m wr) (hy : p.sh[m]? = some y)
    (hx : wr.heap[xb]? = some (.cells (encPR ⟨p.name, p.uses, p.sv, hv, gv⟩).toArray 98 (0, 0))) (h2 : wr.ownsRow (xb + 1) 165 1 hv j (sh.map Prod.fst)) (h3 : wr.ownsRow (xb + 1) 4 1 gv m ((p.sh.take m).map (fun y => Value.bool y.2.gv))) (h4 : ∀ s ∈ sh, TIn17 (xb + 1) w wr s.1 s.2)
    (h5 : sh.map (fun (s : Value × List TV) => s.2.map Prod.fst) = (p.sh.take j).map (fun y => y.2.l.map Prod.fst)) (h6 : sh.map (fun (s : Value × List TV) => s.2.map (fun z => z.2.2)) = (p.sh.take j).map (fun y => y.2.l.map (fun d => d.2.2.2)))
    (ho9 : w9.ownsRow (xb + 1) 4 1 v9 (m + 1) ((p.sh.take m).map (fun y => Value.bool y.2.gv) ++ [.bool y.2.gv])) (hg : (wr.alloc o).grownBy w9 gv.ownBlock) : PBx w w0 xb p j (m + 1) (w9.setCell ⟨xb, 4, none⟩ v9) := by
  have hxl := fp_lt_of_heap hx
  have hown : ∀ k, gv.ownBlock = some k → xb + 1 ≤ k := own_block h3
  have hx9 : w9.heap[xb]? = some (.cells (encPR ⟨p.name, p.uses, p.sv, hv, gv⟩).toArray 98 (0, 0)) := (hg.block xb (by simp; omega) (fun e => by have := hown xb e.symm; omega)).trans (fr_alloc_old hx)
  refine ⟨⟨hv, v9, sh, fr_setCell_at hx9, RowKit.ownsRow_setCell_below (own_grown (h2.alloc o) hg (own_apart h2 h3 (by decide))) (by simp) _, ?_, fun z hz => (((h4 z hz).alloc o).grown (h3.alloc o) (by decide) (by decide) hg).setBox (by omega), h5, h6⟩, pbx_below h hown hg 4, h.lo⟩
  rw [List.take_add_one, hy, List.map_append]
  have := RowKit.ownsRow_setCell_below ho9 (a := ⟨xb, 4, none⟩) (by simp) v9
  simpa using this
end
structure PVIn (base : Nat) (w wr : World) (p : QX) (r : PR) (sh : List (Value × List TV)) : Prop where
  name : r.name = p.name
  uses : r.uses = p.uses
  sv : r.sv = p.sv
  hv : wr.ownsRow base 165 1 r.hv p.sh.length (sh.map Prod.fst)
  gv : wr.ownsRow base 4 1 r.gv p.sh.length (p.sh.map (fun y => Value.bool y.2.gv))
  rows : ∀ s ∈ sh, TIn17 base w wr s.1 s.2
  same : sh.map (fun s => s.2.map Prod.fst) = p.sh.map (fun y => y.2.l.map Prod.fst)
  lists : sh.map (fun s => s.2.map (fun z => z.2.2)) = p.sh.map (fun y => y.2.l.map (fun d => d.2.2.2))
section
variable {base b k : Nat} {w wr w9 : World} {p : QX} {r : PR} {sh : List (Value × List TV)} {ov : Value} {xs : List Value}
theorem PVIn.below (h : PVIn base w wr p r sh) (hb : Below wr.heap.size wr w9) : PVIn base w w9 p r sh := ⟨h.name, h.uses, h.sv, own_below h.hv hb, own_below h.gv hb, fun s hs => (h.rows s hs).below hb, h.same, h.lists⟩
theorem PVIn.rebase (h : PVIn base w wr p r sh) (hb : b ≤ base) : PVIn b w wr p r sh := ⟨h.name, h.uses, h.sv, own_base h.hv hb, own_base h.gv hb, fun s hs => (h.rows s hs).base hb, h.same, h.lists⟩
theorem PVIn.grown (h : PVIn base w wr p r sh) (ho : wr.ownsRow b 98 5 ov k xs) (hg : wr.grownBy w9 ov.ownBlock) : PVIn base w w9 p r sh :=
  ⟨h.name, h.uses, h.sv, own_grown h.hv hg (own_apart h.hv ho (by decide)), own_grown h.gv hg (own_apart h.gv ho (by decide)), fun s hs => (h.rows s hs).grown ho (by decide) (by decide) hg, h.same, h.lists⟩
theorem PBx.row {w0 : World} {xb : Nat} (h : PBx w w0 xb p p.sh.length p.sh.length wr) : ∃ r sh, wr.heap[xb]? = some (.cells (encPR r).toArray 98 (0, 0)) ∧ PVIn (xb + 1) w wr p r sh := by
  obtain ⟨⟨hv, gv, sh, h1, h2, h3, h4, h5, h6⟩, -, -⟩ := h
  rw [List.take_length] at h3 h5 h6
  exact ⟨_, sh, h1, rfl, rfl, rfl, h2, h3, h4, h5, h6⟩
end
structure PoR where
  r : PR
  sh : List (Value × List TV)
structure BIn (w wr : World) (ov : Value) (l : List QX) (D : List PoR) : Prop where
  own : wr.ownsRow w.heap.size 98 5 ov D.length (D.flatMap (fun t => encPR t.r))
  row : ∀ (i : Nat) t p, D[i]? = some t → l[i]? = some p → PVIn w.heap.size w wr p t.r t.sh
theorem BIn.below {w wr w' : World} {ov : Value} {l : List QX} {D : List PoR} (h : BIn w wr ov l D) (hb : Below wr.heap.size wr w') : BIn w w' ov l D := ⟨own_below h.own hb, fun i t p h1 h2 => (h.row i t p h1 h2).below hb⟩
theorem BIn.snoc {w wr w9 : World} {ov v9 : Value} {l : List QX} {D : List PoR} {p : QX} {t : PoR} (h : BIn w wr ov l D) (hp : l[D.length]? = some p) (hr : PVIn w.heap.size w wr p t.r t.sh) (ho : w9.ownsRow w.heap.size 98 5 v9 (D.length + 1) (D.flatMap (fun t => encPR t.r) ++ encPR t.r)) (hg : wr.grownBy w9 ov.ownBlock) : BIn w w9 v9 l (D ++ [t]) := by
  refine ⟨by rw [List.length_append, List.flatMap_append]; simpa using ho, fun i t' p' h1 h2 => ?_⟩
  rcases Nat.lt_or_ge i D.length with hi | hi
  · rw [List.getElem?_append_left hi] at h1
    exact (h.row i t' p' h1 h2).grown h.own hg
  · have hi0 : i = D.length := by
      have := (List.getElem?_eq_some_iff.1 h1).1
      simp at this
      omega
    subst hi0
    rw [List.getElem?_append_right (Nat.le_refl _)] at h1
    simp at h1
    subst h1
    obtain rfl : p = p' := Option.some.inj (hp.symm.trans h2)
    exact hr.grown h.own hg
def SizesB (l : List QX) : Prop := ∀ p ∈ l, p.sh.length ≤ 1000 ∧ ∀ y ∈ p.sh, y.2.l.length ≤ 1000000 ∧ ∀ d ∈ y.2.l, d.2.2.2.length ≤ 1000000
set_option maxRecDepth 100000 in
set_option maxHeartbeats 16000000 in
theorem pools35_any (v : Value) (l : List QX) (w : World) (h : SlAt w v l.length (l.flatMap encQX)) (hi : ∀ p ∈ l, QXAt w p) (hf : l.length ≤ 1000) (hsz : SizesB l) :
    Calls Tryz.prog 35 #[v] w fun e w' => ∃ v' T, e = .returned v' ∧ BIn w w' v' l T ∧ T.length = l.length ∧ Below w.heap.size w w' := by
  have HL := Lib.hid h
  have HI := Lib.hid hi
  have HF := Lib.hid hf
  have HSZ := Lib.hid hsz
  obtain ⟨la, lc, rfl, -⟩ := h.form
  clear h hi hf hsz
  go_enter Tryz.func35, Tryz.ntmps35
  go_wp2_with fail
  go_loopg [3, 4] l.length (fun g ov i wr => ∃ (k : Nat) (D : List PoR), g = l.length - k ∧ i = .int .i64 k ∧ k ≤ l.length ∧ D.length = k ∧ BIn w wr ov l D ∧ Below w.heap.size w wr)
  case atStart => exact ⟨0, [], rfl, rfl, Nat.zero_le _, rfl, ⟨own_empty (Nat.le_refl _), fun i t p h => by simp at h⟩, box_below⟩
  case round =>
    obtain ⟨k, D, hg, rfl, hk, hD, hI, hb⟩ := hrel
    have HG := Lib.hid hg
    have HD := Lib.hid hD
    have HIN := Lib.hid hI
    have HB := Lib.hid hb
    clear hg hD hI hb
    by_cases hlt : k < l.length
    · obtain ⟨p, hp⟩ : ∃ p, l[k]? = some p := ⟨_, List.getElem?_eq_getElem hlt⟩
      have HP := Lib.hid hp
      have HPQ := Lib.hid (HI.out p (List.mem_of_getElem? hp))
      have HPS := Lib.hid (HSZ.out p (List.mem_of_getElem? hp))
      obtain ⟨g, off, hla, hc1⟩ := HL.out.cells encQX_len (by decide) hp
      subst hla
      obtain ⟨ha, hc, hhv, -⟩ := HPQ.out.hv.form
      have HHV := Lib.hid hhv
      have HC := Lib.hid (show ∀ w', Below w.heap.size w w' → ∀ j u, (encQX p)[j]? = some u → w'.cell? ⟨g, off + k * 4 + j, none⟩ = some u from fun w' hb j u hu => cell_below hb (hc1 j u hu))
      have hkl : (k : Int) < (l.length : Int) := by omega
      have c0 : wr.cell? ⟨g, off + k * 4, none⟩ = some (.string p.name) := HC.out wr HB.out 0 _ rfl
      have c1 : wr.cell? ⟨g, off + k * 4 + 1, none⟩ = some (.int .i64 p.uses) := HC.out wr HB.out 1 _ rfl
      have c2 : wr.cell? ⟨g, off + k * 4 + 2, none⟩ = some p.sv := HC.out wr HB.out 2 _ rfl
      have gw : g < wr.heap.size := World.block_lt_of_cell? wr _ c0
      obtain ⟨sa, sc, hsv, -⟩ := HPQ.out.sv.form
      have HSV := Lib.hid hsv
      rw [hsv] at c2
      clear hp hc1 hhv hsv
      go_upto_region 5 with fail
      go_cut [5] (fun bv wx => ∃ xb : Nat, bv = .pointer (some ⟨xb, 0, none⟩) ∧ PBx w wr xb p 0 0 wx)
      case first =>
        go_region
        all_goals
          clear c0 c1 c2 gw
          go_wp2_with fail
          go_meet
          refine ⟨wr.heap.size, rfl, ⟨⟨.slice none 0 0, .slice none 0 0, [], ?_, own_nil _ _ _ _, own_nil _ _ _ _, (fun s hs => by cases hs), rfl, rfl⟩, below_drewN box_below 1, Nat.le_refl _⟩⟩
          unfold encPR
          rw [HSV.out]
          exact fr_alloc_at
      case rest =>
        obtain ⟨xb, rfl, hst⟩ := hcut
        obtain ⟨w5, rfl⟩ : ∃ w5 : World, w5 = wr := ⟨_, rfl⟩
        have HST := Lib.hid hst
        clear hst c0 c1 c2 gw
        have hpl := HPS.out.1
        go_wp2_with fail
        go_loopg [6] p.sh.length (fun g i w' => ∃ j : Nat, g = p.sh.length - j ∧ i = .int .i64 j ∧ j ≤ p.sh.length ∧ PBx w w5 xb p j j w')
        case atStart => exact ⟨0, rfl, rfl, Nat.zero_le _, HST.out⟩
        case round =>
          obtain ⟨j, hg, rfl, hj, hst⟩ := hrel
          have HG2 := Lib.hid hg
          have HST2 := Lib.hid hst
          have HBW := Lib.hid (HB.out.trans (hst.below.mono HB.out.size))
          have c3 : wr.cell? ⟨g, off + k * 4 + 3, none⟩ = some (.slice ha p.sh.length hc) := by rw [← HHV.out]; exact HC.out wr HBW.out 3 _ rfl
          clear hg hst
          by_cases hjl : j < p.sh.length
          · obtain ⟨y, hy⟩ : ∃ y, p.sh[j]? = some y := ⟨_, List.getElem?_eq_getElem hjl⟩
            have HY := Lib.hid hy
            have HYS := Lib.hid (HPS.out.2 y (List.mem_of_getElem? hy))
            have HDR := Lib.hid (HPQ.out.inv y (List.mem_of_getElem? hy))
            obtain ⟨ya, yc, hyv, -⟩ := HDR.out.form
            obtain ⟨g7, o7, hq7, hc7⟩ := (show SlAt w (.slice ha p.sh.length hc) p.sh.length (p.sh.flatMap (encXS)) by have h := HPQ.out.hv; rw [HHV.out] at h; exact h).cells (encXS_len) (by decide) hy
            subst hq7
            have HC7 := Lib.hid (show ∀ w', Below w.heap.size w w' → w'.cell? ⟨g, off + k * 4 + 3, none⟩ = some (.slice (some ⟨g7, o7, none⟩) p.sh.length hc) ∧ w'.cell? ⟨g7, o7 + j * 3 + 1, none⟩ = some (.slice ya y.2.l.length yc) ∧ w'.cell? ⟨g7, o7 + j * 3 + 2, none⟩ = some (.bool y.2.gv) from fun w' hb => ⟨by rw [← HHV.out]; exact HC.out w' hb 3 _ rfl, cell_below hb (by rw [← hyv]; exact hc7 1 _ rfl), cell_below hb (hc7 2 _ rfl)⟩)
            have HYV := Lib.hid hyv
            have hjl2 : (j : Int) < (p.sh.length : Int) := by omega
            clear hy hc7 hyv
            go_upto_region 9 with fail
            clear c3
            go_cut [] (fun wx => PBx w w5 xb p (j + 1) j wx)
            case first =>
              obtain ⟨hv, gv, sh, hx, hoh, hog, hin, he1, he2⟩ := HST2.out.cells
              have HX := Lib.hid hx
              have HOH := Lib.hid hoh
              have HOG := Lib.hid hog
              have HIS := Lib.hid hin
              have HE := Lib.hid (And.intro he1 he2)
              have q3 : wr.cell? ⟨xb, 3, none⟩ = some hv := fr_cell_of_heap hx rfl
              obtain ⟨c3, s1, s2⟩ := HC7.out wr HBW.out
              have hbd : Below wr.heap.size wr wr.drew := ⟨rfl, rfl, rfl, Nat.le_refl _, fun _ _ => rfl⟩
              have HLX := Lib.hid (fp_lt_of_heap hx)
              obtain ⟨i1, hi0, hz0, hz1, hz2⟩ := info_parts shs_info
              have HTEN := Lib.hid (show Calls Tryz.prog 97 #[.slice ya y.2.l.length yc] wr.drew (fun e w' => ∃ a' c' l', e = .returned (.slice a' y.2.l.length c') ∧ TIn17 (xb + 1) w w' (.slice a' y.2.l.length c') l' ∧ l'.map Prod.fst = y.2.l.map Prod.fst ∧ l'.map (fun p => p.2.2) = y.2.l.map (fun p => p.2.2.2) ∧ Below wr.heap.size wr w') from by
                have h := shares35_any y.2.v y.2.l wr.drew ((HDR.out.below HBW.out).below hbd) HYS.out.1 HYS.out.2
                rw [HYV.out] at h
                refine h.mono ?_
                rintro e w' ⟨v', l', rfl, h1, h2, h3, h4⟩
                obtain ⟨a', c', hv', -⟩ := (sl_own h1.own).form
                have hll : l'.length = y.2.l.length := by have h := congrArg List.length h2; simpa using h
                rw [hll] at hv'
                subst hv'
                refine ⟨a', c', l', rfl, (h1.base (show xb + 1 ≤ wr.drew.heap.size from HLX.out)).from (fun z hz r hr => ?_), h2, h3, below_chain2 hbd h4⟩
                have hm : z.2.2 ∈ l'.map (fun p => p.2.2) := List.mem_map_of_mem hz
                rw [h3] at hm
                obtain ⟨d, hd, hde⟩ := List.mem_map.1 hm
                rw [← hde] at hr
                exact (HDR.out.inv d hd).rows.its r hr)
              have hpl2 := HPS.out.1
              clear hx hoh hog hin he1 he2
              go_region_law (first
                | (go_simp; go_at_call 97; refine HTEN.out.mono ?_; rintro e w6 ⟨a6, c6, l6, rfl, ht6, e16, e26, hb6⟩; (have H6 := Lib.hid (HST2.out.on hb6)); (have hx6 := (hb6.block xb HLX.out).trans HX.out); (have HX6 := Lib.hid hx6); (have q6 : w6.cell? ⟨xb, 3, none⟩ = some hv := fr_cell_of_heap hx6 rfl); (have lx6 := fp_lt_of_heap hx6); (have HB6 := Lib.hid hb6); (have HT6 := Lib.hid ht6); (have HE6 := Lib.hid (And.intro e16 e26)); clear hb6 hx6 ht6 e16 e26)
                | (refine step_append_lies _ (by rfl) _ _ _ (by rfl) (xb + 1) 165 i1 _ 1 24 Tryz.underlying95 hi0 hz0 hz1 hz2 rfl (by decide) hv j (sh.map Prod.fst) (by rfl) ((own_below HOH.out HB6.out).alloc _) ⟨w6.heap.size, 0, none⟩ 1 1 [.slice a6 y.2.l.length c6] (by rfl) (by rfl) (World.news_of_block (cs := #[.slice a6 y.2.l.length c6]) (t := 165) (fr := (0, 0)) (heap_alloc_new _ _)) (by simp [Value.oneCell']) (by omega) (by unfold maxLen; omega) (by omega) (by simp; omega) (w6.heap.size + 1) (by simp) ?_; intro gg gcap w9 hown9 hgrow hat hlt9; (have hx9 : w9.heap[xb]? = some (.cells (encPR ⟨p.name, p.uses, p.sv, hv, gv⟩).toArray 98 (0, 0)) := (hgrow.block xb (by simp; omega) (fun e => by have := own_block HOH.out xb e.symm; omega)).trans (fr_alloc_old HX6.out)); (have k2 : w9.cell? ⟨xb, 3, none⟩ = some hv := fr_cell_of_heap hx9 rfl); (have f2 : w9.frozen? ⟨xb, 3, none⟩ = false := fr_free_of_heap hx9)))
              all_goals
                go_wp2_with fail
                go_meet
                exact H6.out.shares (s := (_, l6)) HY.out HT6.out HE6.out.1 HE6.out.2 HX6.out (own_below HOH.out HB6.out) (own_below HOG.out HB6.out) (fun s hs => (HIS.out s hs).below HB6.out) HE.out.1 HE.out.2 hown9 ⟨hgrow.os, hgrow.tape, hgrow.output, hgrow.size, hgrow.block⟩
            case rest =>
              have HST3 := Lib.hid hcut
              clear hcut
              obtain ⟨hv, gv, sh, hx, hoh, hog, hin, he1, he2⟩ := HST3.out.cells
              have HX := Lib.hid hx
              have HOH := Lib.hid hoh
              have HOG := Lib.hid hog
              have HIS := Lib.hid hin
              have HE := Lib.hid (And.intro he1 he2)
              have q4 : wc.cell? ⟨xb, 4, none⟩ = some gv := fr_cell_of_heap hx rfl
              obtain ⟨c3, s1, s2⟩ := HC7.out wc (HB.out.trans (HST3.out.below.mono HB.out.size))
              have lx := fp_lt_of_heap hx
              obtain ⟨i1, hi0, hz0, hz1, hz2⟩ := info_parts bool_info17
              have hpl2 := HPS.out.1
              clear hx hoh hog hin he1 he2 s1
              go_upto_region 10 with fail
              go_region_law (refine step_append_lies _ (by rfl) _ _ _ (by rfl) (xb + 1) 4 i1 _ 1 1 Tryz.underlying96 hi0 hz0 hz1 hz2 rfl (by decide) gv j ((p.sh.take j).map (fun (y : Int × QS) => Value.bool y.2.gv)) (by rfl) ((own_below HOG.out ⟨rfl, rfl, rfl, Nat.le_refl _, fun _ _ => rfl⟩).alloc _) ⟨wc.heap.size, 0, none⟩ 1 1 [.bool y.2.gv] (by rfl) (by rfl) (World.news_of_block (cs := #[.bool y.2.gv]) (t := 4) (fr := (0, 0)) (heap_alloc_new _ _)) (by simp [Value.oneCell']) (by omega) (by unfold maxLen; omega) (by omega) (by simp; omega) (wc.heap.size + 1) (by simp) ?_; intro gg gcap w9 hown9 hgrow hat hlt9; (have hx9 : w9.heap[xb]? = some (.cells (encPR ⟨p.name, p.uses, p.sv, hv, gv⟩).toArray 98 (0, 0)) := (hgrow.block xb (by simp; omega) (fun e => by have := own_block HOG.out xb e.symm; omega)).trans (fr_alloc_old HX.out)); (have k2 : w9.cell? ⟨xb, 4, none⟩ = some gv := fr_cell_of_heap hx9 rfl); (have f2 : w9.frozen? ⟨xb, 4, none⟩ = false := fr_free_of_heap hx9))
              all_goals
                go_wp2_with fail
                go_roundg (p.sh.length - (j + 1))
                case rel => exact ⟨j + 1, rfl, by go_num, by omega, HST3.out.given HY.out HX.out HOH.out HOG.out HIS.out HE.out.1 HE.out.2 hown9 ⟨hgrow.os, hgrow.tape, hgrow.output, hgrow.size, hgrow.block⟩⟩
                case measure => have := HG2.out; omega
          · obtain rfl : j = p.sh.length := by omega
            obtain ⟨⟨rn, ru, rsv, rhv, rgv⟩, sh, hr, hri⟩ := HST2.out.row
            have hlo := HST2.out.lo
            have hbw := HB.out.size
            have HI9 := Lib.hid (HIN.out.below HST2.out.below)
            have hrsv : rsv = .slice sa p.served.length sc := by have h := hri.sv; simp only at h; rw [h, HSV.out]
            obtain ⟨ha', hc', hhv, -⟩ := (sl_own hri.hv).form
            obtain ⟨ga, gc, hgv, -⟩ := (sl_own hri.gv).form
            simp only at hhv hgv
            subst hrsv hhv hgv
            have HRI := Lib.hid (hri.rebase (b := w.heap.size) (by omega))
            have k0 : wr.cell? ⟨xb, 0, none⟩ = some (.string rn) := fr_cell_of_heap hr rfl
            have k1 : wr.cell? ⟨xb, 1, none⟩ = some (.int .i64 ru) := fr_cell_of_heap hr rfl
            have k2 : wr.cell? ⟨xb, 2, none⟩ = some (.slice sa p.served.length sc) := fr_cell_of_heap hr rfl
            have k3 : wr.cell? ⟨xb, 3, none⟩ = some (.slice ha' p.sh.length hc') := fr_cell_of_heap hr rfl
            have k4 : wr.cell? ⟨xb, 4, none⟩ = some (.slice ga p.sh.length gc) := fr_cell_of_heap hr rfl
            have hc1 := HBW.out.size
            have hfw := HF.out
            have hdl := HD.out
            have hc2 : D.length < 140737488355328 := by omega
            have hc3 : (D.length + 1) * 96 ≤ 140737488355328 := by omega
            clear hr hri hlo hbw hdl
            go_wp2_with (at_builtin; refine wpList_append_at (us := #[.string rn, .int .i64 ru, .slice sa p.served.length sc, .slice ha' p.sh.length hc', .slice ga p.sh.length gc]) rfl _ _ 40 rfl w.heap.size _ 5 96 Tryz.underlying40 pr_info rfl (by decide) u3 D.length (D.flatMap (fun t => encPR t.r)) rfl HI9.out.own rfl rfl (by simp [Value.oneCell']) ?c1 ?c2 ?c3 ?_; (case c1 => exact hc1); (case c2 => exact hc2); (case c3 => exact hc3); intro gg gcap w10 ho10 hg10 hat10)
            have HI10 := Lib.hid (HI9.out.snoc (t := ⟨⟨rn, ru, .slice sa p.served.length sc, .slice ha' p.sh.length hc', .slice ga p.sh.length gc⟩, sh⟩) (by rw [HD.out]; exact HP.out) HRI.out ho10 hg10)
            have HB10 := Lib.hid (HBW.out.trans ⟨hg10.os, hg10.tape, hg10.output, hg10.size, fun j hj => hg10.block j (by omega) (fun e => by have := own_block HI9.out.own j e.symm; omega)⟩ : Below w.heap.size w w10)
            clear ho10 hg10 hat10 k0 k1 k2 k3 k4 hc1 hc2 hc3 c3
            go_wp2_with fail
            go_roundg (l.length - (k + 1))
            case rel => exact ⟨k + 1, _, rfl, by go_num, by omega, by rw [List.length_append, List.length_singleton, HD.out], HI10.out, HB10.out⟩
            case measure => have := HG.out; omega
    · have HK := Lib.hid (show k = l.length by omega)
      go_wp2_with fail
      go_ret
      exact ⟨_, D, rfl, HIN.out, by rw [HD.out, HK.out], HB.out⟩
end Go.Proofs.YtjmlimogmmikoaaGreatDoor
