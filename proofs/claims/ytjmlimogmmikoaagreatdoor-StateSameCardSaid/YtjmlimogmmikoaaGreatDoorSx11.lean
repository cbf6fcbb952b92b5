/-
  law35: operations, tenants, Large: the walks.
  state: Same of two states that have nothing; To of such a one: the walks.
  ref35.needs: the walk.
-/
import Derived.Test.YtjmlimogmmikoaaGreatDoorSx10
import Derived.Deep.LoopGhost
import Derived.Test.YtjmlimogmmikoaaGreatDoorSx06
import Derived.Test.YtjmlimogmmikoaaGreatDoorSx09
namespace Go.Proofs.YtjmlimogmmikoaaGreatDoor
open Go.RowKit
def LgPost (P : Prop) (w : World) (e : Ending) (w' : World) : Prop := ∃ r : Bool, e = .returned (.bool r) ∧ (r = false → P) ∧ Below w.heap.size w w'
theorem lg_true {P : Prop} {w w' : World} (hb : Below w.heap.size w w') : LgPost P w (.returned (.bool true)) w' := ⟨true, rfl, fun h => absurd h (by decide), hb⟩
theorem lg_of {P : Prop} {r : Bool} {w w' : World} (h : r = false → P) (hb : Below w.heap.size w w') : LgPost P w (.returned (.bool r)) w' := ⟨r, rfl, h, hb⟩
def wrap3 (a b c : Int) : Int := wrap64 (wrap64 (a + b) + c)
set_option maxRecDepth 100000 in
set_option maxHeartbeats 4000000 in
theorem ops35_any (v : Value) (l : List Opr) (w : World) (h : SlAt w v l.length (l.flatMap encOp)) (hn : l.length ≤ 140737488351232) : Calls Tryz.prog 19 #[v] w (LgPost (l.length ≤ 40) w) := by
  have H := Lib.hid h
  obtain ⟨a, cap, rfl, -⟩ := h.form
  clear h
  go_enter Tryz.func19, Tryz.ntmps19
  go_wp2_with fail
  go_loopg [3] l.length (fun g i wr => ∃ k : Nat, g = l.length - k ∧ i = .int .i64 k ∧ k ≤ l.length ∧ Below w.heap.size w wr)
  case atStart => exact ⟨0, rfl, rfl, Nat.zero_le _, Below.refl _ _⟩
  case round =>
    obtain ⟨k, hg, rfl, hk, hb⟩ := hrel
    have HG := Lib.hid hg
    have HB := Lib.hid hb
    clear hg hb
    by_cases hlt : k < l.length
    · obtain ⟨x, hx⟩ : ∃ x, l[k]? = some x := ⟨_, List.getElem?_eq_getElem hlt⟩
      obtain ⟨g, off, cap', hv, -, hc⟩ := H.out.at encOp_len (by decide) hx
      cases hv
      have HR := Lib.hid (show wr.rangeAt g (off + k * 18 + 3) [.string x.key, .string x.cmd, .string x.need] from fun j u hu => by
        rw [Nat.add_assoc]
        refine cell_below HB.out (hc (3 + j) u ?_)
        match j, hu with
        | 0, hu => exact hu
        | 1, hu => exact hu
        | 2, hu => exact hu)
      have hkl : (k : Int) < (l.length : Int) := by omega
      clear hx hc
      go_upto_region 5 with (refine wpList_load_mid rfl 51 _ rfl g (off + k * 18 + 3) rfl [.string x.key, .string x.cmd, .string x.need] _ HR.out Tryz.underlying51 rfl (by kernel_rfl) ?_)
      have HB3 := Lib.hid (show Below w.heap.size w (wr.alloc (.cells #[.string x.key, .string x.cmd, .string x.need] 51)) from HB.out.alloc HB.out.size _)
      by_cases hq : 500 < wrap3 x.key.size x.cmd.size x.need.size
      · unfold wrap3 at hq
        go_wp2_with fail
        go_ret
        exact lg_true HB3.out
      · unfold wrap3 at hq
        go_wp2_with fail
        go_roundg (l.length - (k + 1))
        case rel => exact ⟨k + 1, rfl, by go_num, by omega, HB3.out⟩
        case measure => have := HG.out; omega
    · have hl : ¬ (40 : Int) < l.length → l.length ≤ 40 := by omega
      have HL := Lib.hid hl
      clear hl
      go_wp2_with fail
      go_ret
      exact lg_of (fun h => HL.out (by simpa using h)) HB.out
def FewT (p : DV) : Prop := p.2.2.2.length ≤ 20 ∧ ∀ r ∈ p.2.2.2, r.1.its.length ≤ 40
def FewTs (l : List DV) : Prop := l.length ≤ 10 ∧ ∀ p ∈ l, FewT p
set_option maxRecDepth 100000 in
set_option maxHeartbeats 4000000 in
theorem tenants35_any (v : Value) (l : List DV) (w : World) (h : DRowsAt w v l) (hn : l.length ≤ 140737488351232) (hns : ∀ p ∈ l, FewI p) : Calls Tryz.prog 18 #[v] w (LgPost (FewTs l) w) := by
  have H := Lib.hid h
  have HN := Lib.hid hns
  obtain ⟨a, cap, rfl, -⟩ := h.form
  clear h hns
  go_enter Tryz.func18, Tryz.ntmps18
  go_wp2_with fail
  go_loopg [3] l.length (fun g i wr => ∃ k : Nat, g = l.length - k ∧ i = .int .i64 k ∧ k ≤ l.length ∧ (∀ (t : Nat) p, t < k → l[t]? = some p → FewT p) ∧ wr = w)
  case atStart => exact ⟨0, rfl, rfl, Nat.zero_le _, fun t p ht => by omega, rfl⟩
  case round =>
    obtain ⟨k, hg, rfl, hk, hok, rfl⟩ := hrel
    have HG := Lib.hid hg
    have HOK := Lib.hid hok
    clear hg hok
    by_cases hlt : k < l.length
    · obtain ⟨⟨x, q0, vx, li⟩, hx⟩ : ∃ p, l[k]? = some p := ⟨_, List.getElem?_eq_getElem hlt⟩
      have HX := Lib.hid hx
      have hmem := List.mem_of_getElem? hx
      have HIN := Lib.hid (H.out.inv _ hmem)
      have hli : li.length ≤ 140737488351232 := (HN.out _ hmem).1
      obtain ⟨ax, cx, hvx, -⟩ := (H.out.inv _ hmem).rows.form
      simp only at hvx
      subst hvx
      obtain ⟨g, off, cap', hv, _, c0, c1, c2, c3, c4, c5⟩ := H.out.at hx
      cases hv
      simp only at c4
      have hkl : (k : Int) < (l.length : Int) := by omega
      clear hx hmem c0 c1 c2 c3 c5
      by_cases h20 : 20 < (li.length : Int)
      · go_wp2_with fail
        go_ret
        exact lg_true (Below.refl _ _)
      · have H20 := Lib.hid (show li.length ≤ 20 by omega)
        go_wp2_with fail
        go_loopg [4] li.length (fun g i w9 => ∃ j : Nat, g = li.length - j ∧ i = .int .i64 j ∧ j ≤ li.length ∧ (∀ (t : Nat) (r : FRow × Value), t < j → li[t]? = some r → r.1.its.length ≤ 40) ∧ w9 = wr)
        case atStart => exact ⟨0, rfl, rfl, Nat.zero_le _, fun t r ht => by omega, rfl⟩
        case round =>
          obtain ⟨j, hg, rfl, hj, hok, rfl⟩ := hrel
          have HG2 := Lib.hid hg
          have HOK2 := Lib.hid hok
          clear hg hok
          by_cases hjl : j < li.length
          · obtain ⟨⟨r, vr⟩, hr⟩ : ∃ p, li[j]? = some p := ⟨_, List.getElem?_eq_getElem hjl⟩
            have HR := Lib.hid hr
            obtain ⟨ai, ci, rfl⟩ : ∃ ai ci, vr = .slice ai r.its.length ci := by
              obtain ⟨ai, ci, hv, _⟩ := HIN.out.rows.its _ (List.mem_of_getElem? hr)
              exact ⟨ai, ci, hv⟩
            obtain ⟨gr, offr, capr, hv, _, d0, d1, d2, d3⟩ := HIN.out.rows.at hr
            cases hv
            simp only at d3
            have hjl2 : (j : Int) < (li.length : Int) := by omega
            clear hr d0 d1 d2
            by_cases h40 : 40 < (r.its.length : Int)
            · go_wp2_with fail
              go_ret
              exact lg_true (Below.refl _ _)
            · have H40 := Lib.hid (show r.its.length ≤ 40 by omega)
              go_wp2_with fail
              go_roundg (li.length - (j + 1))
              case rel =>
                refine ⟨j + 1, rfl, by go_num, by omega, fun t z ht hz => ?_, rfl⟩
                rcases Nat.lt_or_ge t j with h | h
                · exact HOK2.out t z h hz
                · obtain rfl : t = j := by omega
                  obtain rfl := Option.some.inj (HR.out.symm.trans hz)
                  exact H40.out
              case measure => have := HG2.out; omega
          · have HP := Lib.hid (show FewT (x, q0, .slice ax li.length cx, li) from ⟨H20.out, fun r hr => by
              obtain ⟨t, ht⟩ : ∃ t : Nat, li[t]? = some r := List.getElem?_of_mem hr
              exact HOK2.out t r (by have := (List.getElem?_eq_some_iff.1 ht).1; omega) ht⟩)
            go_wp2_with fail
            go_roundg (l.length - (k + 1))
            case rel =>
              refine ⟨k + 1, rfl, by go_num, by omega, fun t z ht hz => ?_, rfl⟩
              rcases Nat.lt_or_ge t k with h | h
              · exact HOK.out t z h hz
              · obtain rfl : t = k := by omega
                obtain rfl := Option.some.inj (HX.out.symm.trans hz)
                exact HP.out
            case measure => have := HG.out; omega
    · have HL := Lib.hid (show ¬ (10 : Int) < l.length → FewTs l from fun h => ⟨by omega, fun p hp => by
        obtain ⟨t, ht⟩ := List.getElem?_of_mem hp
        exact HOK.out t p (by have := (List.getElem?_eq_some_iff.1 ht).1; omega) ht⟩)
      go_wp2_with fail
      go_ret
      exact lg_of (fun h => HL.out (by simpa using h)) (Below.refl _ _)
def SmallP (p : QX) : Prop := p.served.length ≤ 8 ∧ p.sh.length ≤ 8 ∧ ∀ s ∈ p.sh, FewTs s.2.l
structure Small (s : Sta) : Prop where
  live : s.live.length ≤ 40
  ended : s.ended.length ≤ 40
  wks : s.wks.length ≤ 40
  invs : s.invs.length ≤ 60
  pools : s.pools.length ≤ 10
  hist : s.hist.length ≤ 40
  lets : s.lets.length ≤ 60
  wts : s.wts.length ≤ 40
  rows : ∀ p ∈ s.pools, SmallP p
set_option maxRecDepth 100000 in
set_option maxHeartbeats 16000000 in
theorem large35_any (s : Sta) (V : StV) (w : World) (h : StaAt w s V) (hf : StaFew s) : Calls Tryz.prog 6 #[.agg (staC s V)] w (LgPost (Small s) w) := by
  have H := Lib.hid h
  have HF := Lib.hid hf
  obtain ⟨a0, c0, hv0, -⟩ := h.live.form
  obtain ⟨a1, c1, hv1, -⟩ := h.ended.form
  obtain ⟨a2, c2, hv2, -⟩ := h.wks.form
  obtain ⟨a3, c3, hv3, -⟩ := h.invs.form
  obtain ⟨a4, c4, hv4, -⟩ := h.pools.form
  obtain ⟨a5, c5, hv5, -⟩ := h.hist.form
  obtain ⟨a6, c6, hv6, -⟩ := h.lets.form
  obtain ⟨a7, c7, hv7, -⟩ := h.wts.form
  have HV0 := Lib.hid hv0
  have HV1 := Lib.hid hv1
  have HV2 := Lib.hid hv2
  have HV3 := Lib.hid hv3
  have HV4 := Lib.hid hv4
  have HV5 := Lib.hid hv5
  have HV6 := Lib.hid hv6
  have HV7 := Lib.hid hv7
  obtain ⟨C, hC⟩ : ∃ C, C = staC s V := ⟨_, rfl⟩
  have HX := Lib.hid (show (w.alloc (.cells C 35)).heap[w.heap.size]? = some (.cells C 35 (0, 0)) from fr_alloc_at)
  have HB1 := Lib.hid (show Below w.heap.size w (w.alloc (.cells C 35)) from box_below)
  have k0 : C[7]? = some (.slice a0 s.live.length c0) := by rw [hC, ← hv0]; rfl
  have k1 : C[8]? = some (.slice a1 s.ended.length c1) := by rw [hC, ← hv1]; rfl
  have k2 : C[9]? = some (.slice a2 s.wks.length c2) := by rw [hC, ← hv2]; rfl
  have k3 : C[10]? = some (.slice a3 s.invs.length c3) := by rw [hC, ← hv3]; rfl
  have k4 : C[11]? = some (.slice a4 s.pools.length c4) := by rw [hC, ← hv4]; rfl
  have k5 : C[12]? = some (.slice a5 s.hist.length c5) := by rw [hC, ← hv5]; rfl
  have k6 : C[13]? = some (.slice a6 s.lets.length c6) := by rw [hC, ← hv6]; rfl
  have k7 : C[14]? = some (.slice a7 s.wts.length c7) := by rw [hC, ← hv7]; rfl
  have HK := Lib.hid (show C[7]? = some (.slice a0 s.live.length c0) ∧ C[8]? = some (.slice a1 s.ended.length c1) ∧ C[9]? = some (.slice a2 s.wks.length c2) ∧ C[10]? = some (.slice a3 s.invs.length c3) ∧ C[11]? = some (.slice a4 s.pools.length c4) ∧ C[12]? = some (.slice a5 s.hist.length c5) ∧ C[13]? = some (.slice a6 s.lets.length c6) ∧ C[14]? = some (.slice a7 s.wts.length c7) from ⟨k0, k1, k2, k3, k4, k5, k6, k7⟩)
  rw [← hC]
  clear h hf hv0 k0 hv1 k1 hv2 k2 hv3 k3 hv4 k4 hv5 k5 hv6 k6 hv7 k7
  clear hC
  have hp := HF.out.pools
  have hw := HF.out.wks
  have hi := HF.out.invs
  go_enter Tryz.func6, Tryz.ntmps6
  go_upto_region 1 with fail
  generalize w.alloc (.cells C 35) = w1 at HX HB1 ⊢
  have x4 : w1.cell? ⟨w.heap.size, 11, none⟩ = some (.slice a4 s.pools.length c4) := fr_cell_of_heap HX.out HK.out.2.2.2.2.1
  go_wp2_with fail
  go_loopg [3] s.pools.length (fun g i wr => ∃ k : Nat, g = s.pools.length - k ∧ i = .int .i64 k ∧ k ≤ s.pools.length ∧ (∀ (t : Nat) p, t < k → s.pools[t]? = some p → SmallP p) ∧ Below w1.heap.size w1 wr)
  case atStart => exact ⟨0, rfl, rfl, Nat.zero_le _, fun t p ht => by omega, Below.refl _ _⟩
  case round =>
    obtain ⟨k, hg, rfl, hk, hok, hb⟩ := hrel
    have HG := Lib.hid hg
    have HOK := Lib.hid hok
    have HB := Lib.hid hb
    have HBW := Lib.hid (HB1.out.trans (hb.mono HB1.out.size))
    have hxr : wr.heap[w.heap.size]? = some (.cells C 35 (0, 0)) := (hb.block _ (fp_lt_of_heap HX.out)).trans HX.out
    have HXR := Lib.hid hxr
    have x4 := fr_cell_of_heap hxr HK.out.2.2.2.2.1
    clear hg hok hb
    by_cases hlt : k < s.pools.length
    · obtain ⟨p, hx⟩ : ∃ p, s.pools[k]? = some p := ⟨_, List.getElem?_eq_getElem hlt⟩
      have HPX := Lib.hid hx
      have hmem := List.mem_of_getElem? hx
      have HQ := Lib.hid (H.out.rows p hmem)
      have HFP := Lib.hid (HF.out.rows p hmem)
      obtain ⟨sa, sc, hsv, -⟩ := HQ.out.sv.form
      obtain ⟨ha, hc, hhv, -⟩ := HQ.out.hv.form
      have HHV := Lib.hid hhv
      obtain ⟨g, off, cap', hv, -, hcc⟩ := (show SlAt wr (.slice a4 s.pools.length c4) s.pools.length (s.pools.flatMap encQX) by rw [← HV4.out]; exact H.out.pools.below HBW.out).at encQX_len (by decide) hx
      cases hv
      have HCC := Lib.hid hcc
      have d0 : wr.cell? ⟨g, off + k * 4, none⟩ = some (.string p.name) := hcc 0 _ rfl
      have d2 : wr.cell? ⟨g, off + k * 4 + 2, none⟩ = some (.slice sa p.served.length sc) := by rw [← hsv]; exact hcc 2 _ rfl
      have d3 : wr.cell? ⟨g, off + k * 4 + 3, none⟩ = some (.slice ha p.sh.length hc) := by rw [← hhv]; exact hcc 3 _ rfl
      have HD3 := Lib.hid d3
      have hkl : (k : Int) < (s.pools.length : Int) := by omega
      clear hx hmem hcc hsv hhv
      by_cases q1 : 300 < (p.name.size : Int)
      · go_wp2_with fail
        go_ret
        exact lg_true HBW.out
      by_cases q2 : 8 < (p.served.length : Int)
      · go_wp2_with fail
        go_ret
        exact lg_true HBW.out
      by_cases q3 : 8 < (p.sh.length : Int)
      · go_wp2_with fail
        go_ret
        exact lg_true HBW.out
      have HQS := Lib.hid (show p.served.length ≤ 8 ∧ p.sh.length ≤ 8 by omega)
      go_upto_region 6 with fail
      obtain ⟨w5, rfl⟩ : ∃ w5 : World, w5 = wr := ⟨_, rfl⟩
      go_wp2_with fail
      go_loopg [4] p.sh.length (fun g i wr => ∃ j : Nat, g = p.sh.length - j ∧ i = .int .i64 j ∧ j ≤ p.sh.length ∧ (∀ (t : Nat) (z : Int × QS), t < j → p.sh[t]? = some z → FewTs z.2.l) ∧ Below w5.heap.size w5 wr)
      case atStart => exact ⟨0, rfl, rfl, Nat.zero_le _, fun t p ht => by omega, Below.refl _ _⟩
      case round =>
        obtain ⟨j, hg, rfl, hj, hok, hb⟩ := hrel
        have HG2 := Lib.hid hg
        have HOK2 := Lib.hid hok
        have HBJ := Lib.hid hb
        have HBX := Lib.hid (HBW.out.trans (hb.mono HBW.out.size))
        have x4 : wr.cell? ⟨w.heap.size, 11, none⟩ = some (.slice (some ⟨g, off, none⟩) s.pools.length c4) := cell_below hb (fr_cell_of_heap HXR.out HK.out.2.2.2.2.1)
        have d3 := cell_below hb HD3.out
        clear hg hok hb
        by_cases hjl : j < p.sh.length
        · obtain ⟨⟨q0, z⟩, hz⟩ : ∃ z, p.sh[j]? = some z := ⟨_, List.getElem?_eq_getElem hjl⟩
          have HZ := Lib.hid hz
          have hmem := List.mem_of_getElem? hz
          have HDR := Lib.hid ((HQ.out.inv _ hmem).below HBX.out)
          have HFX := Lib.hid (HFP.out.2.2 _ hmem)
          obtain ⟨ya, yc, hyv, -⟩ := (HQ.out.inv _ hmem).form
          simp only at hyv
          obtain ⟨g7, o7, cap7, hq7, -, hc7⟩ := (show SlAt wr (.slice ha p.sh.length hc) p.sh.length (p.sh.flatMap encXS) by rw [← HHV.out]; exact HQ.out.hv.below HBX.out).at encXS_len (by decide) hz
          cases hq7
          have e1 : wr.cell? ⟨g7, o7 + j * 3 + 1, none⟩ = some (.slice ya z.l.length yc) := by rw [← hyv]; exact hc7 1 _ rfl
          have HTEN := Lib.hid (show Calls Tryz.prog 18 #[.slice ya z.l.length yc] wr (LgPost (FewTs z.l) wr) by rw [← hyv]; exact tenants35_any z.v z.l wr HDR.out HFX.out.1 HFX.out.2)
          have hjl2 : (j : Int) < (p.sh.length : Int) := by omega
          clear hz hmem hyv hc7
          go_wp2_with fail
          refine HTEN.out.mono ?_
          rintro e w6 ⟨r6, rfl, hr6, hb6⟩
          have HB6 := Lib.hid hb6
          have HR6 := Lib.hid hr6
          clear hb6 hr6
          rcases r6 with _ | _
          · have HZF := Lib.hid (HR6.out rfl)
            go_wp2_with fail
            go_roundg (p.sh.length - (j + 1))
            case rel =>
              refine ⟨j + 1, rfl, by go_num, by omega, fun t u ht hu => ?_, HBJ.out.trans (HB6.out.mono HBJ.out.size)⟩
              rcases Nat.lt_or_ge t j with h | h
              · exact HOK2.out t u h hu
              · obtain rfl : t = j := by omega
                obtain rfl := Option.some.inj (HZ.out.symm.trans hu)
                exact HZF.out
            case measure => have := HG2.out; omega
          · go_wp2_with fail
            go_ret
            exact lg_true (HBX.out.trans (HB6.out.mono HBX.out.size))
        · have HPK := Lib.hid (show SmallP p from ⟨HQS.out.1, HQS.out.2, fun z hz => by
            obtain ⟨t, ht⟩ := List.getElem?_of_mem hz
            exact HOK2.out t z (by have := (List.getElem?_eq_some_iff.1 ht).1; omega) ht⟩)
          go_wp2_with fail
          go_roundg (s.pools.length - (k + 1))
          case rel =>
            refine ⟨k + 1, rfl, by go_num, by omega, fun t u ht hu => ?_, HB.out.trans (HBJ.out.mono HB.out.size)⟩
            rcases Nat.lt_or_ge t k with h | h
            · exact HOK.out t u h hu
            · obtain rfl : t = k := by omega
              obtain rfl := Option.some.inj (HPX.out.symm.trans hu)
              exact HPK.out
          case measure => have := HG.out; omega
    · have HP := Lib.hid (show ∀ p ∈ s.pools, SmallP p from fun p hp => by
        obtain ⟨t, ht⟩ := List.getElem?_of_mem hp
        exact HOK.out t p (by have := (List.getElem?_eq_some_iff.1 ht).1; omega) ht)
      obtain ⟨w2, rfl⟩ : ∃ w2 : World, w2 = wr := ⟨_, rfl⟩
      clear HOK
      have x2 := fr_cell_of_heap HXR.out HK.out.2.2.1
      go_wp2_with fail
      go_loopg [5] s.wks.length (fun g i wr => ∃ k : Nat, g = s.wks.length - k ∧ i = .int .i64 k ∧ k ≤ s.wks.length ∧ Below w2.heap.size w2 wr)
      case atStart => exact ⟨0, rfl, rfl, Nat.zero_le _, Below.refl _ _⟩
      case round =>
        obtain ⟨m, hg, rfl, hm, hb⟩ := hrel
        have HG2 := Lib.hid hg
        have HB2 := Lib.hid hb
        have HBX := Lib.hid (HBW.out.trans (hb.mono HBW.out.size))
        have hx2 : wr.heap[w.heap.size]? = some (.cells C 35 (0, 0)) := (hb.block _ (fp_lt_of_heap HXR.out)).trans HXR.out
        have HX2 := Lib.hid hx2
        have x2 := fr_cell_of_heap hx2 HK.out.2.2.1
        clear hg hb hx2
        by_cases hml : m < s.wks.length
        · obtain ⟨x, hx⟩ : ∃ x, s.wks[m]? = some x := ⟨_, List.getElem?_eq_getElem hml⟩
          obtain ⟨g, off, cap', hv, -, hcc⟩ := (show SlAt wr (.slice a2 s.wks.length c2) s.wks.length (s.wks.flatMap encWk) by rw [← HV2.out]; exact H.out.wks.below HBX.out).at encWk_len (by decide) hx
          cases hv
          have d3 : wr.cell? ⟨g, off + m * 7 + 3, none⟩ = some (.string x.name) := hcc 3 _ rfl
          have d4 : wr.cell? ⟨g, off + m * 7 + 4, none⟩ = some (.string x.plat) := hcc 4 _ rfl
          have hml2 : (m : Int) < (s.wks.length : Int) := by omega
          clear hx hcc
          by_cases hq : 500 < wrap64 ((x.name.size : Int) + x.plat.size)
          · go_upto_region 14 with fail
            go_region
            all_goals
              go_wp2_with fail
              go_ret
              exact lg_true HBX.out.drew
          · go_upto_region 14 with fail
            go_region
            all_goals
              go_wp2_with fail
              go_roundg (s.wks.length - (m + 1))
              case rel => exact ⟨m + 1, rfl, by go_num, by omega, HB2.out.drew⟩
              case measure => have := HG2.out; omega
        · have x3 := fr_cell_of_heap HX2.out HK.out.2.2.2.1
          obtain ⟨w3, rfl⟩ : ∃ w3 : World, w3 = wr := ⟨_, rfl⟩
          go_wp2_with fail
          go_loopg [6] s.invs.length (fun g i wr => ∃ k : Nat, g = s.invs.length - k ∧ i = .int .i64 k ∧ k ≤ s.invs.length ∧ wr = w3)
          case atStart => exact ⟨0, rfl, rfl, Nat.zero_le _, rfl⟩
          case round =>
            obtain ⟨n, hg, rfl, hn, rfl⟩ := hrel
            have HG3 := Lib.hid hg
            clear hg
            by_cases hnl : n < s.invs.length
            · obtain ⟨x, hx⟩ : ∃ x, s.invs[n]? = some x := ⟨_, List.getElem?_eq_getElem hnl⟩
              obtain ⟨g, off, cap', hv, -, hcc⟩ := (show SlAt wr (.slice a3 s.invs.length c3) s.invs.length (s.invs.flatMap encIv) by rw [← HV3.out]; exact H.out.invs.below HBX.out).at encIv_len (by decide) hx
              cases hv
              have d3 : wr.cell? ⟨g, off + n * 5 + 2, none⟩ = some (.string x.name) := hcc 2 _ rfl
              have hnl2 : (n : Int) < (s.invs.length : Int) := by omega
              clear hx hcc
              by_cases hq : 300 < (x.name.size : Int)
              · go_wp2_with fail
                go_ret
                exact lg_true HBX.out
              · go_wp2_with fail
                go_roundg (s.invs.length - (n + 1))
                case rel => exact ⟨n + 1, rfl, by go_num, by omega, rfl⟩
                case measure => have := HG3.out; omega
            · have hOL := ops35_any V.live s.live wr (H.out.live.below HBX.out) HF.out.live
              have hOE : ∀ w', Below wr.heap.size wr w' → Calls Tryz.prog 19 #[V.ended] w' (LgPost (s.ended.length ≤ 40) w') := fun w' hb => ops35_any V.ended s.ended w' ((H.out.ended.below HBX.out).below hb) HF.out.ended
              rw [HV0.out] at hOL
              rw [HV1.out] at hOE
              have HOL := Lib.hid hOL
              have HOE := Lib.hid hOE
              have x0 := fr_cell_of_heap HX2.out HK.out.1
              clear hOL hOE
              go_wp2_with fail
              refine HOL.out.mono ?_
              rintro e w6 ⟨r6, rfl, hr6, hb6⟩
              have HB6 := Lib.hid hb6
              have HR6 := Lib.hid hr6
              have HX6 := Lib.hid ((hb6.block _ (fp_lt_of_heap HX2.out)).trans HX2.out)
              clear hb6 hr6 x0
              rcases r6 with _ | _
              · have x1 := fr_cell_of_heap HX6.out HK.out.2.1
                go_wp2_with fail
                refine (HOE.out w6 HB6.out).mono ?_
                rintro e w7 ⟨r7, rfl, hr7, hb7⟩
                have HB7 := Lib.hid (HBX.out.trans ((HB6.out.trans (hb7.mono HB6.out.size)).mono HBX.out.size))
                have HR7 := Lib.hid hr7
                have hx7 := (hb7.block _ (fp_lt_of_heap HX6.out)).trans HX6.out
                have y2 := fr_cell_of_heap hx7 HK.out.2.2.1
                have y3 := fr_cell_of_heap hx7 HK.out.2.2.2.1
                have y4 := fr_cell_of_heap hx7 HK.out.2.2.2.2.1
                have y5 := fr_cell_of_heap hx7 HK.out.2.2.2.2.2.1
                have y6 := fr_cell_of_heap hx7 HK.out.2.2.2.2.2.2.1
                have y7 := fr_cell_of_heap hx7 HK.out.2.2.2.2.2.2.2
                clear hb7 hr7 hx7 x1
                rcases r7 with _ | _
                · by_cases z0 : 40 < (s.wks.length : Int)
                  · go_wp2_with fail
                    go_ret
                    exact lg_true HB7.out
                  by_cases z1 : 60 < (s.invs.length : Int)
                  · go_wp2_with fail
                    go_ret
                    exact lg_true HB7.out
                  by_cases z2 : 10 < (s.pools.length : Int)
                  · go_wp2_with fail
                    go_ret
                    exact lg_true HB7.out
                  by_cases z3 : 40 < (s.hist.length : Int)
                  · go_wp2_with fail
                    go_ret
                    exact lg_true HB7.out
                  by_cases z4 : 60 < (s.lets.length : Int)
                  · go_wp2_with fail
                    go_ret
                    exact lg_true HB7.out
                  by_cases z5 : 40 < (s.wts.length : Int)
                  · go_wp2_with fail
                    go_ret
                    exact lg_true HB7.out
                  have HS := Lib.hid (show Small s from ⟨(by simpa using HR6.out), (by simpa using HR7.out), by omega, by omega, by omega, by omega, by omega, by omega, HP.out⟩)
                  go_wp2_with fail
                  go_ret
                  exact lg_of (fun _ => HS.out) HB7.out
                · go_wp2_with fail
                  go_ret
                  exact lg_true HB7.out
              · go_wp2_with fail
                go_ret
                exact lg_true (HBX.out.trans (HB6.out.mono HBX.out.size))
end Go.Proofs.YtjmlimogmmikoaaGreatDoor
namespace Go.Proofs.YtjmlimogmmikoaaGreatDoor
open Go.RowKit
theorem cell_setRow_not {w : World} {g b i : Nat} {ds : Array Value} (h : b ≠ g) : (w.setRow g ds).cell? ⟨b, i, none⟩ = w.cell? ⟨b, i, none⟩ := by simp only [World.cell?, setRow_not h]
end Go.Proofs.YtjmlimogmmikoaaGreatDoor
namespace Go.Proofs.YtjmlimogmmikoaaGreatDoor
open Go.RowKit Go.Sort
def eqSD (s t : Int × QS) : Bool := (s.2.gv == t.2.gv) && eqL eqDV s.2.l t.2.l
def eqN (p q : QX) : Bool := (p.name.toList == q.name.toList) && (p.uses == q.uses) && eqL eqZ p.served q.served && eqL eqSD p.sh q.sh
set_option maxRecDepth 100000 in
set_option maxHeartbeats 16000000 in
theorem needs35_any (u v : Value) (l m : List QX) (w : World) (h : SlAt w u l.length (l.flatMap encQX)) (h' : SlAt w v m.length (m.flatMap encQX)) (hi : ∀ p ∈ l, QXAt w p) (hj : ∀ p ∈ m, QXAt w p) (hf : l.length ≤ 1000000) (hs : ∀ p ∈ l, SmallP p) : Calls Tryz.prog 60 #[u, v] w (BoolPost (eqL eqN l m) w) := by
  obtain ⟨a, cap, rfl, -⟩ := h.form
  obtain ⟨b, cap2, rfl, -⟩ := h'.form
  have HI := Lib.hid h
  have HJ := Lib.hid h'
  have HPI := Lib.hid hi
  have HPJ := Lib.hid hj
  have HF := Lib.hid hf
  have HFS := Lib.hid hs
  clear h h' hi hj hf hs
  by_cases hl : m.length = l.length
  · rw [hl] at HJ ⊢
    have HL := Lib.hid hl
    clear hl
    have hle : ((l.length : Int) != (l.length : Int)) = false := by simp
    go_enter Tryz.func60, Tryz.ntmps60
    go_wp2_with fail
    go_loopg [5] l.length (fun g i wr => ∃ k : Nat, g = l.length - k ∧ i = .int .i64 k ∧ k ≤ l.length ∧ (∀ (j : Nat) x y, j < k → l[j]? = some x → m[j]? = some y → eqN x y = true) ∧ Below w.heap.size w wr)
    case atStart => exact ⟨0, rfl, rfl, Nat.zero_le _, (fun j x y hj => by omega), Below.refl _ _⟩
    case round =>
      obtain ⟨k, hg, rfl, hk, hall, hb⟩ := hrel
      have HG := Lib.hid hg
      have HB := Lib.hid hb
      have HA := Lib.hid hall
      clear hg hb hall
      by_cases hlt : k < l.length
      · obtain ⟨p, hx⟩ : ∃ p, l[k]? = some p := ⟨_, List.getElem?_eq_getElem hlt⟩
        obtain ⟨q, hy⟩ : ∃ p, m[k]? = some p := ⟨_, List.getElem?_eq_getElem (by have := HL.out; omega)⟩
        have HX := Lib.hid hx
        have HY := Lib.hid hy
        have HPX := Lib.hid (HPI.out p (List.mem_of_getElem? hx))
        have HPY := Lib.hid (HPJ.out q (List.mem_of_getElem? hy))
        have HSM := Lib.hid (HFS.out p (List.mem_of_getElem? hx))
        obtain ⟨sa, sc, hsv, -⟩ := HPX.out.sv.form
        obtain ⟨ha, hc, hhv, -⟩ := HPX.out.hv.form
        obtain ⟨ta, tc, htv, -⟩ := HPY.out.sv.form
        obtain ⟨ka, kc, hkv, -⟩ := HPY.out.hv.form
        have HSV := Lib.hid hsv
        have HHV := Lib.hid hhv
        have HTV := Lib.hid htv
        have HKV := Lib.hid hkv
        obtain ⟨g, off, cap', hv, -, c⟩ := (HI.out.below HB.out).at encQX_len (by decide) hx
        cases hv
        obtain ⟨g', off', cap', hv, -, d⟩ := (show SlAt wr (.slice b m.length cap2) m.length (m.flatMap encQX) by have h := HJ.out.below HB.out; rw [HL.out]; exact h).at encQX_len (by decide) hy
        cases hv
        have HR1 := Lib.hid (show wr.drew.rangeAt g (off + k * 4) [.string p.name, .int .i64 p.uses, .slice sa p.served.length sc, .slice ha p.sh.length hc] from fun j u hj => c j u (by unfold encQX; rw [hsv, hhv]; exact hj))
        have HR2 := Lib.hid (show wr.drew.rangeAt g' (off' + k * 4) [.string q.name, .int .i64 q.uses, .slice ta q.served.length tc, .slice ka q.sh.length kc] from fun j u hj => d j u (by unfold encQX; rw [htv, hkv]; exact hj))
        have hkl : (k : Int) < (l.length : Int) := by omega
        have gw : g < wr.heap.size := World.block_lt_of_cell? wr _ (c 0 _ rfl)
        have gw' : g' < wr.heap.size := World.block_lt_of_cell? wr _ (d 0 _ rfl)
        clear hx hy c d hsv hhv htv hkv
        go_upto_region 6 with fail
        go_cut [6, 7] (fun xv yv wx => ∃ xb yb : Nat, xv = .pointer (some ⟨xb, 0, none⟩) ∧ yv = .pointer (some ⟨yb, 0, none⟩) ∧ wx.heap[xb]? = some (.cells #[.string p.name, .int .i64 p.uses, .slice sa p.served.length sc, .slice ha p.sh.length hc] 61 (0, 0)) ∧ wx.heap[yb]? = some (.cells #[.string q.name, .int .i64 q.uses, .slice ta q.served.length tc, .slice ka q.sh.length kc] 61 (0, 0)) ∧ Below wr.heap.size wr wx)
        case first =>
          refine wp_region_noPanic ?_
          refine wp_region_any (by kernel_rfl) ?_
          change wpAny _ _ _ _ _ _ _ (World.drew _)
          refine wpAny_of_held (S := (fun w2 => w2.rangeAt g (off + k * 4) [.string p.name, .int .i64 p.uses, .slice sa p.served.length sc, .slice ha p.sh.length hc] ∧ w2.rangeAt g' (off' + k * 4) [.string q.name, .int .i64 q.uses, .slice ta q.served.length tc, .slice ka q.sh.length kc])) _ _ _ _ ?_
          have hHeld : (fun w2 => w2.rangeAt g (off + k * 4) [.string p.name, .int .i64 p.uses, .slice sa p.served.length sc, .slice ha p.sh.length hc] ∧ w2.rangeAt g' (off' + k * 4) [.string q.name, .int .i64 q.uses, .slice ta q.served.length tc, .slice ka q.sh.length kc]) wr.drew := ⟨HR1.out, HR2.out⟩
          refine wpAnyH_take (i := 0) (oi := ⟨some 21, _, _, _, _, _⟩) (v := ?_) rfl (by kernel_rfl) (by kernel_rfl) (by kernel_rfl) (fun _ _ _ h => h) (Or.inl ⟨by rfl, ?_⟩) (by assumption) ?_
          rotate_left 1
          · intro w hSw
            try dsimp only at hSw
            go_simp
            try with_reducible rfl
          try simp only [Act.put, List.setIfInBounds_toArray, List.set_cons_zero, List.set_cons_succ]
          refine wpAnyH_take (i := 1) (oi := ⟨some 22, _, _, _, _, _⟩) (v := ?_) rfl (by kernel_rfl) (by kernel_rfl) (by kernel_rfl) (fun _ _ _ h => h) (Or.inl ⟨by rfl, ?_⟩) (by assumption) ?_
          rotate_left 1
          · intro w hSw
            try dsimp only at hSw
            go_simp
            try with_reducible rfl
          try simp only [Act.put, List.setIfInBounds_toArray, List.set_cons_zero, List.set_cons_succ]
          refine wpAnyH_take (i := 2) (oi := ⟨some 23, _, _, _, _, _⟩) (v := ?_) rfl (by kernel_rfl) (by kernel_rfl) (by kernel_rfl) (fun _ _ _ h => h) (Or.inl ⟨by rfl, ?_⟩) (by assumption) ?_
          rotate_left 1
          · intro w hSw
            try dsimp only at hSw
            go_simp
            try with_reducible rfl
          try simp only [Act.put, List.setIfInBounds_toArray, List.set_cons_zero, List.set_cons_succ]
          refine wpAnyH_take (i := 3) (oi := ⟨some 24, _, _, _, _, _⟩) (v := .agg #[.string p.name, .int .i64 p.uses, .slice sa p.served.length sc, .slice ha p.sh.length hc]) rfl (by kernel_rfl) (by kernel_rfl) (by kernel_rfl) (fun _ _ _ h => h) (yieldsIf_load_mid (by rfl) 61 _ rfl g (off + k * 4) rfl [.string p.name, .int .i64 p.uses, .slice sa p.served.length sc, .slice ha p.sh.length hc] _ (fun w2 hw => hw.1) Tryz.underlying61 rfl (by kernel_rfl)) (by assumption) ?_
          try simp only [Act.put, List.setIfInBounds_toArray, List.set_cons_zero, List.set_cons_succ]
          refine wpAnyH_take (i := 4) (oi := ⟨some 25, _, _, _, _, _⟩) (v := ?_) rfl (by kernel_rfl) (by kernel_rfl) (by kernel_rfl) (fun _ _ _ h => h) (Or.inl ⟨by rfl, ?_⟩) (by assumption) ?_
          rotate_left 1
          · intro w hSw
            try dsimp only at hSw
            go_simp
            try with_reducible rfl
          try simp only [Act.put, List.setIfInBounds_toArray, List.set_cons_zero, List.set_cons_succ]
          refine wpAnyH_take (i := 5) (oi := ⟨some 26, _, _, _, _, _⟩) (v := ?_) rfl (by kernel_rfl) (by kernel_rfl) (by kernel_rfl) (fun _ _ _ h => h) (Or.inl ⟨by rfl, ?_⟩) (by assumption) ?_
          rotate_left 1
          · intro w hSw
            try dsimp only at hSw
            go_simp
            try with_reducible rfl
          try simp only [Act.put, List.setIfInBounds_toArray, List.set_cons_zero, List.set_cons_succ]
          refine wpAnyH_take (i := 6) (oi := ⟨some 27, _, _, _, _, _⟩) (v := ?_) rfl (by kernel_rfl) (by kernel_rfl) (by kernel_rfl) (fun _ _ _ h => h) (Or.inl ⟨by rfl, ?_⟩) (by assumption) ?_
          rotate_left 1
          · intro w hSw
            try dsimp only at hSw
            go_simp
            try with_reducible rfl
          try simp only [Act.put, List.setIfInBounds_toArray, List.set_cons_zero, List.set_cons_succ]
          refine wpAnyH_take (i := 7) (oi := ⟨some 28, _, _, _, _, _⟩) (v := .agg #[.string q.name, .int .i64 q.uses, .slice ta q.served.length tc, .slice ka q.sh.length kc]) rfl (by kernel_rfl) (by kernel_rfl) (by kernel_rfl) (fun _ _ _ h => h) (yieldsIf_load_mid (by rfl) 61 _ rfl g' (off' + k * 4) rfl [.string q.name, .int .i64 q.uses, .slice ta q.served.length tc, .slice ka q.sh.length kc] _ (fun w2 hw => hw.2) Tryz.underlying61 rfl (by kernel_rfl)) (by assumption) ?_
          try simp only [Act.put, List.setIfInBounds_toArray, List.set_cons_zero, List.set_cons_succ]
          refine wpAnyH_ready (rs := [8, 9]) (by kernel_rfl) (by simp) ?_
          refine AllReadyH.cons (o := ⟨some 6, _, _, _, _, _⟩) rfl (fun K hK => ?_) (AllReadyH.cons (o := ⟨some 7, _, _, _, _, _⟩) rfl (fun K hK => ?_) AllReadyH.nil)
          · go_simp
            refine hK.out _ _ ⟨fun j u hj => cell_below box_below (hHeld.1 j u hj), fun j u hj => cell_below box_below (hHeld.2 j u hj)⟩ (fun hHeld => ?_)
            clear hK K
            try simp only [Act.put, List.setIfInBounds_toArray, List.set_cons_zero, List.set_cons_succ]
            refine wpAnyH_ready (rs := [9]) (by kernel_rfl) (by simp) ?_
            refine AllReadyH.cons (o := ⟨some 7, _, _, _, _, _⟩) rfl (fun K hK => ?_) AllReadyH.nil
            go_simp
            refine hK.out _ _ ⟨fun j u hj => cell_below box_below (hHeld.1 j u hj), fun j u hj => cell_below box_below (hHeld.2 j u hj)⟩ (fun hHeld => ?_)
            clear hK K
            try simp only [Act.put, List.setIfInBounds_toArray, List.set_cons_zero, List.set_cons_succ]
            have HW1 := Lib.hid (show ((wr.alloc (.cells #[.string ⟨#[]⟩, .int .i64 0, .slice none 0 0, .slice none 0 0] 61)).alloc (.cells #[.string ⟨#[]⟩, .int .i64 0, .slice none 0 0, .slice none 0 0] 61)).drew.heap[wr.heap.size]? = some (.cells #[.string ⟨#[]⟩, .int .i64 0, .slice none 0 0, .slice none 0 0] 61 (0, 0)) from fr_alloc_old (heap_alloc_new wr _))
            have HW2 := Lib.hid (show ((wr.alloc (.cells #[.string ⟨#[]⟩, .int .i64 0, .slice none 0 0, .slice none 0 0] 61)).alloc (.cells #[.string ⟨#[]⟩, .int .i64 0, .slice none 0 0, .slice none 0 0] 61)).drew.heap[wr.heap.size + 1]? = some (.cells #[.string ⟨#[]⟩, .int .i64 0, .slice none 0 0, .slice none 0 0] 61 (0, 0)) from heap_alloc_two wr _ _)
            have HWB := Lib.hid (show Below wr.heap.size wr ((wr.alloc (.cells #[.string ⟨#[]⟩, .int .i64 0, .slice none 0 0, .slice none 0 0] 61)).alloc (.cells #[.string ⟨#[]⟩, .int .i64 0, .slice none 0 0, .slice none 0 0] 61)).drew from (box_below.alloc (by simp) _).drew)
            generalize ((wr.alloc (.cells #[.string ⟨#[]⟩, .int .i64 0, .slice none 0 0, .slice none 0 0] 61)).alloc (.cells #[.string ⟨#[]⟩, .int .i64 0, .slice none 0 0, .slice none 0 0] 61)).drew = W2 at HW1 HW2 HWB hHeld ⊢
            refine wpAnyH_ready (rs := [10]) (by kernel_rfl) (by simp) ?_
            refine AllReadyH.cons (o := ⟨none, _, _, _, _, _⟩) rfl (fun K hK => ?_) AllReadyH.nil
            refine wp_store_row 61 _ _ rfl (wr.heap.size) #[.string p.name, .int .i64 p.uses, .slice sa p.served.length sc, .slice ha p.sh.length hc] rfl rfl 61 _ HW1.out (by kernel_rfl) rfl (by simp [Value.oneCell']) ?_
            refine hK.out _ _ ⟨fun j u hj => (cell_setRow_not (by omega)).trans (hHeld.1 j u hj), fun j u hj => (cell_setRow_not (by omega)).trans (hHeld.2 j u hj)⟩ (fun hHeld => ?_)
            clear hK K
            try simp only [Act.put]
            refine wpAnyH_ready (rs := [11]) (by kernel_rfl) (by simp) ?_
            refine AllReadyH.cons (o := ⟨none, _, _, _, _, _⟩) rfl (fun K hK => ?_) AllReadyH.nil
            refine wp_store_row 61 _ _ rfl (wr.heap.size + 1) #[.string q.name, .int .i64 q.uses, .slice ta q.served.length tc, .slice ka q.sh.length kc] rfl rfl 61 _ ((setRow_not (by omega)).trans HW2.out) (by kernel_rfl) rfl (by simp [Value.oneCell']) ?_
            refine hK.out _ _ ⟨fun j u hj => (cell_setRow_not (by omega)).trans (hHeld.1 j u hj), fun j u hj => (cell_setRow_not (by omega)).trans (hHeld.2 j u hj)⟩ (fun hHeld => ?_)
            clear hK K
            try simp only [Act.put]
            refine wpAnyH_done (by kernel_rfl) ?_ _
            refine NoPanic.normal ?_
            clear hHeld
            go_wp2_with fail
            go_meet
            exact ⟨wr.heap.size, wr.heap.size + 1, rfl, rfl, (setRow_not (by omega)).trans (setRow_at HW1.out), setRow_at ((setRow_not (by omega)).trans HW2.out), below_setRow (below_setRow HWB.out (by omega) _) (by omega) _⟩
          · go_simp
            refine hK.out _ _ ⟨fun j u hj => cell_below box_below (hHeld.1 j u hj), fun j u hj => cell_below box_below (hHeld.2 j u hj)⟩ (fun hHeld => ?_)
            clear hK K
            try simp only [Act.put, List.setIfInBounds_toArray, List.set_cons_zero, List.set_cons_succ]
            refine wpAnyH_ready (rs := [8]) (by kernel_rfl) (by simp) ?_
            refine AllReadyH.cons (o := ⟨some 6, _, _, _, _, _⟩) rfl (fun K hK => ?_) AllReadyH.nil
            go_simp
            refine hK.out _ _ ⟨fun j u hj => cell_below box_below (hHeld.1 j u hj), fun j u hj => cell_below box_below (hHeld.2 j u hj)⟩ (fun hHeld => ?_)
            clear hK K
            try simp only [Act.put, List.setIfInBounds_toArray, List.set_cons_zero, List.set_cons_succ]
            have HW1 := Lib.hid (show ((wr.alloc (.cells #[.string ⟨#[]⟩, .int .i64 0, .slice none 0 0, .slice none 0 0] 61)).alloc (.cells #[.string ⟨#[]⟩, .int .i64 0, .slice none 0 0, .slice none 0 0] 61)).drew.heap[wr.heap.size]? = some (.cells #[.string ⟨#[]⟩, .int .i64 0, .slice none 0 0, .slice none 0 0] 61 (0, 0)) from fr_alloc_old (heap_alloc_new wr _))
            have HW2 := Lib.hid (show ((wr.alloc (.cells #[.string ⟨#[]⟩, .int .i64 0, .slice none 0 0, .slice none 0 0] 61)).alloc (.cells #[.string ⟨#[]⟩, .int .i64 0, .slice none 0 0, .slice none 0 0] 61)).drew.heap[wr.heap.size + 1]? = some (.cells #[.string ⟨#[]⟩, .int .i64 0, .slice none 0 0, .slice none 0 0] 61 (0, 0)) from heap_alloc_two wr _ _)
            have HWB := Lib.hid (show Below wr.heap.size wr ((wr.alloc (.cells #[.string ⟨#[]⟩, .int .i64 0, .slice none 0 0, .slice none 0 0] 61)).alloc (.cells #[.string ⟨#[]⟩, .int .i64 0, .slice none 0 0, .slice none 0 0] 61)).drew from (box_below.alloc (by simp) _).drew)
            generalize ((wr.alloc (.cells #[.string ⟨#[]⟩, .int .i64 0, .slice none 0 0, .slice none 0 0] 61)).alloc (.cells #[.string ⟨#[]⟩, .int .i64 0, .slice none 0 0, .slice none 0 0] 61)).drew = W2 at HW1 HW2 HWB hHeld ⊢
            refine wpAnyH_ready (rs := [10]) (by kernel_rfl) (by simp) ?_
            refine AllReadyH.cons (o := ⟨none, _, _, _, _, _⟩) rfl (fun K hK => ?_) AllReadyH.nil
            refine wp_store_row 61 _ _ rfl (wr.heap.size + 1) #[.string p.name, .int .i64 p.uses, .slice sa p.served.length sc, .slice ha p.sh.length hc] rfl rfl 61 _ HW2.out (by kernel_rfl) rfl (by simp [Value.oneCell']) ?_
            refine hK.out _ _ ⟨fun j u hj => (cell_setRow_not (by omega)).trans (hHeld.1 j u hj), fun j u hj => (cell_setRow_not (by omega)).trans (hHeld.2 j u hj)⟩ (fun hHeld => ?_)
            clear hK K
            try simp only [Act.put]
            refine wpAnyH_ready (rs := [11]) (by kernel_rfl) (by simp) ?_
            refine AllReadyH.cons (o := ⟨none, _, _, _, _, _⟩) rfl (fun K hK => ?_) AllReadyH.nil
            refine wp_store_row 61 _ _ rfl (wr.heap.size) #[.string q.name, .int .i64 q.uses, .slice ta q.served.length tc, .slice ka q.sh.length kc] rfl rfl 61 _ ((setRow_not (by omega)).trans HW1.out) (by kernel_rfl) rfl (by simp [Value.oneCell']) ?_
            refine hK.out _ _ ⟨fun j u hj => (cell_setRow_not (by omega)).trans (hHeld.1 j u hj), fun j u hj => (cell_setRow_not (by omega)).trans (hHeld.2 j u hj)⟩ (fun hHeld => ?_)
            clear hK K
            try simp only [Act.put]
            refine wpAnyH_done (by kernel_rfl) ?_ _
            refine NoPanic.normal ?_
            clear hHeld
            go_wp2_with fail
            go_meet
            exact ⟨wr.heap.size + 1, wr.heap.size, rfl, rfl, (setRow_not (by omega)).trans (setRow_at HW2.out), setRow_at ((setRow_not (by omega)).trans HW1.out), below_setRow (below_setRow HWB.out (by omega) _) (by omega) _⟩
        case rest =>
          obtain ⟨xb, yb, rfl, rfl, hx5, hy5, hb5⟩ := hcut
          obtain ⟨w5, hw5⟩ : ∃ w5 : World, w5 = wc := ⟨_, rfl⟩
          subst hw5
          have HX5 := Lib.hid hx5
          have HY5 := Lib.hid hy5
          have HB5 := Lib.hid (HB.out.trans (hb5.mono HB.out.size))
          have x0 := fr_cell_of_heap (i := 0) hx5 rfl
          have x1 := fr_cell_of_heap (i := 1) hx5 rfl
          have x2 := fr_cell_of_heap (i := 2) hx5 rfl
          have x3 := fr_cell_of_heap (i := 3) hx5 rfl
          have y0 := fr_cell_of_heap (i := 0) hy5 rfl
          have y1 := fr_cell_of_heap (i := 1) hy5 rfl
          have y2 := fr_cell_of_heap (i := 2) hy5 rfl
          have y3 := fr_cell_of_heap (i := 3) hy5 rfl
          clear hx5 hy5 hb5 HR1 HR2
          rcases z0 : (p.name.toList == q.name.toList) with _ | _
          · have zn : (p.name.toList != q.name.toList) = true := by simp only [bne, z0]; rfl
            have HN := Lib.hid (eqL_at (e := eqN) HX.out HY.out (by unfold eqN; simp [z0]))
            go_wp2_with fail
            go_ret
            exact ⟨ret_bool HN.out.symm, HB5.out⟩
          have zn : (p.name.toList != q.name.toList) = false := by simp only [bne, z0]; rfl
          rcases z1 : (p.uses != q.uses) with _ | _
          rotate_left 1
          · have HN := Lib.hid (eqL_at (e := eqN) HX.out HY.out (by unfold eqN; simp [show (p.uses == q.uses) = false by simpa using z1]))
            go_wp2_with fail
            go_ret
            exact ⟨ret_bool HN.out.symm, HB5.out⟩
          by_cases z2 : p.served.length = q.served.length
          rotate_left 1
          · have z2 : ((p.served.length : Int) != (q.served.length : Int)) = true := by simp; omega
            have HN := Lib.hid (eqL_at (e := eqN) HX.out HY.out (by unfold eqN; simp [eqL_len (e := eqZ) (l := p.served) (m := q.served) (by have := z2; simp at this; omega)]))
            go_wp2_with fail
            go_ret
            exact ⟨ret_bool HN.out.symm, HB5.out⟩
          have z2n : ((p.served.length : Int) != (q.served.length : Int)) = false := by simp; omega
          by_cases z3 : p.sh.length = q.sh.length
          rotate_left 1
          · have z3 : ((p.sh.length : Int) != (q.sh.length : Int)) = true := by simp; omega
            have HN := Lib.hid (eqL_at (e := eqN) HX.out HY.out (by unfold eqN; simp [eqL_len (e := eqSD) (l := p.sh) (m := q.sh) (by have := z3; simp at this; omega)]))
            go_wp2_with fail
            go_ret
            exact ⟨ret_bool HN.out.symm, HB5.out⟩
          have z3n : ((p.sh.length : Int) != (q.sh.length : Int)) = false := by simp; omega
          have Z := Lib.hid (show (p.name.toList == q.name.toList) = true ∧ p.uses = q.uses ∧ p.served.length = q.served.length ∧ p.sh.length = q.sh.length from ⟨z0, by simpa using z1, z2, z3⟩)
          have hs8 := HSM.out.1
          have hh8 := HSM.out.2.1
          go_upto_region 9 with fail
          clear z0 zn z1 z2 z2n z3 z3n x0 x1 x2 x3 y0 y1 y2 y3
          go_wp2_with fail
          go_loopg [8] p.served.length (fun g i wr => ∃ j : Nat, g = p.served.length - j ∧ i = .int .i64 j ∧ j ≤ p.served.length ∧ (∀ (t : Nat) x y, t < j → p.served[t]? = some x → q.served[t]? = some y → eqZ x y = true) ∧ Below w5.heap.size w5 wr)
          case atStart => exact ⟨0, rfl, rfl, Nat.zero_le _, (fun j x y hj => by omega), Below.refl _ _⟩
          case round =>
            obtain ⟨j, hg, rfl, hj, hall, hb⟩ := hrel
            have HG2 := Lib.hid hg
            have HB2 := Lib.hid hb
            have HA2 := Lib.hid hall
            have HBX := Lib.hid (HB5.out.trans (hb.mono HB5.out.size))
            have x2 : wr.cell? ⟨xb, 2, none⟩ = some (.slice sa p.served.length sc) := cell_below hb (fr_cell_of_heap HX5.out rfl)
            have y2 : wr.cell? ⟨yb, 2, none⟩ = some (.slice ta q.served.length tc) := cell_below hb (fr_cell_of_heap HY5.out rfl)
            have hlq := Z.out.2.2.1
            clear hg hb hall
            by_cases hjl : j < p.served.length
            · obtain ⟨x, hx⟩ : ∃ x, p.served[j]? = some x := ⟨_, List.getElem?_eq_getElem hjl⟩
              obtain ⟨y, hy⟩ : ∃ y, q.served[j]? = some y := ⟨_, List.getElem?_eq_getElem (by omega)⟩
              have HX2 := Lib.hid hx
              have HY2 := Lib.hid hy
              obtain ⟨gs, os, cs, hv, -, e⟩ := (show SlAt wr (.slice sa p.served.length sc) p.served.length (p.served.flatMap encZ) by rw [← HSV.out]; exact HPX.out.sv.below HBX.out).at encZ_len (by decide) hx
              cases hv
              obtain ⟨gt, ot, ct, hv, -, e'⟩ := (show SlAt wr (.slice ta q.served.length tc) q.served.length (q.served.flatMap encZ) by rw [← HTV.out]; exact HPY.out.sv.below HBX.out).at encZ_len (by decide) hy
              cases hv
              have e0 : wr.cell? ⟨gs, os + j, none⟩ = some (.int .i64 x) := by have := e 0 _ rfl; simpa using this
              have e1 : wr.cell? ⟨gt, ot + j, none⟩ = some (.int .i64 y) := by have := e' 0 _ rfl; simpa using this
              have hjl2 : (j : Int) < (p.served.length : Int) := by omega
              have hjl3 : (j : Int) < (q.served.length : Int) := by omega
              clear hx hy e e' hlq
              rcases z : (x != y) with _ | _
              · have HS := Lib.hid (eqRel_snoc (e := eqZ) HA2.out HX2.out HY2.out (by unfold eqZ; simpa using z))
                go_upto_region 12 with fail
                go_region
                all_goals
                  go_wp2_with fail
                  go_roundg (p.served.length - (j + 1))
                  case rel => exact ⟨j + 1, rfl, by go_num, by omega, HS.out, HB2.out.drew⟩
                  case measure => have := HG2.out; omega
              · have HN := Lib.hid (eqL_at (e := eqN) HX.out HY.out (by unfold eqN; simp [eqL_at (e := eqZ) HX2.out HY2.out (by unfold eqZ; simpa using z)]))
                go_upto_region 12 with fail
                go_region
                all_goals
                  go_wp2_with fail
                  go_ret
                  exact ⟨ret_bool HN.out.symm, HBX.out.drew⟩
            · have HZ := Lib.hid (eqL_all (e := eqZ) hlq (fun t x y a b => HA2.out t x y (by have := (List.getElem?_eq_some_iff.1 a).1; omega) a b))
              obtain ⟨w6, hw6⟩ : ∃ w6 : World, w6 = wr := ⟨_, rfl⟩
              subst hw6
              have hjq : ¬ (j : Int) < (q.served.length : Int) := by omega
              go_upto_region 14 with fail
              clear y2 hlq hjq
              go_wp2_with fail
              go_loopg [9] p.sh.length (fun g i wr => ∃ j : Nat, g = p.sh.length - j ∧ i = .int .i64 j ∧ j ≤ p.sh.length ∧ (∀ (t : Nat) x y, t < j → p.sh[t]? = some x → q.sh[t]? = some y → eqSD x y = true) ∧ Below w6.heap.size w6 wr)
              case atStart => exact ⟨0, rfl, rfl, Nat.zero_le _, (fun j x y hj => by omega), Below.refl _ _⟩
              case round =>
                obtain ⟨i, hg, rfl, hi, hall, hb⟩ := hrel
                have HG3 := Lib.hid hg
                have HB3 := Lib.hid hb
                have HA3 := Lib.hid hall
                have HBY := Lib.hid (HBX.out.trans (hb.mono HBX.out.size))
                have x3 : wr.cell? ⟨xb, 3, none⟩ = some (.slice ha p.sh.length hc) := cell_below hb (cell_below HB2.out (fr_cell_of_heap HX5.out rfl))
                have y3 : wr.cell? ⟨yb, 3, none⟩ = some (.slice ka q.sh.length kc) := cell_below hb (cell_below HB2.out (fr_cell_of_heap HY5.out rfl))
                have hlq := Z.out.2.2.2
                clear hg hb hall x2
                by_cases hil : i < p.sh.length
                · obtain ⟨⟨xq, xg, xv, xl⟩, hx⟩ : ∃ x, p.sh[i]? = some x := ⟨_, List.getElem?_eq_getElem hil⟩
                  obtain ⟨⟨yq, yg, yv, yl⟩, hy⟩ : ∃ y, q.sh[i]? = some y := ⟨_, List.getElem?_eq_getElem (by omega)⟩
                  have HX2 := Lib.hid hx
                  have HY2 := Lib.hid hy
                  have HDX := Lib.hid (HPX.out.inv _ (List.mem_of_getElem? hx))
                  have HDY := Lib.hid (HPY.out.inv _ (List.mem_of_getElem? hy))
                  have HFX := Lib.hid (HSM.out.2.2 _ (List.mem_of_getElem? hx))
                  obtain ⟨gs, os, cs, hv, -, e⟩ := (show SlAt wr (.slice ha p.sh.length hc) p.sh.length (p.sh.flatMap encXS) by rw [← HHV.out]; exact HPX.out.hv.below HBY.out).at encXS_len (by decide) hx
                  cases hv
                  obtain ⟨gt, ot, ct, hv, -, e'⟩ := (show SlAt wr (.slice ka q.sh.length kc) q.sh.length (q.sh.flatMap encXS) by rw [← HKV.out]; exact HPY.out.hv.below HBY.out).at encXS_len (by decide) hy
                  cases hv
                  have c1 := cell_regrown (show wr.cell? ⟨gs, os + i * 3 + 1, none⟩ = some xv from e 1 _ rfl)
                  have c2 := cell_regrown (show wr.cell? ⟨gs, os + i * 3 + 2, none⟩ = some (.bool xg) from e 2 _ rfl)
                  have d1 := cell_regrown (show wr.cell? ⟨gt, ot + i * 3 + 1, none⟩ = some yv from e' 1 _ rfl)
                  have d2 := cell_regrown (show wr.cell? ⟨gt, ot + i * 3 + 2, none⟩ = some (.bool yg) from e' 2 _ rfl)
                  have X3 := Lib.hid x3
                  have x3 := cell_regrown x3
                  have y3 := cell_regrown y3
                  have hil2 : (i : Int) < (p.sh.length : Int) := by omega
                  have hil3 : (i : Int) < (q.sh.length : Int) := by omega
                  have hsame : ∀ (d : Nat) (os : Array Obj), Calls Tryz.prog 124 #[xv, yv] (grow (redrawn wr d) os) fun e w' => e = .returned (.bool (eqL eqDV xl yl)) ∧ Below (grow (redrawn wr d) os).heap.size (grow (redrawn wr d) os) w' := fun d os => by
                    have hb := below_of_regrown (d := d) (os := os) HBY.out HBY.out.size
                    exact r16SameB xv yv xl yl _ (HDX.out.below hb) (HDY.out.below hb) (by have := HFX.out.1; simp only at this; omega) (fun z hz => ⟨by have := (HFX.out.2 z hz).1; omega, fun r hr => by have := (HFX.out.2 z hz).2 r hr; omega⟩)
                  clear hx hy e e' hlq
                  rcases xg with _ | _ <;> rcases yg with _ | _
                  · skip
                    rcases hq : eqL eqDV xl yl with _ | _
                    · rw [hq] at hsame
                      have HSAME := Lib.hid hsame
                      clear hsame
                      have HN := Lib.hid (eqL_at (e := eqN) HX.out HY.out (by unfold eqN; simp [eqL_at (e := eqSD) HX2.out HY2.out (by unfold eqSD; simp [hq])]))
                      go_upto_region 17 with fail
                      refine wp_region_quiet_below (by kernel_rfl) (by kernel_rfl) ?_
                      repeat (go_big_quiet_step (exact Calls.regrown_of (HSAME.out _ _)))
                      refine wpQuiet_nil ?_
                      rintro _ ⟨⟨dq, osq⟩, rfl⟩
                      clear c1 c2 d1 d2 x3 y3
                      go_wp2_with fail
                      go_ret
                      exact ⟨ret_bool HN.out.symm, below_of_regrown HBY.out HBY.out.size⟩
                    · rw [hq] at hsame
                      have HSAME := Lib.hid hsame
                      clear hsame
                      have HS := Lib.hid (eqRel_snoc (e := eqSD) HA3.out HX2.out HY2.out (by unfold eqSD; simp [hq]))
                      go_upto_region 17 with fail
                      refine wp_region_quiet_below (by kernel_rfl) (by kernel_rfl) ?_
                      repeat (go_big_quiet_step (exact Calls.regrown_of (HSAME.out _ _)))
                      refine wpQuiet_nil ?_
                      rintro _ ⟨⟨dq, osq⟩, rfl⟩
                      clear c1 c2 d1 d2 x3 y3
                      go_wp2_with fail
                      go_roundg (p.sh.length - (i + 1))
                      case rel => exact ⟨i + 1, rfl, by go_num, by omega, HS.out, below_of_regrown HB3.out HB3.out.size⟩
                      case measure => have := HG3.out; omega
                  · clear hsame
                    have HN := Lib.hid (eqL_at (e := eqN) HX.out HY.out (by unfold eqN; simp [eqL_at (e := eqSD) HX2.out HY2.out (by unfold eqSD; simp)]))
                    go_upto_region 17 with fail
                    refine wp_region_quiet_below (by kernel_rfl) (by kernel_rfl) ?_
                    repeat (go_big_quiet_step (fail))
                    refine wpQuiet_nil ?_
                    rintro _ ⟨⟨dq, osq⟩, rfl⟩
                    clear c1 c2 d1 d2 x3 y3
                    go_wp2_with fail
                    go_ret
                    exact ⟨ret_bool HN.out.symm, below_of_regrown HBY.out HBY.out.size⟩
                  · clear hsame
                    have HN := Lib.hid (eqL_at (e := eqN) HX.out HY.out (by unfold eqN; simp [eqL_at (e := eqSD) HX2.out HY2.out (by unfold eqSD; simp)]))
                    go_upto_region 17 with fail
                    refine wp_region_quiet_below (by kernel_rfl) (by kernel_rfl) ?_
                    repeat (go_big_quiet_step (fail))
                    refine wpQuiet_nil ?_
                    rintro _ ⟨⟨dq, osq⟩, rfl⟩
                    clear c1 c2 d1 d2 x3 y3
                    go_wp2_with fail
                    go_ret
                    exact ⟨ret_bool HN.out.symm, below_of_regrown HBY.out HBY.out.size⟩
                  · skip
                    rcases hq : eqL eqDV xl yl with _ | _
                    · rw [hq] at hsame
                      have HSAME := Lib.hid hsame
                      clear hsame
                      have HN := Lib.hid (eqL_at (e := eqN) HX.out HY.out (by unfold eqN; simp [eqL_at (e := eqSD) HX2.out HY2.out (by unfold eqSD; simp [hq])]))
                      go_upto_region 17 with fail
                      refine wp_region_quiet_below (by kernel_rfl) (by kernel_rfl) ?_
                      repeat (go_big_quiet_step (exact Calls.regrown_of (HSAME.out _ _)))
                      refine wpQuiet_nil ?_
                      rintro _ ⟨⟨dq, osq⟩, rfl⟩
                      clear c1 c2 d1 d2 x3 y3
                      go_wp2_with fail
                      go_ret
                      exact ⟨ret_bool HN.out.symm, below_of_regrown HBY.out HBY.out.size⟩
                    · rw [hq] at hsame
                      have HSAME := Lib.hid hsame
                      clear hsame
                      have HS := Lib.hid (eqRel_snoc (e := eqSD) HA3.out HX2.out HY2.out (by unfold eqSD; simp [hq]))
                      go_upto_region 17 with fail
                      refine wp_region_quiet_below (by kernel_rfl) (by kernel_rfl) ?_
                      repeat (go_big_quiet_step (exact Calls.regrown_of (HSAME.out _ _)))
                      refine wpQuiet_nil ?_
                      rintro _ ⟨⟨dq, osq⟩, rfl⟩
                      clear c1 c2 d1 d2 x3 y3
                      go_wp2_with fail
                      go_roundg (p.sh.length - (i + 1))
                      case rel => exact ⟨i + 1, rfl, by go_num, by omega, HS.out, below_of_regrown HB3.out HB3.out.size⟩
                      case measure => have := HG3.out; omega
                · have HS := Lib.hid (eqRel_snoc (e := eqN) HA.out HX.out HY.out (by
                    unfold eqN
                    simp [Z.out.1, Z.out.2.1, HZ.out, eqL_all (e := eqSD) hlq (fun t x y a b => HA3.out t x y (by have := (List.getElem?_eq_some_iff.1 a).1; omega) a b)]))
                  have hf := HF.out
                  go_wp2_with fail
                  go_roundg (l.length - (k + 1))
                  case rel => exact ⟨k + 1, rfl, by go_num, by omega, HS.out, HBY.out⟩
                  case measure => have := HG.out; omega
      · have HN := Lib.hid (eqL_all (by have := HL.out; omega) (e := eqN) (fun j x y a b => HA.out j x y (by have := (List.getElem?_eq_some_iff.1 a).1; omega) a b))
        go_wp2_with fail
        go_ret
        exact ⟨ret_bool HN.out.symm, HB.out⟩
  · have HN := Lib.hid (eqL_len (e := eqN) (l := l) (m := m) (fun h => hl h.symm))
    have hne : ((l.length : Int) != (m.length : Int)) = true := by simp; omega
    clear hl
    go_enter Tryz.func60, Tryz.ntmps60
    go_wp2_with fail
    go_ret
    exact ⟨ret_bool HN.out.symm, Below.refl _ _⟩
end Go.Proofs.YtjmlimogmmikoaaGreatDoor
