/-
  law16.ShareFair: the walk.
-/
import Derived.Test.YtohkchilogmneaaSFair1
import Derived.Deep.CutBlock
namespace Go.Proofs.Ytohkchilogmneaa
open Go.RowKit

theorem ltC_eq (L : Lt) : ltC L = #[.int .i64 (L.t 0 0), .int .i64 (L.t 0 1), .int .i64 (L.t 0 2), .int .i64 (L.t 0 3), .int .i64 (L.t 1 0), .int .i64 (L.t 1 1), .int .i64 (L.t 1 2), .int .i64 (L.t 1 3), .int .i64 (L.t 2 0), .int .i64 (L.t 2 1), .int .i64 (L.t 2 2), .int .i64 (L.t 2 3), .int .i64 (L.d 0 0), .int .i64 (L.d 0 1), .int .i64 (L.d 0 2), .int .i64 (L.d 0 3), .int .i64 (L.d 1 0), .int .i64 (L.d 1 1), .int .i64 (L.d 1 2), .int .i64 (L.d 1 3), .int .i64 (L.d 2 0), .int .i64 (L.d 2 1), .int .i64 (L.d 2 2), .int .i64 (L.d 2 3), .bool (L.b 0 0), .bool (L.b 0 1), .bool (L.b 0 2), .bool (L.b 0 3), .bool (L.b 1 0), .bool (L.b 1 1), .bool (L.b 1 2), .bool (L.b 1 3), .bool (L.b 2 0), .bool (L.b 2 1), .bool (L.b 2 2), .bool (L.b 2 3)] := rfl
theorem lt_ones (L : Lt) : ∀ u ∈ (ltC L).toList, u.oneCell' = true := by simp [ltC, Value.oneCell']
set_option maxRecDepth 100000 in
set_option maxHeartbeats 32000000 in
/-- THE WALK: ShareFair. -/
theorem shareFair_any (q : Int) (w3 : Int → Int → Int) (v : Value) (l : List Sc) (W : World) (hl : ScsAt W v l) (hok : ∀ y ∈ l, EntOk y.e) (hws : ∀ p : Int → Prop, (∀ u i : Nat, u < 3 → i < 4 → p (w3 u i)) → ∀ u i, p (w3 u i)) : Calls Try.prog 7 #[.int .i64 q, .agg (w3C w3), v] W (TrueBelow W) := by
  have HA := Lib.hid hl
  have HOK := Lib.hid hok
  have HWS := Lib.hid hws
  obtain ⟨a, cap, rfl⟩ := hl.form
  clear hl hok hws
  by_cases hq : 1 ≤ q ∧ q ≤ 64
  · obtain ⟨q1, q2⟩ := hq
    have HQ1 := Lib.hid q1
    have HQ2 := Lib.hid q2
    clear q1 q2
    go_enter Try.func7, Try.ntmps7
    go_wp2_with fail
    refine (shareNew_any q _ HQ1.out HQ2.out).mono ?_
    rintro e w1 ⟨rfl, hw1⟩
    have hz1 : (W.alloc (.cells (w3C w3) 61)).heap.size = W.heap.size + 1 := by simp
    rw [hz1]
    obtain ⟨ρ1, hs1⟩ := shareNew_state q (W.alloc (.cells (w3C w3) 61)) w1 HQ1.out HQ2.out hw1
    rw [hz1] at hs1
    have HS1 := Lib.hid hs1
    clear hw1 hs1 hz1
    by_cases hlen : 100 < l.length
    · have hd : decide (100 < (l.length : Int)) = true := decide_eq_true (by omega)
      go_wp2_with fail
      refine (live16_any _).mono ?_
      rintro e w2 ⟨rfl, hb⟩
      have HB := Lib.hid ((box_below.trans (HS1.out.below.mono (by simp))).trans (hb.mono (Nat.le_trans (by simp) HS1.out.below.size)))
      clear hb
      go_wp2_with fail
      go_ret
      exact ⟨rfl, HB.out⟩
    · have hd : decide (100 < (l.length : Int)) = false := decide_eq_false (by omega)
      have HLEN := Lib.hid (show l.length ≤ 100 by omega)
      have HW1 := Lib.hid ((HS1.out.below.block W.heap.size (by simp)).trans fr_alloc_at : w1.heap[W.heap.size]? = some (.cells (w3C w3) 61 (0, 0)))
      have HB1 := Lib.hid (box_below.trans (HS1.out.below.mono (by simp)) : Below W.heap.size W w1)
      go_wp2_with fail
      go_loopg [8] 3 (fun g i wr => HRel1 w3 w1 g i wr)
      case atStart => exact ⟨0, rfl, rfl, by omega, rfl, fun j _ hj _ => by omega⟩
      case round =>
        obtain ⟨T, hg, rfl, hT, hwr, hall⟩ := hrel
        subst hwr
        have HG := Lib.hid hg
        have HALL := Lib.hid hall
        clear hg hall
        by_cases hlt : T < 3
        · have hTl : (T : Int) < 3 := by omega
          go_wp2_with fail
          go_loopg [9] 4 (fun g i w' => HRel3 w3 wr T g i w')
          case atStart => exact ⟨0, rfl, rfl, by omega, rfl, fun j hj => by omega⟩
          case round =>
            obtain ⟨K, hg, rfl, hK, hwr, hrow⟩ := hrel
            subst hwr
            have HG3 := Lib.hid hg
            have HROW := Lib.hid hrow
            clear hg hrow
            by_cases hKl : K < 4
            · have hKi : (K : Int) < 4 := by omega
              have c0 : wr.cell? ⟨W.heap.size, T * 4 + K, none⟩ = some (.int .i64 (w3 T K)) := fr_cell_of_heap HW1.out (w3_at w3 hlt hKl)
              by_cases hw : 1 ≤ w3 T K ∧ w3 T K ≤ 16
              · have h1 : ¬ w3 T K < 1 := by omega
                have h2 : ¬ 16 < w3 T K := by omega
                have HW := Lib.hid hw
                clear hw
                go_wp2_with fail
                go_roundg (4 - (K + 1))
                case rel =>
                  refine ⟨K + 1, rfl, by go_num, by omega, rfl, fun j hj => ?_⟩
                  rcases Nat.lt_or_ge j K with h | h
                  · exact HROW.out j h
                  · obtain rfl : j = K := by omega
                    exact HW.out
                case measure => have := HG3.out; omega
              · have hw2 : w3 T K < 1 ∨ (¬ w3 T K < 1 ∧ 16 < w3 T K) := by omega
                rcases hw2 with h1 | ⟨h1, h2⟩
                all_goals
                  clear hw
                  go_wp2_with fail
                  refine (live16_any _).mono ?_
                  rintro e w2 ⟨rfl, hb⟩
                  have HB := Lib.hid (HB1.out.trans (hb.mono HB1.out.size))
                  clear hb
                  go_wp2_with fail
                  go_ret
                  exact ⟨rfl, HB.out⟩
            · obtain rfl : K = 4 := by omega
              go_wp2_with fail
              go_roundg (3 - (T + 1))
              case rel =>
                refine ⟨T + 1, rfl, by go_num, by omega, rfl, fun u i hu hi => ?_⟩
                rcases Nat.lt_or_ge u T with h | h
                · exact HALL.out u i h hi
                · obtain rfl : u = T := by omega
                  exact HROW.out i hi
              case measure => have := HG.out; omega
        · obtain rfl : T = 3 := by omega
          have HW := Lib.hid (HWS.out (fun n => 1 ≤ n ∧ n ≤ 16) HALL.out)
          go_upto_region 13 with (first
            | (refine wpList_build0 rfl 67 rfl built_look ?_)
            | (refine wpList_store_new rfl 67 _ _ rfl wr.heap.size rfl (ltC lt0) rfl rfl (lt_sz lt0) rfl (lt_one lt0) ?_))
          have hz0 : (wr.alloc (.cells (ltC lt0) 67)).heap[wr.heap.size]? = some (.cells (ltC lt0) 67 (0, 0)) := fr_alloc_at
          go_upto_region 16 with (refine wpList_load_agg (cs := #[.int .i64 0, .int .i64 0, .int .i64 0, .int .i64 0, .int .i64 0, .int .i64 0, .int .i64 0, .int .i64 0, .int .i64 0, .int .i64 0, .int .i64 0, .int .i64 0, .int .i64 0, .int .i64 0, .int .i64 0, .int .i64 0, .int .i64 0, .int .i64 0, .int .i64 0, .int .i64 0, .int .i64 0, .int .i64 0, .int .i64 0, .int .i64 0, .bool false, .bool false, .bool false, .bool false, .bool false, .bool false, .bool false, .bool false, .bool false, .bool false, .bool false, .bool false]) 67 hz0 Try.underlying67 rfl (lt_sz lt0) rfl _ rfl rfl ?_)
          obtain ⟨wa, hwa⟩ : ∃ wa : World, wa = (wr.alloc (.cells (ltC lt0) 67)).alloc (.cells (ltC lt0) 67) := ⟨_, rfl⟩
          rw [← lt0_C]
          rw [← hwa]
          have HST := Lib.hid (show HRel2 w3 q W W.heap.size wr.heap.size l l.length (.int .i64 0) (.slice (some ⟨wr.heap.size + 1, 0, none⟩) 1 1) (.int .i64 1) wa from by
            have hz := HB1.out.size
            have hz2 := fp_lt_of_heap HW1.out
            have hnew : wa.heap[wr.heap.size]? = some (.cells (ltC lt0) 67 (0, 0)) := by rw [hwa]; exact fr_alloc_old fr_alloc_at
            have hnew2 : wa.heap[wr.heap.size + 1]? = some (.cells (ltC lt0) 67 (0, 0)) := by rw [hwa]; exact heap_alloc_two wr _ _
            have hb3 : Below wr.heap.size wr wa := by rw [hwa]; exact box_below.alloc (by simp) _
            have hfn : ∀ j, wr.heap.size ≤ j → fence ρ1 wr j = [] := fun j hj => by simp [fence, Nat.not_lt.2 hj]
            have hR0 : SState q W (W.heap.size + 2) 0 false [] ρ1 wr := ⟨HS1.out.ring, HS1.out.few, HB1.out, HS1.out.news, fun j hj => HS1.out.old j (by simp; omega)⟩
            refine ⟨0, lt0, false, [], fence ρ1 wr, [(lt0, false, [])], 1, rfl, rfl, Nat.zero_le _, rfl, by decide, by decide, by decide, rfl, fun u i => ⟨Int.le_refl _, Int.le_refl _⟩, ⟨hR0.fence.on hb3, hnew, hfn _ (Nat.le_refl _), (hb3.block _ hz2).trans HW1.out, (fence_later ρ1 wr _ hz2).trans (HS1.out.old _ (by simp)), Nat.le_refl _, hz, by omega⟩, ⟨?_, fun b hb => ?_, looksT_one⟩⟩
            · exact ⟨rfl, .inr ⟨wr.heap.size + 1, 1, ltC lt0, rfl, by omega, hnew2, Nat.le_refl _, by unfold maxLen; omega, rfl, rfl⟩⟩
            · simp only [Value.ownBlock, Option.some.injEq] at hb
              subst hb
              exact ⟨hfn _ (by omega), by omega, by omega⟩)
          obtain ⟨b9, hb9⟩ : ∃ b9 : Nat, b9 = wr.heap.size := ⟨_, rfl⟩
          rw [← hb9] at HST
          rw [← hb9]
          clear hwa hb9
          go_loopg [13, 11, 12] l.length (fun g i v c wr => HRel2 w3 q W W.heap.size b9 l g i v c wr)
          case atStart => exact HST.out
          case round =>
            obtain ⟨k, L, gv, rows, ρ, gs, C, hg, rfl, hk, rfl, hC1, hC2, hgs, hlast, hdr, hS, hL⟩ := hrel
            have HG := Lib.hid hg
            have HS := Lib.hid hS
            have HL := Lib.hid hL
            have HK := Lib.hid (And.intro hC1 (And.intro hC2 (And.intro hgs hlast)))
            have HDR := Lib.hid hdr
            have HFO := Lib.hid (hL.ok.ok _ (List.mem_of_getElem? hlast))
            clear hg hC1 hC2 hgs hlast hdr hS hL
            by_cases hlt : k < l.length
            · obtain ⟨x, hx⟩ : ∃ x, l[k]? = some x := ⟨_, List.getElem?_eq_getElem hlt⟩
              obtain ⟨g, off, cap', hv, hc⟩ := HA.out.at hx
              cases hv
              have HX := Lib.hid (HOK.out x (List.mem_of_getElem? hx))
              have cx : ∀ (w' : World), Below W.heap.size W w' → ∀ i u, (encSc x)[i]? = some u → w'.cell? ⟨g, off + k * 9 + i, none⟩ = some u := fun w' hb i u hu => by
                rw [Nat.add_assoc]
                exact cell_below hb (hc i u hu)
              have HCX := Lib.hid cx
              have HRA := Lib.hid (show wr.rangeAt g (off + k * 9 + 1) (encEnt x.e) from fun j u hu => by
                have h := cx wr HS.out.st.below (j + 1) u (by rw [← hu]; rfl)
                rwa [show off + k * 9 + 1 + j = off + k * 9 + (j + 1) by omega])
              have hkl : (k : Int) < (l.length : Int) := by omega
              clear hx hc cx
              go_upto_region 19 with (first
                | (refine wpList_load_mid rfl 70 _ rfl g (off + k * 9 + 1) rfl (encEnt x.e) _ HRA.out Try.underlying70 rfl (entE_sz x.e) ?_)
                | (refine wpList_store_new rfl 70 _ _ rfl wr.heap.size rfl (encEnt x.e).toArray rfl rfl (entE_sz x.e) rfl (entE_one x.e) ?_))
              simp only [Act.put]
              obtain ⟨w4, hw4⟩ : ∃ w4 : World, w4 = wr.alloc (.cells (encEnt x.e).toArray 70) := ⟨_, rfl⟩
              obtain ⟨bx, hbx⟩ : ∃ bx : Nat, bx = wr.heap.size := ⟨_, rfl⟩
              rw [← hw4, ← hbx]
              have HBX := Lib.hid (show w4.heap[bx]? = some (entOb x.e) by rw [hw4, hbx]; exact fr_alloc_at)
              have HS4 := Lib.hid (show ShF w3 q W W.heap.size b9 (W.heap.size + 2) k L gv rows (fence ρ wr) w4 by rw [hw4]; exact HS.out.fence.on box_below)
              have HL4 := Lib.hid (show ShL w3 q C W W.heap.size b9 gs u11 (fence ρ wr) w4 by rw [hw4]; exact HL.out.fence.on box_below)
              have HBXR := Lib.hid (show fence ρ wr bx = [] by rw [hbx]; simp [fence])
              have HBXN := Lib.hid (show ∀ j, j = bx → wr.heap.size ≤ j from fun j hj => by rw [hj, hbx]; exact Nat.le_refl _)
              have hsz : w4.heap.size = wr.heap.size + 1 := by rw [hw4]; simp
              have HFN := Lib.hid (show ∀ n, w4.heap.size ≤ n → NewRoles (fence ρ wr) [0] n from fun n hn j hj => .inl (by simp [fence, show ¬ j < wr.heap.size by omega]))
              clear hsz
              clear hw4 hbx
              have x2 : w4.cell? ⟨bx, 2, none⟩ = some (.int .i64 x.e.ten) := fr_cell_of_heap HBX.out rfl
              have x4 : w4.cell? ⟨bx, 4, none⟩ = some (.int .i64 x.e.inv) := fr_cell_of_heap HBX.out rfl
              by_cases hf : (0 ≤ x.e.ten ∧ x.e.ten ≤ 2) ∧ (0 ≤ x.e.inv ∧ x.e.inv ≤ 2)
              · obtain ⟨⟨g1, g2⟩, g3, g4⟩ := hf
                have h1 : ¬ x.e.ten < 0 := by omega
                have h2 : ¬ 2 < x.e.ten := by omega
                have h3 : ¬ x.e.inv < 0 := by omega
                have h4 : ¬ 2 < x.e.inv := by omega
                obtain ⟨u, hu⟩ : ∃ u : Nat, x.e.ten = u := ⟨x.e.ten.toNat, by omega⟩
                obtain ⟨i, hi⟩ : ∃ i : Nat, x.e.inv = i := ⟨x.e.inv.toNat, by omega⟩
                have HU := Lib.hid (show u < 3 ∧ i < 3 by omega)
                have HUI := Lib.hid (And.intro hu hi)
                rw [hu] at x2 h1 h2
                rw [hi] at x4 h3 h4
                clear g1 g2 g3 g4 hu hi
                have hu3 : (u : Int) < 3 := by have := HU.out.1; omega
                have hi4 : (i : Int) < 4 := by have := HU.out.2; omega
                have s3 : w4.cell? ⟨W.heap.size, u * 4 + 3, none⟩ = some (.int .i64 (w3 u 3)) := fr_cell_of_heap HS4.out.wts (w3_at w3 HU.out.1 (by decide))
                have f3 : w4.frozen? ⟨bx, 3, none⟩ = false := fr_free_of_heap HBX.out
                have x3 : w4.cell? ⟨bx, 3, none⟩ = some (.int .i64 x.e.tw) := fr_cell_of_heap HBX.out rfl
                go_upto_region 21 with fail
                clear x2 x4 x3 s3 f3 h1 h2 h3 h4
                obtain ⟨wb, hwb⟩ : ∃ wb : World, wb = w4.setCell ⟨bx, 3, none⟩ (.int .i64 (w3 u 3)) := ⟨_, rfl⟩
                rw [← hwb]
                have hFb : Fp (fun j => j = bx) w4 wb := by rw [hwb]; exact (Fp.refl (fun j => j = bx) w4).setCell (p := ⟨bx, 3, none⟩) (fun _ => rfl) _
                have hbxb : wb.heap[bx]? = some (entOb { x.e with tw := w3 u 3 }) := by rw [hwb]; exact fr_setCell_at HBX.out
                have x2 : wb.cell? ⟨bx, 2, none⟩ = some (.int .i64 u) := by rw [← HUI.out.1]; exact fr_cell_of_heap hbxb rfl
                have x4 : wb.cell? ⟨bx, 4, none⟩ = some (.int .i64 i) := by rw [← HUI.out.2]; exact fr_cell_of_heap hbxb rfl
                have si : wb.cell? ⟨W.heap.size, u * 4 + i, none⟩ = some (.int .i64 (w3 u i)) := fr_cell_of_heap (hFb.heap HS4.out.wts (fun e => by have := HBXN.out _ e; have := fp_lt_of_heap HS.out.wts; omega)) (w3_at w3 HU.out.1 (by have := HU.out.2; omega))
                have f5 : wb.frozen? ⟨bx, 5, none⟩ = false := fr_free_of_heap hbxb
                have x5 : wb.cell? ⟨bx, 5, none⟩ = some (.int .i64 x.e.iw) := fr_cell_of_heap hbxb rfl
                have HWB := Lib.hid hwb
                clear hFb hbxb hwb
                go_region
                clear x2 x4 x5 si f5
                obtain ⟨w5, hw5⟩ : ∃ w5 : World, w5 = (wb.setCell ⟨bx, 5, none⟩ (.int .i64 (w3 u i))).drew := ⟨_, rfl⟩
                rw [← hw5]
                rw [HWB.out] at hw5
                obtain ⟨E, hE⟩ : ∃ E : Ent, E = { x.e with tw := w3 u 3, iw := w3 u i } := ⟨_, rfl⟩
                have HE := Lib.hid (show E.ten = u ∧ E.inv = i ∧ E.tw = w3 u 3 ∧ E.iw = w3 u i ∧ I64 E.id from ⟨by rw [hE]; exact HUI.out.1, by rw [hE]; exact HUI.out.2, by rw [hE], by rw [hE], by rw [hE]; exact HX.out.2.2.2.2.2.1⟩)
                have HF5 := Lib.hid (ent_set_fp hw5)
                have HBX5 := Lib.hid (show w5.heap[bx]? = some (entOb E) by rw [hE]; exact ent_set HBX.out hw5)
                have HS5 := Lib.hid (HS4.out.farFp HF5.out (fun j e => ⟨by rw [e]; exact HBXR.out, by have := HBXN.out j e; have := fp_lt_of_heap HS.out.wts; omega, by have := HBXN.out j e; have := fp_lt_of_heap HS.out.now; omega, Nat.le_trans HS.out.st.below.size (HBXN.out j e)⟩))
                have HL5 := Lib.hid (show ShL w3 q C W W.heap.size b9 gs u11 (fence ρ wr) w5 from ⟨own_fpS HL4.out.own HF5.out (fun b hb e => by have h1 := HBXN.out b e; have h2 := HL.out.lt hb; omega), HL4.out.far, HL4.out.ok⟩)
                have x0 : w5.cell? ⟨g, off + k * 9, none⟩ = some (.int .i64 x.kind) := HCX.out w5 HS5.out.st.below 0 _ rfl
                clear hw5 hE HWB
                go_upto_block 6 with fail
                go_cut [12] (fun c wx => ∃ (gv' : Bool) (rows' : List TRow) (ρ' : Roles) (t' d' : Int → Int → Int) (C' : Int), c = .int .i64 C' ∧ ShF w3 q W W.heap.size b9 (W.heap.size + 2) (k + 1) ⟨t', d', L.b⟩ gv' rows' ρ' wx ∧ ShL w3 q C W W.heap.size b9 gs u11 ρ' wx ∧ DropsIn ⟨t', d', L.b⟩ (k + 1) ∧ MidT (fun u => w3 u 3) w3 q L.t L.d gv rows C t' d' gv' rows' C')
                case first =>
                  have HQW := Lib.hid (show (∀ u : Int, 0 ≤ q * w3 u 3) ∧ (∀ u i : Int, 0 ≤ q * w3 u i) from ⟨fun u => Int.mul_nonneg (by have := HQ1.out; omega) (by have := (HW.out u 3).1; omega), fun u i => Int.mul_nonneg (by have := HQ1.out; omega) (by have := (HW.out u i).1; omega)⟩)
                  have HNN := Lib.hid (MidT.none (t := L.t) (d := L.d) HFO.out (Int.le_refl _) HK.out.2.1)
                  have HKL := Lib.hid (show k ≤ 100 ∧ gs.length ≤ 101 by have := HLEN.out; have := HK.out.2.2.1; omega)
                  clear x0
                  by_cases hk0 : x.kind = 0
                  · have hkb : (x.kind == 0) = true := beq_iff_eq.2 hk0
                    have HTOT := Lib.hid (show totT rows < 1000000 by have := HS5.out.st.few; have := HKL.out.1; omega)
                    have HTL := Lib.hid (show rows.length < 1000000 by have := HS5.out.st.rlen; have := HKL.out.1; omega)
                    clear hk0
                    go_wp2_with (refine wpList_load_agg (cs := entC E) 70 HBX5.out Try.underlying70 rfl (ent_sz E) rfl _ rfl rfl ?_)
                    refine (sharePush_any (pre := [0]) (ρ := Proofs.Ytohkchilogmneaa.fence ρ wr) (by decide) E _ HS5.out.st.ring (by rw [HE.out.1]; exact i64_of (by have := HU.out.1; omega)) (by rw [HE.out.2.1]; exact i64_of (by have := HU.out.2; omega)) HE.out.2.2.2.2 HTOT.out HTL.out).mono ?_
                    rintro e w9 ⟨rfl, ρ9, hl9, hn9, hR9, hF9⟩
                    have HS9 := Lib.hid (HS5.out.turn (k' := k + 1) hl9 hn9 hR9 hF9 (Nat.le_trans totT_push (Nat.succ_le_succ HS5.out.st.few)))
                    have HL9 := Lib.hid (HL5.out.turn hl9 hF9)
                    have HM := Lib.hid (MidT.push (t := L.t) (d := L.d) (E := E) HFO.out HK.out.1 HK.out.2.1 HQW.out.1 HQW.out.2 (by rw [HE.out.1]; have := HU.out.1; omega) (by rw [HE.out.2.1]; have := HU.out.2; omega) (by rw [HE.out.2.2.1, HE.out.1]) (by rw [HE.out.2.2.2.1, HE.out.1, HE.out.2.1]))
                    have x7 : w9.cell? ⟨bx, 7, none⟩ = some (.int .i64 E.cost) := fr_cell_of_heap (HS5.out.keep hF9 HBX5.out HBXR.out) rfl
                    clear hl9 hn9 hR9 hF9
                    go_wp2_with fail
                    refine (num16_any _ _).mono ?_
                    rintro e w10 ⟨rfl, rfl⟩
                    by_cases h0 : (pushT E rows).1 = 0
                    · have hb0 : ((pushT E rows).1 == 0) = true := beq_iff_eq.2 h0
                      have H0 := Lib.hid (show topC C (decide ((pushT E rows).1 = 0)) E.cost = if C < E.cost then E.cost else C by unfold topC; rw [decide_eq_true h0]; rfl)
                      clear h0
                      by_cases hc : C < E.cost
                      · have HC := Lib.hid hc
                        go_wp2_with fail
                        go_meet
                        case rel => exact ⟨_, _, _, _, _, E.cost, rfl, HS9.out, HL9.out, drops_more HDR.out, by have h := HM.out; rw [H0.out, if_pos HC.out] at h; exact h⟩
                      · have HC := Lib.hid hc
                        go_wp2_with fail
                        go_meet
                        case rel => exact ⟨_, _, _, _, _, C, rfl, HS9.out, HL9.out, drops_more HDR.out, by have h := HM.out; rw [H0.out, if_neg (Int.not_lt.2 HC.out)] at h; exact h⟩
                    · have hb0 : ((pushT E rows).1 == 0) = false := beq_eq_false_iff_ne.2 h0
                      have H0 := Lib.hid (show topC C (decide ((pushT E rows).1 = 0)) E.cost = C by unfold topC; rw [decide_eq_false h0]; rfl)
                      clear h0
                      go_wp2_with fail
                      go_meet
                      case rel => exact ⟨_, _, _, _, _, C, rfl, HS9.out, HL9.out, drops_more HDR.out, by have h := HM.out; rw [H0.out] at h; exact h⟩
                  · have hkb : (x.kind == 0) = false := beq_eq_false_iff_ne.2 hk0
                    clear hk0
                    by_cases hk1 : x.kind = 1
                    · have hkb1 : (x.kind == 1) = true := beq_iff_eq.2 hk1
                      clear hk1
                      by_cases hne : rows = []
                      · have HNE := Lib.hid hne
                        clear hne
                        go_wp2_with fail
                        refine (shareTake_nil _ (HNE.out ▸ HS5.out.st.ring)).mono ?_
                        rintro e w9 ⟨rfl, hb9⟩
                        have HS9 := Lib.hid ((HS5.out.on hb9).on (box_below (o := .cells (entC ent0) 70)))
                        have HL9 := Lib.hid ((HL5.out.on hb9).on (box_below (o := .cells (entC ent0) 70)))
                        clear hb9
                        go_upto_region 30 with (refine wpList_store_new rfl 70 _ _ rfl w9.heap.size rfl (entC ent0) rfl rfl (ent_sz ent0) rfl (ent_one ent0) ?_)
                        go_upto_region 32 with fail
                        go_wp2_with fail
                        go_meet
                        case rel => exact ⟨_, _, _, _, _, C, rfl, HS9.out.more, HL9.out, drops_more HDR.out, HNN.out⟩
                      · have HNE := Lib.hid hne
                        clear hne
                        go_wp2_with fail
                        refine (shareTake_cons (by decide) _ HS5.out.st.ring HNE.out).mono ?_
                        rintro e w9 ⟨row, rest, ρ9, rfl, hp, hl9, hn9, hR9, hF9⟩
                        obtain ⟨hM, ht, hv2, hc1, hc2⟩ := MidT.take (t := L.t) (d := L.d) HFO.out HK.out.2.1 HQW.out.1 HQW.out.2 hp
                        obtain ⟨a9, ha9⟩ : ∃ a9 : Nat, row.id = a9 := ⟨row.id.toNat, by omega⟩
                        obtain ⟨i9, hi9⟩ : ∃ i9 : Nat, (firstF row.rows).id = i9 := ⟨(firstF row.rows).id.toNat, by omega⟩
                        obtain ⟨E9, hE9⟩ : ∃ E9, E9 = entOf row := ⟨_, rfl⟩
                        have HT9 := Lib.hid (show E9.ten = a9 ∧ E9.inv = i9 from ⟨by rw [hE9]; exact ha9, by rw [hE9]; exact hi9⟩)
                        have hcost : E9.cost = (headIt row.rows).cost := by rw [hE9]; rfl
                        rw [← hcost, ha9, hi9] at hM
                        have HA9 := Lib.hid (show (a9 < 3 ∧ i9 < 3) ∧ (0 ≤ E9.cost ∧ E9.cost ≤ 64) by have := HK.out.2.1; omega)
                        have HM := Lib.hid hM
                        have HS9 := Lib.hid (HS5.out.turn (k' := k + 1) hl9 hn9 hR9 hF9 (by have h1 := HS5.out.st.few; have h2 := picksT_tot hp; have h3 := totT_took row rest; omega))
                        have HL9 := Lib.hid (HL5.out.turn hl9 hF9)
                        rw [← hE9]
                        clear hp hl9 hn9 hR9 hF9 hM ht hv2 hc1 hc2 ha9 hi9 hcost hE9
                        go_upto_region 30 with (refine wpList_store_new rfl 70 _ _ rfl w9.heap.size rfl (entC E9) rfl rfl (ent_sz E9) rfl (ent_one E9) ?_)
                        obtain ⟨w10, hw10⟩ : ∃ w10 : World, w10 = w9.alloc (.cells (entC E9) 70) := ⟨_, rfl⟩
                        obtain ⟨yb, hyb⟩ : ∃ yb : Nat, yb = w9.heap.size := ⟨_, rfl⟩
                        try simp only [Act.put]
                        rw [← hw10, ← hyb]
                        have hyy : w10.heap[yb]? = some (entOb E9) := by rw [hw10, hyb]; exact fr_alloc_at
                        have HS10 := Lib.hid (show ShF w3 q W W.heap.size b9 (W.heap.size + 2) (k + 1) L _ _ ρ9 w10 by rw [hw10]; exact HS9.out.on box_below)
                        have HL10 := Lib.hid (show ShL w3 q C W W.heap.size b9 gs u11 ρ9 w10 by rw [hw10]; exact HL9.out.on box_below)
                        have y2 : w10.cell? ⟨yb, 2, none⟩ = some (.int .i64 a9) := by rw [← HT9.out.1]; exact (ent_cellsS hyy).1
                        have y4 : w10.cell? ⟨yb, 4, none⟩ = some (.int .i64 i9) := by rw [← HT9.out.2]; exact (ent_cellsS hyy).2.1
                        have y7 : w10.cell? ⟨yb, 7, none⟩ = some (.int .i64 E9.cost) := (ent_cellsS hyy).2.2.2
                        have g1 : ¬ (a9 : Int) < 0 := by omega
                        have g2 : ¬ 2 < (a9 : Int) := by have := HA9.out.1; omega
                        have g3 : ¬ (i9 : Int) < 0 := by omega
                        have g4 : ¬ 2 < (i9 : Int) := by have := HA9.out.1; omega
                        clear hw10 hyb hyy
                        go_upto_region 33 with fail
                        go_wp2_with (refine wpList_load_agg (cs := ltC L) 67 HS10.out.now Try.underlying67 rfl (lt_sz L) rfl _ rfl rfl ?_)
                        obtain ⟨k1, k2, k3, k4⟩ := sh_take HL10.out HK.out.2.2.2 HKL.out.2 HDR.out HKL.out.1 a9 HA9.out.1.1 i9 HA9.out.1.2 HA9.out.2
                        refine (add16_any L a9 i9 E9.cost 0 _ HA9.out.1.1 HA9.out.1.2 k1 k2 k3 k4).mono ?_
                        rintro e w11 ⟨rfl, hb11⟩
                        rw [addL_zero]
                        have HS11 := Lib.hid (HS10.out.on hb11)
                        have HL11 := Lib.hid (HL10.out.on hb11)
                        clear hb11 k1 k2 k3 k4 y2 y4 y7 g1 g2 g3 g4
                        obtain ⟨L9, hL9⟩ : ∃ L9 : Lt, L9 = ⟨addL L.t a9 i9 E9.cost, L.d, L.b⟩ := ⟨_, rfl⟩
                        rw [← hL9]
                        have HS12 := Lib.hid (HS11.out.set (L' := ⟨addL L.t a9 i9 E9.cost, L.d, L.b⟩) (w' := w11.setRow b9 (ltC L9)) ((Fp.refl _ _).setRow (fun _ => rfl)) (by rw [← hL9]; exact setRow_heap _ _ _ _ _ _ HS11.out.now))
                        have HL12 := Lib.hid (HL11.out.set (w' := w11.setRow b9 (ltC L9)) ((Fp.refl _ _).setRow (fun _ => rfl)))
                        clear hL9
                        go_wp2_with (refine wpList_store_row rfl 67 _ _ rfl b9 (ltC L9) rfl rfl 67 _ HS11.out.now (lt_sz L9) rfl (lt_one L9) ?_)
                        go_meet
                        case rel => exact ⟨_, _, _, addL L.t a9 i9 E9.cost, L.d, C, rfl, HS12.out, HL12.out, drops_more HDR.out, HM.out⟩
                    · have hkb1 : (x.kind == 1) = false := beq_eq_false_iff_ne.2 hk1
                      clear hk1
                      by_cases hk2 : x.kind = 2
                      · have hkb2 : (x.kind == 2) = true := beq_iff_eq.2 hk2
                        clear hk2
                        by_cases hne : rows = []
                        · have HNE := Lib.hid hne
                          clear hne
                          go_wp2_with fail
                          refine (sharePick_nil _ (HNE.out ▸ HS5.out.st.ring)).mono ?_
                          rintro e w9 ⟨rfl, hb9⟩
                          have HS9 := Lib.hid (HS5.out.on hb9)
                          have HL9 := Lib.hid (HL5.out.on hb9)
                          clear hb9
                          go_wp2_with fail
                          go_meet
                          case rel => exact ⟨_, _, _, _, _, C, rfl, HS9.out.more, HL9.out, drops_more HDR.out, HNN.out⟩
                        · have HNE := Lib.hid hne
                          clear hne
                          go_wp2_with fail
                          refine (sharePick_cons (by decide) _ HS5.out.st.ring HNE.out).mono ?_
                          rintro e w9 ⟨row, rest, ρ9, rfl, hp, hl9, hn9, hR9, hF9⟩
                          have HM := Lib.hid (MidT.pick (t := L.t) (d := L.d) HFO.out HK.out.2.1 HQW.out.1 HQW.out.2 hp)
                          have HS9 := Lib.hid (HS5.out.turn (k' := k + 1) hl9 hn9 hR9 hF9 (by have h1 := HS5.out.st.few; have h2 := picksT_tot hp; omega))
                          have HL9 := Lib.hid (HL5.out.turn hl9 hF9)
                          clear hp hl9 hn9 hR9 hF9
                          go_wp2_with fail
                          go_meet
                          case rel => exact ⟨_, _, _, _, _, C, rfl, HS9.out, HL9.out, drops_more HDR.out, HM.out⟩
                      · have hkb2 : (x.kind == 2) = false := beq_eq_false_iff_ne.2 hk2
                        clear hk2
                        have x2 : w5.cell? ⟨bx, 2, none⟩ = some (.int .i64 u) := by rw [← HE.out.1]; exact (ent_cellsS HBX5.out).1
                        have x4 : w5.cell? ⟨bx, 4, none⟩ = some (.int .i64 i) := by rw [← HE.out.2.1]; exact (ent_cellsS HBX5.out).2.1
                        have x6 : w5.cell? ⟨bx, 6, none⟩ = some (.int .i64 E.id) := (ent_cellsS HBX5.out).2.2.1
                        go_wp2_with fail
                        refine (shareDrop_any (pre := [0]) (ρ := Proofs.Ytohkchilogmneaa.fence ρ wr) u i E.id _ HS5.out.st.ring HE.out.2.2.2.2).mono ?_
                        rintro e w9 ⟨rfl, hR9, hF9⟩
                        have HM := Lib.hid (MidT.drop (t := L.t) (d := L.d) HFO.out HK.out.2.1 (id := (u : Int)) (inv := (i : Int)) (i := E.id))
                        have HS9 := Lib.hid (HS5.out.turn (k' := k + 1) (Later.refl _ _) (HFN.out _ (by have := HF5.out.size; omega)) hR9 hF9 (by have h1 := HS5.out.st.few; have h2 := totT_drop (id := (u : Int)) (inv := (i : Int)) (i := E.id) (gv := gv) (rows := rows); omega))
                        have HL9 := Lib.hid (HL5.out.turn (Later.refl _ _) hF9)
                        have hbx9 := HS5.out.keep hF9 HBX5.out HBXR.out
                        have x2 : w9.cell? ⟨bx, 2, none⟩ = some (.int .i64 u) := by rw [← HE.out.1]; exact (ent_cellsS hbx9).1
                        have x4 : w9.cell? ⟨bx, 4, none⟩ = some (.int .i64 i) := by rw [← HE.out.2.1]; exact (ent_cellsS hbx9).2.1
                        clear hR9 hF9 hbx9
                        rcases hd : (dropT u i E.id gv rows).1 with _ | _
                        · have HD := Lib.hid hd
                          clear hd
                          go_wp2_with fail
                          go_meet
                          case rel => exact ⟨_, _, _, _, _, C, rfl, HS9.out, HL9.out, drops_more HDR.out, by have h := HM.out; rw [HD.out] at h; exact h⟩
                        · have HD := Lib.hid hd
                          clear hd
                          go_wp2_with (refine wpList_load_agg (cs := ltC L) 67 HS9.out.now Try.underlying67 rfl (lt_sz L) rfl _ rfl rfl ?_)
                          obtain ⟨k1, k2, k3, k4⟩ := sh_drop HL9.out HK.out.2.2.2 HKL.out.2 HDR.out HKL.out.1 u HU.out.1 i HU.out.2
                          refine (add16_any L u i 0 1 _ HU.out.1 HU.out.2 k1 k2 k3 k4).mono ?_
                          rintro e w11 ⟨rfl, hb11⟩
                          rw [addL_zero]
                          have HS11 := Lib.hid (HS9.out.on hb11)
                          have HL11 := Lib.hid (HL9.out.on hb11)
                          clear hb11 k1 k2 k3 k4
                          obtain ⟨L9, hL9⟩ : ∃ L9 : Lt, L9 = ⟨L.t, addL L.d u i 1, L.b⟩ := ⟨_, rfl⟩
                          rw [← hL9]
                          have HS12 := Lib.hid (HS11.out.set (L' := ⟨L.t, addL L.d u i 1, L.b⟩) (w' := w11.setRow b9 (ltC L9)) ((Fp.refl _ _).setRow (fun _ => rfl)) (by rw [← hL9]; exact setRow_heap _ _ _ _ _ _ HS11.out.now))
                          have HL12 := Lib.hid (HL11.out.set (w' := w11.setRow b9 (ltC L9)) ((Fp.refl _ _).setRow (fun _ => rfl)))
                          clear hL9 x2 x4
                          go_wp2_with (refine wpList_store_row rfl 67 _ _ rfl b9 (ltC L9) rfl rfl 67 _ HS11.out.now (lt_sz L9) rfl (lt_one L9) ?_)
                          go_meet
                          case rel => exact ⟨_, _, _, L.t, addL L.d u i 1, C, rfl, HS12.out, HL12.out, drops_add HDR.out u i, by have h := HM.out; rw [HD.out, if_pos rfl] at h; exact h⟩
                case rest =>
                  obtain ⟨gv', rows', ρ', t', d', C', rfl, hS6, hL6, hdr6, hM⟩ := hcut
                  have HM := Lib.hid hM
                  have HS6 := Lib.hid hS6
                  have HL6 := Lib.hid hL6
                  have HD6 := Lib.hid hdr6
                  clear hS6 hL6 hM hdr6 x0
                  go_wp2_with (refine wpList_load_agg (cs := ltC ⟨t', d', L.b⟩) 67 HS6.out.now Try.underlying67 rfl (lt_sz _) rfl _ rfl rfl ?_)
                  refine (waits16_any (pre := [0]) ⟨t', d', L.b⟩ _ HS6.out.st.ring).mono ?_
                  rintro e w7 ⟨b', rfl, hb7, hbb⟩
                  have HBB := Lib.hid hbb
                  have HS7 := Lib.hid (HS6.out.on hb7)
                  have HL7 := Lib.hid (HL6.out.on hb7)
                  clear hbb hb7
                  go_upto_region 37 with (refine wpList_store_row rfl 67 _ _ rfl b9 (ltC ⟨t', d', b'⟩) rfl rfl 67 _ HS7.out.now (lt_sz _) rfl (lt_one _) ?_)
                  obtain ⟨L9, hL9⟩ : ∃ L9 : Lt, L9 = ⟨t', d', b'⟩ := ⟨_, rfl⟩
                  rw [← hL9]
                  obtain ⟨w8, hw8⟩ : ∃ w8 : World, w8 = w7.setRow b9 (ltC L9) := ⟨_, rfl⟩
                  rw [← hw8]
                  have hF8 : Fp (fun j => j = b9) w7 w8 := by rw [hw8]; exact (Fp.refl _ _).setRow (fun _ => rfl)
                  have HS8 := Lib.hid (HS7.out.set (L' := ⟨t', d', b'⟩) hF8 (by rw [hw8, hL9]; exact setRow_heap _ _ _ _ _ _ HS7.out.now))
                  have HL8 := Lib.hid (HL7.out.set hF8)
                  have HL9E := Lib.hid hL9
                  have HN8 := Lib.hid (show w8.heap[b9]? = some (.cells (ltC L9) 67 (0, 0)) by rw [hw8]; exact setRow_heap _ _ _ _ _ _ HS7.out.now)
                  clear hw8 hF8 hL9
                  have hgl : (gs.map Prod.fst).length ≤ 101 := by rw [List.length_map]; have := HK.out.2.2.1; have := HLEN.out; omega
                  have hc1 : W.heap.size ≤ w8.heap.size := HS8.out.st.below.size
                  have hc2 : (gs.map Prod.fst).length < 140737488355328 := by omega
                  have hc3 : ((gs.map Prod.fst).length + 1) * 208 ≤ 140737488355328 := by omega
                  go_upto_region 38 with (first
                    | (refine wpList_load_agg (cs := #[.int .i64 (L9.t 0 0), .int .i64 (L9.t 0 1), .int .i64 (L9.t 0 2), .int .i64 (L9.t 0 3), .int .i64 (L9.t 1 0), .int .i64 (L9.t 1 1), .int .i64 (L9.t 1 2), .int .i64 (L9.t 1 3), .int .i64 (L9.t 2 0), .int .i64 (L9.t 2 1), .int .i64 (L9.t 2 2), .int .i64 (L9.t 2 3), .int .i64 (L9.d 0 0), .int .i64 (L9.d 0 1), .int .i64 (L9.d 0 2), .int .i64 (L9.d 0 3), .int .i64 (L9.d 1 0), .int .i64 (L9.d 1 1), .int .i64 (L9.d 1 2), .int .i64 (L9.d 1 3), .int .i64 (L9.d 2 0), .int .i64 (L9.d 2 1), .int .i64 (L9.d 2 2), .int .i64 (L9.d 2 3), .bool (L9.b 0 0), .bool (L9.b 0 1), .bool (L9.b 0 2), .bool (L9.b 0 3), .bool (L9.b 1 0), .bool (L9.b 1 1), .bool (L9.b 1 2), .bool (L9.b 1 3), .bool (L9.b 2 0), .bool (L9.b 2 1), .bool (L9.b 2 2), .bool (L9.b 2 3)]) 67 HN8.out Try.underlying67 rfl (lt_sz L9) rfl _ rfl rfl ?_)
                    | (at_builtin; rw [← ltC_eq L9]; refine wpList_append_at (us := ltC L9) rfl _ _ 68 rfl W.heap.size _ 36 208 Try.underlying68 lt_info rfl (by decide) u11 (gs.map Prod.fst).length (flatLt (gs.map Prod.fst)) rfl HL8.out.own rfl rfl (by exact lt_ones L9) ?c1 ?c2 ?c3 ?_; (case c1 => exact hc1); (case c2 => exact hc2); (case c3 => exact hc3); intro gg gcap w10 hown10 hg10 hat10))
                  have hnext := sh_next HS8.out HL8.out HK.out.2.2.2 HM.out HBB.out (by rw [HL9E.out] at hown10; exact hown10) hg10 hat10
                  have HS10 := Lib.hid hnext.1
                  have HL10 := Lib.hid hnext.2
                  clear hown10 hg10 hat10 hnext hc1 hc2 hc3 hgl
                  go_wp2_with (refine wpList_load_agg (cs := w3C w3) 61 HS10.out.wts Try.underlying61 rfl (w3_sz w3) rfl _ rfl rfl ?_)
                  have hall := all_next HL10.out (sh_len HK.out.2.2.1 HLEN.out hlt) HQ1.out HQ2.out HW.out (sh_C HM.out HK.out.1)
                  refine hall.mono ?_
                  rintro e w11 ⟨rfl, hb11⟩
                  have HS11 := Lib.hid (HS10.out.on hb11)
                  have HL11 := Lib.hid (HL10.out.on hb11)
                  clear hb11 hall
                  go_wp2_with fail
                  go_roundg (l.length - (k + 1))
                  case rel => exact ⟨k + 1, ⟨t', d', b'⟩, _, _, _, _, C', rfl, by go_num, by omega, rfl, (sh_C HM.out HK.out.1).1, HM.out.out.top, sh_len2 HK.out.2.2.1, sh_last, HD6.out, HS11.out, HL11.out⟩
                  case measure => have := HG.out; omega
              · have hf2 : x.e.ten < 0 ∨ (¬ x.e.ten < 0 ∧ 2 < x.e.ten) ∨ (¬ x.e.ten < 0 ∧ ¬ 2 < x.e.ten ∧ x.e.inv < 0) ∨ (¬ x.e.ten < 0 ∧ ¬ 2 < x.e.ten ∧ ¬ x.e.inv < 0 ∧ 2 < x.e.inv) := by omega
                clear hf
                rcases hf2 with h1 | ⟨h1, h2⟩ | ⟨h1, h2, h3⟩ | ⟨h1, h2, h3, h4⟩
                all_goals
                  go_wp2_with fail
                  go_roundg (l.length - (k + 1))
                  case rel => exact ⟨k + 1, L, gv, rows, _, gs, C, rfl, by go_num, by omega, rfl, HK.out.1, HK.out.2.1, by have := HK.out.2.2.1; omega, HK.out.2.2.2, drops_more HDR.out, HS4.out.more, HL4.out⟩
                  case measure => have := HG.out; omega
            · go_wp2_with fail
              refine (live16_any _).mono ?_
              rintro e w2 ⟨rfl, hb2⟩
              have HB2 := Lib.hid (HS.out.st.below.trans (hb2.mono HS.out.st.below.size))
              clear hb2
              go_wp2_with fail
              go_ret
              exact ⟨rfl, HB2.out⟩
  · have HQ := Lib.hid hq
    clear hq
    go_enter Try.func7, Try.ntmps7
    go_wp2_with fail
    refine (shareNew_nil q _ HQ.out).mono ?_
    rintro e w1 ⟨rfl, hb1⟩
    have HB1 := Lib.hid (box_below2 hb1)
    clear hb1
    rcases hlen : decide (100 < (l.length : Int)) with _ | _
    all_goals
      go_wp2_with fail
      refine (live16_any _).mono ?_
      rintro e w2 ⟨rfl, hb2⟩
      have HB2 := Lib.hid (HB1.out.trans (hb2.mono HB1.out.size))
      clear hb2
      go_wp2_with fail
      go_ret
      exact ⟨rfl, HB2.out⟩
end Go.Proofs.Ytohkchilogmneaa
