/-
  law35.StateSame: the walk.
  StateSame: its row's closed facts, one by one.
-/
import Derived.Test.YtjmlimogmmikoaaGreatDoorSx13
import Derived.Test.YtjmlimogmmikoaaGreatDoorSx14
import Derived.Test.YtjmlimogmmikoaaGreatDoorSx11
import Derived.Test.YtjmlimogmmikoaaGreatDoorSx02
namespace Go.Proofs.YtjmlimogmmikoaaGreatDoor
open Go.RowKit
def eqNums (s t : Sta) : Bool := (s.now == t.now) && (s.dr == t.dr) && (s.ep == t.ep) && (s.nx == t.nx) && (s.lw == t.lw) && (s.li == t.li) && (s.sv == t.sv)
def eqSta (s t : Sta) : Bool := eqNums s t && (eqL eqOp s.live t.live && eqL eqOp s.ended t.ended && eqL eqWk s.wks t.wks && eqL eqIv s.invs t.invs) && (eqL eqRw s.hist t.hist && eqL eqLt s.lets t.lets && eqL eqWt s.wts t.wts) && eqL eqN s.pools t.pools
theorem eqWk_self (x : Wk) : eqWk x x = true := eqWk_iff.2 rfl
theorem eqIv_self (x : Ivn) : eqIv x x = true := eqIv_iff.2 rfl
theorem eqOp_self (x : Opr) : eqOp x x = true := eqOp_iff.2 rfl
theorem eqLt_self (x : Lt) : eqLt x x = true := eqLt_iff.2 rfl
theorem eqWt_self (x : Wtc) : eqWt x x = true := eqWt_iff.2 rfl
theorem eqIt_self (x : It) : eqIt x x = true := eqIt_iff.2 rfl
theorem eqFV_self (x : FRow × Value) : eqFV x x = true := by simp [eqFV, eqL_self eqIt_self]
theorem eqDV_self (x : DV) : eqDV x x = true := by simp [eqDV, eqL_self eqFV_self]
theorem eqSD_self (x : Int × QS) : eqSD x x = true := by simp [eqSD, eqL_self eqDV_self]
theorem eqN_self (x : QX) : eqN x x = true := by simp [eqN, eqL_self eqZ_self, eqL_self eqSD_self]
theorem eqSta_self (s : Sta) : eqSta s s = true := by
  simp [eqSta, eqNums, eqL_self eqOp_self, eqL_self eqWk_self, eqL_self eqIv_self, eqL_self eqRw_self, eqL_self eqLt_self, eqL_self eqWt_self, eqL_self eqN_self]
theorem rsta_info : (Tryz.prog.info? 35).map (·.size) = some 15 := by kernel_rfl
theorem Small.sizes {s : Sta} (h : Small s) : s.pools.length ≤ 1000 ∧ SizesB s.pools := ⟨by have := h.pools; omega, fun p hp => by
  obtain ⟨_, h2, h3⟩ := h.rows p hp
  refine ⟨by omega, fun y hy => ?_⟩
  obtain ⟨h4, h5⟩ := h3 y hy
  exact ⟨by omega, fun d hd => by have := (h5 d hd).1; omega⟩⟩
theorem r35same_of (s t : Sta) (V U : StV) (w : World) (h : StaAt w s V) (h' : StaAt w t U) (hs : Small s) : Calls Tryz.prog 13 #[.agg (staC s V), .agg (staC t U)] w (BoolPost (eqSta s t) w) := by
  have key := r35same_raw s.now s.ep s.nx s.lw s.li s.sv t.now t.ep t.nx t.lw t.li t.sv s.dr t.dr V.live V.ended V.wks V.invs V.pools V.hist V.lets V.wts U.live U.ended U.wks U.invs U.pools U.hist U.lets U.wts
    (eqL eqOp s.live t.live) (eqL eqOp s.ended t.ended) (eqL eqWk s.wks t.wks) (eqL eqIv s.invs t.invs) (eqL eqN s.pools t.pools) (eqL eqRw s.hist t.hist) (eqL eqLt s.lets t.lets) (eqL eqWt s.wts t.wts) (eqNums s t) _ w rfl rfl
    (fun w' hb => doeqOp _ _ _ _ w' (h.live.below hb) (h'.live.below hb) (by have := hs.live; omega))
    (fun w' hb => doeqOp _ _ _ _ w' (h.ended.below hb) (h'.ended.below hb) (by have := hs.ended; omega))
    (fun w' hb => doeqWk _ _ _ _ w' (h.wks.below hb) (h'.wks.below hb) (by have := hs.wks; omega))
    (fun w' hb => doeqIv _ _ _ _ w' (h.invs.below hb) (h'.invs.below hb) (by have := hs.invs; omega))
    (fun w' hb => needs35_any _ _ _ _ w' (h.pools.below hb) (h'.pools.below hb) (fun p hp => (h.rows p hp).below hb) (fun p hp => (h'.rows p hp).below hb) (by have := hs.pools; omega) hs.rows)
    (fun w' hb => doeqRw _ _ _ _ w' (h.hist.below hb) (h'.hist.below hb) (by have := hs.hist; omega))
    (fun w' hb => doeqLt _ _ _ _ w' (h.lets.below hb) (h'.lets.below hb) (by have := hs.lets; omega))
    (fun w' hb => doeqWt _ _ _ _ w' (h.wts.below hb) (h'.wts.below hb) (by have := hs.wts; omega))
  refine key.mono ?_
  rintro e w' ⟨rfl, hb⟩
  refine ⟨?_, hb⟩
  unfold eqSta
  simp only [Bool.and_assoc]
theorem stsame_of (s t : Sta) (V U : StV) (vp vq : Value) (P Q : List PoR) (w : World) (h : StaAt w s V) (h' : StaAt w t U) (hp : PosAt w vp s.pools P) (hq : PosAt w vq t.pools Q) (hs : Small s) : Calls Tryz.prog 12 #[.agg (staC s (V.po vp)), .agg (staC t (U.po vq))] w (BoolPost (eqSta s t) w) :=
  stsame_raw s.now s.ep s.nx s.lw s.li s.sv t.now t.ep t.nx t.lw t.li t.sv s.dr t.dr V.live V.ended V.wks V.invs vp V.hist V.lets V.wts U.live U.ended U.wks U.invs vq U.hist U.lets U.wts
    (eqL eqOp s.live t.live) (eqL eqOp s.ended t.ended) (eqL eqWk s.wks t.wks) (eqL eqIv s.invs t.invs) (eqL eqN s.pools t.pools) (eqL eqRw s.hist t.hist) (eqL eqLt s.lets t.lets) (eqL eqWt s.wts t.wts) (eqNums s t) _ _ w rfl rfl rfl
    (fun w' hb => sleqOp _ _ _ _ w' (h.live.below hb) (h'.live.below hb) (by have := hs.live; omega))
    (fun w' hb => sleqOp _ _ _ _ w' (h.ended.below hb) (h'.ended.below hb) (by have := hs.ended; omega))
    (fun w' hb => sleqWk _ _ _ _ w' (h.wks.below hb) (h'.wks.below hb) (by have := hs.wks; omega))
    (fun w' hb => sleqIv _ _ _ _ w' (h.invs.below hb) (h'.invs.below hb) (by have := hs.invs; omega))
    (fun w' hb => eqPools _ _ _ _ P Q w' (hp.below hb) (hq.below hb) (fun p hp => (h.rows p hp).below hb) (fun p hp => (h'.rows p hp).below hb) (by have := hs.pools; omega) hs.rows)
    (fun w' hb => sleqRw _ _ _ _ w' (h.hist.below hb) (h'.hist.below hb) (by have := hs.hist; omega))
    (fun w' hb => sleqLt _ _ _ _ w' (h.lets.below hb) (h'.lets.below hb) (by have := hs.lets; omega))
    (fun w' hb => sleqWt _ _ _ _ w' (h.wts.below hb) (h'.wts.below hb) (by have := hs.wts; omega))
theorem to35_small (s : Sta) (V : StV) (w : World) (h : StaAt w s V) (hs : Small s) : Calls Tryz.prog 10 #[.agg (staC s V)] w fun e w' => ∃ vp T, e = .returned (.agg (staC s (V.po vp))) ∧ PosAt w' vp s.pools T ∧ Below w.heap.size w w' := to35_any s V w h hs.sizes.1 hs.sizes.2
set_option maxRecDepth 100000 in
set_option maxHeartbeats 8000000 in
theorem same35_any (s t : Sta) (V U : StV) (w : World) (hr : Ready w) (h : StaAt w s V) (h' : StaAt w t U) (hf : StaFew s) (hf' : StaFew t) : Calls Tryz.prog 4 #[.agg (staC s V), .agg (staC t U)] w (TrueBelow w) := by
  have HR := Lib.hid hr
  have HA := Lib.hid h
  have HBT := Lib.hid h'
  have HF := Lib.hid hf
  have HF2 := Lib.hid hf'
  have hg0 : ((w.alloc (.cells (staC s V) 35)).alloc (.cells (staC t U) 35)).heap[w.heap.size]? = some (.cells (staC s V) 35 (0, 0)) := fr_alloc_old (heap_alloc_new _ _)
  have hg1 : ((w.alloc (.cells (staC s V) 35)).alloc (.cells (staC t U) 35)).heap[w.heap.size + 1]? = some (.cells (staC t U) 35 (0, 0)) := heap_alloc_two _ _ _
  have hb : Below w.heap.size w ((w.alloc (.cells (staC s V) 35)).alloc (.cells (staC t U) 35)) := box_below.alloc (by simp) _
  clear hr h h' hf hf'
  go_enter Tryz.func4, Tryz.ntmps4
  go_upto_region 1 with fail
  generalize ((w.alloc (.cells (staC s V) 35)).alloc (.cells (staC t U) 35)) = W2 at hg0 hg1 hb ⊢
  have HG0 := Lib.hid hg0
  have HG1 := Lib.hid hg1
  have HB := Lib.hid hb
  clear hg0 hg1 hb
  go_wp2_with (refine wpList_load_agg 35 HG0.out Tryz.underlying35 rfl rsta_info rfl _ rfl rfl ?_)
  refine (large35_any s V _ (HA.out.below HB.out) HF.out).mono ?_
  rintro e w4 ⟨r4, rfl, hr4, hb4⟩
  have HB4 := Lib.hid (HB.out.trans (hb4.mono HB.out.size))
  have HS4 := Lib.hid hr4
  have HG04 := Lib.hid ((hb4.block _ (Array.getElem?_eq_some_iff.1 HG0.out).1).trans HG0.out)
  have HG14 := Lib.hid ((hb4.block _ (Array.getElem?_eq_some_iff.1 HG1.out).1).trans HG1.out)
  clear hb4 hr4 HG0 HG1 HB
  rcases r4 with _ | _
  rotate_left 1
  · go_wp2_with fail
    refine (live35_any _ (HR.out.below HB4.out)).mono ?_
    rintro e w5 ⟨rfl, hb5⟩
    go_wp2_with fail
    go_ret
    exact ⟨rfl, HB4.out.trans (hb5.mono HB4.out.size)⟩
  have HS := Lib.hid (HS4.out rfl)
  go_wp2_with (refine wpList_load_agg 35 HG14.out Tryz.underlying35 rfl rsta_info rfl _ rfl rfl ?_)
  refine (large35_any t U _ (HBT.out.below HB4.out) HF2.out).mono ?_
  rintro e w7 ⟨r7, rfl, hr7, hb7⟩
  have HB7' := Lib.hid (HB4.out.trans (hb7.mono HB4.out.size))
  have HS7 := Lib.hid hr7
  have hg0 := (hb7.block _ (Array.getElem?_eq_some_iff.1 HG04.out).1).trans HG04.out
  have hg1 := (hb7.block _ (Array.getElem?_eq_some_iff.1 HG14.out).1).trans HG14.out
  have R0 := Lib.hid (show w7.drew.rangeAt w.heap.size 0 (staC s V).toList from fun j u hj => by rw [Nat.zero_add]; exact fr_cell_of_heap (w := w7) hg0 (by simpa using hj))
  have R1 := Lib.hid (show w7.drew.rangeAt (w.heap.size + 1) 0 (staC t U).toList from fun j u hj => by rw [Nat.zero_add]; exact fr_cell_of_heap (w := w7) hg1 (by simpa using hj))
  clear hb7 hr7 HG04 HG14 HB4 HS4 hg0 hg1
  rcases r7 with _ | _
  rotate_left 1
  · go_wp2_with fail
    refine (live35_any _ (HR.out.below HB7'.out)).mono ?_
    rintro e w5 ⟨rfl, hb5⟩
    go_wp2_with fail
    go_ret
    exact ⟨rfl, HB7'.out.trans (hb5.mono HB7'.out.size)⟩
  have HT := Lib.hid (HS7.out rfl)
  have HB7 := Lib.hid HB7'.out.drew
  clear HB7' HS7
  go_upto_region 3 with fail
  refine wp_region_noPanic ?_
  refine wp_region_any (by kernel_rfl) ?_
  change wpAny _ _ _ _ _ _ _ (World.drew _)
  refine wpAny_of_held (S := (fun w2 => w2.rangeAt w.heap.size 0 (staC s V).toList ∧ w2.rangeAt (w.heap.size + 1) 0 (staC t U).toList)) _ _ _ _ ?_
  have hHeld : (fun w2 => w2.rangeAt w.heap.size 0 (staC s V).toList ∧ w2.rangeAt (w.heap.size + 1) 0 (staC t U).toList) w7.drew := ⟨R0.out, R1.out⟩
  refine wpAnyH_take (i := 0) (oi := ⟨some 12, _, _, _, _, _⟩) (v := .agg (staC s V)) rfl (by kernel_rfl) (by kernel_rfl) (by kernel_rfl) (fun _ _ _ h => h) (yieldsIf_load_mid (by rfl) 35 _ rfl w.heap.size 0 rfl (staC s V).toList _ (fun w2 hw => hw.1) Tryz.underlying35 rfl rsta_info) (by assumption) ?_
  try simp only [Act.put, List.setIfInBounds_toArray, List.set_cons_zero, List.set_cons_succ]
  refine wpAnyH_take (i := 2) (oi := ⟨some 14, _, _, _, _, _⟩) (v := .agg (staC t U)) rfl (by kernel_rfl) (by kernel_rfl) (by kernel_rfl) (fun _ _ _ h => h) (yieldsIf_load_mid (by rfl) 35 _ rfl (w.heap.size + 1) 0 rfl (staC t U).toList _ (fun w2 hw => hw.2) Tryz.underlying35 rfl rsta_info) (by assumption) ?_
  try simp only [Act.put, List.setIfInBounds_toArray, List.set_cons_zero, List.set_cons_succ]
  refine wpAnyH_take (i := 5) (oi := ⟨some 17, _, _, _, _, _⟩) (v := .agg (staC s V)) rfl (by kernel_rfl) (by kernel_rfl) (by kernel_rfl) (fun _ _ _ h => h) (yieldsIf_load_mid (by rfl) 35 _ rfl w.heap.size 0 rfl (staC s V).toList _ (fun w2 hw => hw.1) Tryz.underlying35 rfl rsta_info) (by assumption) ?_
  try simp only [Act.put, List.setIfInBounds_toArray, List.set_cons_zero, List.set_cons_succ]
  refine wpAnyH_take (i := 6) (oi := ⟨some 18, _, _, _, _, _⟩) (v := .agg (staC t U)) rfl (by kernel_rfl) (by kernel_rfl) (by kernel_rfl) (fun _ _ _ h => h) (yieldsIf_load_mid (by rfl) 35 _ rfl (w.heap.size + 1) 0 rfl (staC t U).toList _ (fun w2 hw => hw.2) Tryz.underlying35 rfl rsta_info) (by assumption) ?_
  try simp only [Act.put, List.setIfInBounds_toArray, List.set_cons_zero, List.set_cons_succ]
  refine wpAnyH_ready (rs := [1]) (by kernel_rfl) (by simp) ?_
  refine AllReadyH.cons (o := ⟨some 13, _, _, _, _, _⟩) rfl (fun K hK => ?_) AllReadyH.nil
  go_simp
  refine (to35_small s V _ (HA.out.below HB7.out) HS.out).mono ?_
  rintro e w11 ⟨vp, P, rfl, hp, hb11⟩
  have hHeld11 : (fun w2 => w2.rangeAt w.heap.size 0 (staC s V).toList ∧ w2.rangeAt (w.heap.size + 1) 0 (staC t U).toList) w11 := ⟨fun j u hj => cell_below hb11 (hHeld.1 j u hj), fun j u hj => cell_below hb11 (hHeld.2 j u hj)⟩
  have HB11 := Lib.hid (HB7.out.trans (hb11.mono HB7.out.size))
  have HP11 := Lib.hid hp
  clear hp
  refine hK.out _ _ hHeld11 (fun hHeld => ?_)
  clear hK K
  try simp only [Act.put, List.setIfInBounds_toArray, List.set_cons_zero, List.set_cons_succ]
  clear hHeld11 hb11
  refine wpAnyH_ready (rs := [3]) (by kernel_rfl) (by simp) ?_
  refine AllReadyH.cons (o := ⟨some 15, _, _, _, _, _⟩) rfl (fun K hK => ?_) AllReadyH.nil
  go_simp
  refine (to35_small t U _ (HBT.out.below HB11.out) HT.out).mono ?_
  rintro e w12 ⟨vq, Q, rfl, hq, hb12⟩
  have hHeld12 : (fun w2 => w2.rangeAt w.heap.size 0 (staC s V).toList ∧ w2.rangeAt (w.heap.size + 1) 0 (staC t U).toList) w12 := ⟨fun j u hj => cell_below hb12 (hHeld.1 j u hj), fun j u hj => cell_below hb12 (hHeld.2 j u hj)⟩
  have HB12 := Lib.hid (HB11.out.trans (hb12.mono HB11.out.size))
  have HP12 := Lib.hid hq
  clear hq
  have HQ11 := Lib.hid (HP11.out.below hb12)
  refine hK.out _ _ hHeld12 (fun hHeld => ?_)
  clear hK K
  try simp only [Act.put, List.setIfInBounds_toArray, List.set_cons_zero, List.set_cons_succ]
  clear hHeld12 hb12
  refine wpAnyH_ready (rs := [4]) (by kernel_rfl) (by simp) ?_
  refine AllReadyH.cons (o := ⟨some 16, _, _, _, _, _⟩) rfl (fun K hK => ?_) AllReadyH.nil
  go_simp
  refine (stsame_of s t V U vp vq P Q _ (HA.out.below HB12.out) (HBT.out.below HB12.out) HQ11.out HP12.out HS.out).mono ?_
  rintro e w13 ⟨rfl, hb13⟩
  have hHeld13 : (fun w2 => w2.rangeAt w.heap.size 0 (staC s V).toList ∧ w2.rangeAt (w.heap.size + 1) 0 (staC t U).toList) w13 := ⟨fun j u hj => cell_below hb13 (hHeld.1 j u hj), fun j u hj => cell_below hb13 (hHeld.2 j u hj)⟩
  have HB13 := Lib.hid (HB12.out.trans (hb13.mono HB12.out.size))
  refine hK.out _ _ hHeld13 (fun hHeld => ?_)
  clear hK K
  try simp only [Act.put, List.setIfInBounds_toArray, List.set_cons_zero, List.set_cons_succ]
  clear hHeld13 hb13
  refine wpAnyH_ready (rs := [7]) (by kernel_rfl) (by simp) ?_
  refine AllReadyH.cons (o := ⟨some 19, _, _, _, _, _⟩) rfl (fun K hK => ?_) AllReadyH.nil
  go_simp
  refine (r35same_of s t V U _ (HA.out.below HB13.out) (HBT.out.below HB13.out) HS.out).mono ?_
  rintro e w14 ⟨rfl, hb14⟩
  have hHeld14 : (fun w2 => w2.rangeAt w.heap.size 0 (staC s V).toList ∧ w2.rangeAt (w.heap.size + 1) 0 (staC t U).toList) w14 := ⟨fun j u hj => cell_below hb14 (hHeld.1 j u hj), fun j u hj => cell_below hb14 (hHeld.2 j u hj)⟩
  have HB14 := Lib.hid (HB13.out.trans (hb14.mono HB13.out.size))
  refine hK.out _ _ hHeld14 (fun hHeld => ?_)
  clear hK K
  try simp only [Act.put, List.setIfInBounds_toArray, List.set_cons_zero, List.set_cons_succ]
  clear hHeld14 hb14
  generalize hq : eqSta s t = q
  have hqq : (q == q) = true := by simp
  clear hq
  refine wpAnyH_take (i := 8) (oi := ⟨some 20, _, _, _, _, _⟩) (v := ?_) rfl (by kernel_rfl) (by kernel_rfl) (by kernel_rfl) (fun _ _ _ h => h) (Or.inl ⟨by rfl, ?_⟩) (by assumption) ?_
  rotate_left 1
  · intro w hSw
    try dsimp only at hSw
    go_simp
    try with_reducible rfl
  try simp only [Act.put, List.setIfInBounds_toArray, List.set_cons_zero, List.set_cons_succ]
  refine wpAnyH_take (i := 9) (oi := ⟨some 21, _, _, _, _, _⟩) (v := ?_) rfl (by kernel_rfl) (by kernel_rfl) (by kernel_rfl) (fun _ _ _ h => h) (Or.inl ⟨by rfl, ?_⟩) (by assumption) ?_
  rotate_left 1
  · intro w hSw
    try dsimp only at hSw
    go_simp
    try with_reducible rfl
  try simp only [Act.put, List.setIfInBounds_toArray, List.set_cons_zero, List.set_cons_succ]
  refine wpAnyH_take (i := 10) (oi := ⟨some 22, _, _, _, _, _⟩) (v := .agg (staC s V)) rfl (by kernel_rfl) (by kernel_rfl) (by kernel_rfl) (fun _ _ _ h => h) (yieldsIf_load_mid (by rfl) 35 _ rfl w.heap.size 0 rfl (staC s V).toList _ (fun w2 hw => hw.1) Tryz.underlying35 rfl rsta_info) (by assumption) ?_
  try simp only [Act.put, List.setIfInBounds_toArray, List.set_cons_zero, List.set_cons_succ]
  refine wpAnyH_take (i := 12) (oi := ⟨some 24, _, _, _, _, _⟩) (v := .agg (staC s V)) rfl (by kernel_rfl) (by kernel_rfl) (by kernel_rfl) (fun _ _ _ h => h) (yieldsIf_load_mid (by rfl) 35 _ rfl w.heap.size 0 rfl (staC s V).toList _ (fun w2 hw => hw.1) Tryz.underlying35 rfl rsta_info) (by assumption) ?_
  try simp only [Act.put, List.setIfInBounds_toArray, List.set_cons_zero, List.set_cons_succ]
  refine wpAnyH_ready (rs := [11]) (by kernel_rfl) (by simp) ?_
  refine AllReadyH.cons (o := ⟨some 23, _, _, _, _, _⟩) rfl (fun K hK => ?_) AllReadyH.nil
  go_simp
  refine (to35_small s V _ (HA.out.below HB14.out) HS.out).mono ?_
  rintro e w15 ⟨vp2, P2, rfl, hp, hb15⟩
  have hHeld15 : (fun w2 => w2.rangeAt w.heap.size 0 (staC s V).toList ∧ w2.rangeAt (w.heap.size + 1) 0 (staC t U).toList) w15 := ⟨fun j u hj => cell_below hb15 (hHeld.1 j u hj), fun j u hj => cell_below hb15 (hHeld.2 j u hj)⟩
  have HB15 := Lib.hid (HB14.out.trans (hb15.mono HB14.out.size))
  have HP15 := Lib.hid hp
  clear hp
  refine hK.out _ _ hHeld15 (fun hHeld => ?_)
  clear hK K
  try simp only [Act.put, List.setIfInBounds_toArray, List.set_cons_zero, List.set_cons_succ]
  clear hHeld15 hb15
  refine wpAnyH_ready (rs := [13]) (by kernel_rfl) (by simp) ?_
  refine AllReadyH.cons (o := ⟨some 25, _, _, _, _, _⟩) rfl (fun K hK => ?_) AllReadyH.nil
  go_simp
  refine (to35_small s V _ (HA.out.below HB15.out) HS.out).mono ?_
  rintro e w16 ⟨vq2, Q2, rfl, hq, hb16⟩
  have hHeld16 : (fun w2 => w2.rangeAt w.heap.size 0 (staC s V).toList ∧ w2.rangeAt (w.heap.size + 1) 0 (staC t U).toList) w16 := ⟨fun j u hj => cell_below hb16 (hHeld.1 j u hj), fun j u hj => cell_below hb16 (hHeld.2 j u hj)⟩
  have HB16 := Lib.hid (HB15.out.trans (hb16.mono HB15.out.size))
  have HP16 := Lib.hid hq
  clear hq
  have HQ15 := Lib.hid (HP15.out.below hb16)
  refine hK.out _ _ hHeld16 (fun hHeld => ?_)
  clear hK K
  try simp only [Act.put, List.setIfInBounds_toArray, List.set_cons_zero, List.set_cons_succ]
  clear hHeld16 hb16
  refine wpAnyH_ready (rs := [14]) (by kernel_rfl) (by simp) ?_
  refine AllReadyH.cons (o := ⟨some 26, _, _, _, _, _⟩) rfl (fun K hK => ?_) AllReadyH.nil
  go_simp
  refine (stsame_of s s V V vp2 vq2 P2 Q2 _ (HA.out.below HB16.out) (HA.out.below HB16.out) HQ15.out HP16.out HS.out).mono ?_
  rintro e w17 ⟨rfl, hb17⟩
  have hHeld17 : (fun w2 => w2.rangeAt w.heap.size 0 (staC s V).toList ∧ w2.rangeAt (w.heap.size + 1) 0 (staC t U).toList) w17 := ⟨fun j u hj => cell_below hb17 (hHeld.1 j u hj), fun j u hj => cell_below hb17 (hHeld.2 j u hj)⟩
  have HB17 := Lib.hid (HB16.out.trans (hb17.mono HB16.out.size))
  refine hK.out _ _ hHeld17 (fun hHeld => ?_)
  clear hK K
  try simp only [Act.put, List.setIfInBounds_toArray, List.set_cons_zero, List.set_cons_succ]
  clear hHeld17 hb17
  rw [eqSta_self]
  refine wpAnyH_take (i := 15) (oi := ⟨some 27, _, _, _, _, _⟩) (v := ?_) rfl (by kernel_rfl) (by kernel_rfl) (by kernel_rfl) (fun _ _ _ h => h) (Or.inl ⟨by rfl, ?_⟩) (by assumption) ?_
  rotate_left 1
  · intro w hSw
    try dsimp only at hSw
    go_simp
    try with_reducible rfl
  try simp only [Act.put, List.setIfInBounds_toArray, List.set_cons_zero, List.set_cons_succ]
  refine wpAnyH_take (i := 16) (oi := ⟨some 28, _, _, _, _, _⟩) (v := ?_) rfl (by kernel_rfl) (by kernel_rfl) (by kernel_rfl) (fun _ _ _ h => h) (Or.inl ⟨by rfl, ?_⟩) (by assumption) ?_
  rotate_left 1
  · intro w hSw
    try dsimp only at hSw
    go_simp
    try with_reducible rfl
  try simp only [Act.put, List.setIfInBounds_toArray, List.set_cons_zero, List.set_cons_succ]
  refine wpAnyH_ready (rs := [17]) (by kernel_rfl) (by simp) ?_
  refine AllReadyH.cons (o := ⟨some 29, _, _, _, _, _⟩) rfl (fun K hK => ?_) AllReadyH.nil
  go_simp
  refine (live35_any _ (HR.out.below HB17.out)).mono ?_
  rintro e w18 ⟨rfl, hb18⟩
  have hHeld18 : (fun w2 => w2.rangeAt w.heap.size 0 (staC s V).toList ∧ w2.rangeAt (w.heap.size + 1) 0 (staC t U).toList) w18 := ⟨fun j u hj => cell_below hb18 (hHeld.1 j u hj), fun j u hj => cell_below hb18 (hHeld.2 j u hj)⟩
  have HB18 := Lib.hid (HB17.out.trans (hb18.mono HB17.out.size))
  refine hK.out _ _ hHeld18 (fun hHeld => ?_)
  clear hK K
  try simp only [Act.put, List.setIfInBounds_toArray, List.set_cons_zero, List.set_cons_succ]
  clear hHeld18 hb18
  refine wpAnyH_take (i := 18) (oi := ⟨some 30, _, _, _, _, _⟩) (v := ?_) rfl (by kernel_rfl) (by kernel_rfl) (by kernel_rfl) (fun _ _ _ h => h) (Or.inl ⟨by rfl, ?_⟩) (by assumption) ?_
  rotate_left 1
  · intro w hSw
    try dsimp only at hSw
    go_simp
    try with_reducible rfl
  try simp only [Act.put, List.setIfInBounds_toArray, List.set_cons_zero, List.set_cons_succ]
  refine wpAnyH_take (i := 19) (oi := ⟨some 4, _, _, _, _, _⟩) (v := ?_) rfl (by kernel_rfl) (by kernel_rfl) (by kernel_rfl) (fun _ _ _ h => h) (Or.inl ⟨by rfl, ?_⟩) (by assumption) ?_
  rotate_left 1
  · intro w hSw
    try dsimp only at hSw
    go_simp
    try with_reducible rfl
  try simp only [Act.put, List.setIfInBounds_toArray, List.set_cons_zero, List.set_cons_succ]
  refine wpAnyH_done (by kernel_rfl) ?_ _
  refine NoPanic.normal ?_
  clear hHeld
  go_wp2_with fail
  go_ret
  exact ⟨rfl, HB18.out⟩
end Go.Proofs.YtjmlimogmmikoaaGreatDoor
namespace Go.Proofs.YtjmlimogmmikoaaGreatDoor.stateSame
open Go.RowKit Go.Proofs.YtjmlimogmmikoaaGreatDoor
theorem jf0 : (Rows.stateSameRow.wf (OpenSpec.ofChange (OpenSpec.ofChange Rows.stateSameSpec).bare)) = true := by kernel_rfl
theorem jf1 : (laidOutB Tryz.pinned.checked.prog) = true := by kernel_rfl
theorem jf2 : (mapsRowed Tryz.pinned.checked.prog) = true := by kernel_rfl
theorem jf3 : (Tryz.f4.params.all (Tryz.pinned.checked.prog.readableRec ·)) = true := by kernel_rfl
theorem jf4 : (namedTie Tryz.pinned.checked.prog Rows.stateSameRow.named (OpenSpec.ofChange Rows.stateSameSpec).bare.vars) = true := by kernel_rfl
theorem jf5 : ((Rows.stateSameRow.stops == [])) = true := by kernel_rfl
theorem jf6 : ((Tryz.pinned.checked.prog.stops == [])) = true := by kernel_rfl
theorem jf7 : ((Rows.stateSameRow.knobs == [])) = true := by kernel_rfl
theorem jf8 : ((Tryz.pinned.checked.prog.stopKnobs == [])) = true := by kernel_rfl
theorem jf9 : ((Rows.stateSameRow.inPlace == Tryz.pinned.checked.prog.inPlace 4)) = true := by kernel_rfl
theorem jf10 : ((Rows.stateSameRow.unfollowed == Tryz.pinned.checked.prog.unfollowed 4)) = true := by kernel_rfl
theorem jf11 : ((Rows.stateSameRow.recurses == Tryz.pinned.checked.prog.recurses 4)) = true := by kernel_rfl
theorem jf12 : ((Rows.stateSameRow.named == Tryz.pinned.checked.prog.varsNamed 4)) = true := by kernel_rfl
theorem jf13 : ((Rows.stateSameRow.maps == (Tryz.f4.params.toList ++ (OpenSpec.ofChange Rows.stateSameSpec).bare.plain.varTypes Tryz.pinned.checked.prog).any (Tryz.pinned.checked.prog.mapsRec ·))) = true := by kernel_rfl
theorem jf14 : ((Rows.stateSameRow.ifaces == (Tryz.f4.params.toList ++ (OpenSpec.ofChange Rows.stateSameSpec).bare.plain.varTypes Tryz.pinned.checked.prog).any (Tryz.pinned.checked.prog.ifacesRec ·))) = true := by kernel_rfl
theorem jf15 : ((Rows.stateSameRow.mapsOut == Tryz.pinned.checked.prog.mapsAmong Tryz.f4.resultTypes.toList)) = true := by kernel_rfl
theorem jf16 : ((Rows.stateSameRow.loops == (Tryz.f4.params.toList ++ (OpenSpec.ofChange Rows.stateSameSpec).bare.plain.varTypes Tryz.pinned.checked.prog).any (Tryz.pinned.checked.prog.loopsFrom ·))) = true := by kernel_rfl
theorem jf17 : ((Rows.stateSameRow.wideKeys == (Tryz.f4.params.toList ++ (OpenSpec.ofChange Rows.stateSameSpec).bare.plain.varTypes Tryz.pinned.checked.prog ++ Tryz.f4.resultTypes.toList).any (Tryz.pinned.checked.prog.wideKeysFrom ·))) = true := by kernel_rfl
theorem jf18 : ((OpenSpec.ofChange Rows.stateSameSpec).bare.vars.all (Tryz.pinned.checked.prog.varReadable ·)) = true := by kernel_rfl
theorem jf19 : (Tryz.f4.resultTypes.all (fun t => Tryz.pinned.checked.prog.readableRec t && decide (t < Tryz.pinned.checked.prog.types.size))) = true := by kernel_rfl
theorem jf20 : ((Rows.stateSameRow.ifacesOut == Tryz.f4.resultTypes.toList.any (Tryz.pinned.checked.prog.ifacesRec ·))) = true := by kernel_rfl
theorem jf21 : ((Rows.stateSameRow.loopsOut == Tryz.f4.resultTypes.toList.any (Tryz.pinned.checked.prog.loopsFrom ·))) = true := by kernel_rfl
theorem jf22 : ((Rows.stateSameRow.plainKeys == Tryz.pinned.checked.prog.plainKeys)) = true := by kernel_rfl
theorem jf23 : (Rows.stateSameRow.shortTexts.isNone) = true := by kernel_rfl
theorem jf24 : (Tryz.pinned.checked.prog.stopsHeard) = true := by kernel_rfl
theorem jf25 : (Tryz.pinned.checked.prog.mayEnter) = true := by kernel_rfl
theorem jf26 : ((Rows.stateSameRow.lifted == Tryz.pinned.checked.prog.liftsFinal)) = true := by kernel_rfl
theorem jf27 : ((Tryz.pinned.checked.prog.make == some Rows.stateSameRow.make)) = true := by kernel_rfl
theorem jf28 : ((Rows.stateSameRow.kinds == (if Rows.stateSameRow.domain.isEmpty then [] else Tryz.f4.params.toList.map fun t => match Tryz.pinned.checked.prog.underlying t with | some (.int k) => some k | _ => none))) = true := by kernel_rfl
theorem jf29 : ((Rows.stateSameRow.pinned == Rows.stateSameRow.pinnedBy)) = true := by kernel_rfl
theorem jf30 : ((Rows.stateSameRow.veiled == (Tryz.f4.params.toList ++ (OpenSpec.ofChange Rows.stateSameSpec).bare.plain.varTypes Tryz.pinned.checked.prog ++ Tryz.f4.resultTypes.toList).any (Tryz.pinned.checked.prog.veiledRec ·))) = true := by kernel_rfl
theorem jf31 : (Rows.stateSameRow.veiledFits Tryz.pinned.checked.prog Tryz.f4.params.toList (Tryz.f4.params.toList ++ (OpenSpec.ofChange Rows.stateSameSpec).bare.plain.varTypes Tryz.pinned.checked.prog ++ Tryz.f4.resultTypes.toList)) = true := by kernel_rfl
theorem jfand {a b : Bool} (h1 : a = true) (h2 : b = true) : (a && b) = true := by rw [h1, h2]; rfl
set_option maxRecDepth 100000 in
theorem facts : joinedFacts Tryz.pinned.checked.prog 4 Tryz.f4 (OpenSpec.ofChange Rows.stateSameSpec).bare Rows.stateSameRow = true := by
  unfold joinedFacts
  exact jfand (jfand (jfand (jfand (jfand (jfand (jfand (jfand (jfand (jfand (jfand (jfand (jfand (jfand (jfand (jfand (jfand (jfand (jfand (jfand (jfand (jfand (jfand (jfand (jfand (jfand (jfand (jfand (jfand (jfand (jfand (jf0) jf1) jf2) jf3) jf4) jf5) jf6) jf7) jf8) jf9) jf10) jf11) jf12) jf13) jf14) jf15) jf16) jf17) jf18) jf19) jf20) jf21) jf22) jf23) jf24) jf25) jf26) jf27) jf28) jf29) jf30) jf31
end Go.Proofs.YtjmlimogmmikoaaGreatDoor.stateSame
