/-
  law16.add, law16.waits, law16.all: the walks.
-/
import Derived.Test.YtohkchilogmneaaSNear
import Derived.Test.YtohkchilogmneaaFairT3
namespace Go.Proofs.Ytohkchilogmneaa
open Go.RowKit

def lt0 : Lt := ⟨fun _ _ => 0, fun _ _ => 0, fun _ _ => false⟩
theorem lt0_C : ltC lt0 = #[.int .i64 0, .int .i64 0, .int .i64 0, .int .i64 0, .int .i64 0, .int .i64 0, .int .i64 0, .int .i64 0, .int .i64 0, .int .i64 0, .int .i64 0, .int .i64 0, .int .i64 0, .int .i64 0, .int .i64 0, .int .i64 0, .int .i64 0, .int .i64 0, .int .i64 0, .int .i64 0, .int .i64 0, .int .i64 0, .int .i64 0, .int .i64 0, .bool false, .bool false, .bool false, .bool false, .bool false, .bool false, .bool false, .bool false, .bool false, .bool false, .bool false, .bool false] := rfl
def upd2 {α : Type} (f : Int → Int → α) (u i : Int) (n : α) : Int → Int → α := fun u' i' => if u' = u ∧ i' = i then n else f u' i'
theorem upd2_same {α : Type} {f : Int → Int → α} {u i : Int} {n : α} : upd2 f u i n u i = n := by unfold upd2; rw [if_pos ⟨rfl, rfl⟩]
theorem upd2_other {α : Type} {f : Int → Int → α} {u i u' i' : Int} {n : α} (h : ¬ (u' = u ∧ i' = i)) : upd2 f u i n u' i' = f u' i' := by unfold upd2; rw [if_neg h]
theorem lt_setT (L : Lt) {u i : Nat} (hu : u < 3) (hi : i < 4) (n : Int) : (ltC L).setIfInBounds (u * 4 + i) (.int .i64 n) = ltC { L with t := upd2 L.t u i n } := by
  match u, i, hu, hi with
  | 0, 0, _, _ => rfl
  | 0, 1, _, _ => rfl
  | 0, 2, _, _ => rfl
  | 0, 3, _, _ => rfl
  | 1, 0, _, _ => rfl
  | 1, 1, _, _ => rfl
  | 1, 2, _, _ => rfl
  | 1, 3, _, _ => rfl
  | 2, 0, _, _ => rfl
  | 2, 1, _, _ => rfl
  | 2, 2, _, _ => rfl
  | 2, 3, _, _ => rfl
theorem lt_setD (L : Lt) {u i : Nat} (hu : u < 3) (hi : i < 4) (n : Int) : (ltC L).setIfInBounds (12 + u * 4 + i) (.int .i64 n) = ltC { L with d := upd2 L.d u i n } := by
  match u, i, hu, hi with
  | 0, 0, _, _ => rfl
  | 0, 1, _, _ => rfl
  | 0, 2, _, _ => rfl
  | 0, 3, _, _ => rfl
  | 1, 0, _, _ => rfl
  | 1, 1, _, _ => rfl
  | 1, 2, _, _ => rfl
  | 1, 3, _, _ => rfl
  | 2, 0, _, _ => rfl
  | 2, 1, _, _ => rfl
  | 2, 2, _, _ => rfl
  | 2, 3, _, _ => rfl
theorem lt_setB (L : Lt) {u i : Nat} (hu : u < 3) (hi : i < 4) (n : Bool) : (ltC L).setIfInBounds (24 + u * 4 + i) (.bool n) = ltC { L with b := upd2 L.b u i n } := by
  match u, i, hu, hi with
  | 0, 0, _, _ => rfl
  | 0, 1, _, _ => rfl
  | 0, 2, _, _ => rfl
  | 0, 3, _, _ => rfl
  | 1, 0, _, _ => rfl
  | 1, 1, _, _ => rfl
  | 1, 2, _, _ => rfl
  | 1, 3, _, _ => rfl
  | 2, 0, _, _ => rfl
  | 2, 1, _, _ => rfl
  | 2, 2, _, _ => rfl
  | 2, 3, _, _ => rfl
theorem addL_two {f : Int → Int → Int} {u i c : Int} (hi : i ≠ 3) : upd2 (upd2 f u i (f u i + c)) u 3 (f u 3 + c) = addL f u i c := by
  funext a b
  unfold upd2 addL
  by_cases e : a = u
  · subst e
    by_cases e3 : b = 3
    · subst e3
      simp
    · by_cases e4 : b = i
      · subst e4
        simp [e3]
      · simp [e3, e4]
  · simp [e]
/-- A look in a block, and the result's block. -/
structure LtB (w w' : World) (g r : Nat) (L : Lt) (zs : Array Value) : Prop where
  below : Below w.heap.size w w'
  gl : w.heap.size ≤ g
  gr : g ≠ r
  at0 : w'.heap[g]? = some (.cells (ltC L) 67 (0, 0))
  res : w'.heap[r]? = some (.cells zs 67 (0, 0))
theorem LtB.set {w w' w'' : World} {g r : Nat} {L L' : Lt} {zs : Array Value} (h : LtB w w' g r L zs) {j : Nat} {v : Value} (hw : w'' = (w'.setCell ⟨g, j, none⟩ v).drew) (hL : (ltC L).setIfInBounds j v = ltC L') : LtB w w'' g r L' zs := by
  have hF : Fp (fun k => k = g) w' w'' := by rw [hw]; exact ((Fp.refl (fun k => k = g) w').setCell (p := ⟨g, j, none⟩) (fun _ => rfl) _).drew
  refine ⟨h.below.trans (hF.below h.below.size (fun k hk e => by have := h.gl; omega)), h.gl, h.gr, by rw [hw, ← hL]; exact fr_setCell_at h.at0, hF.heap h.res (fun e => h.gr e.symm)⟩
theorem LtB.drewN {w w' : World} {g r : Nat} {L : Lt} {zs : Array Value} (h : LtB w w' g r L zs) (n : Nat) : LtB w (w'.drewN n) g r L zs := ⟨below_drewN h.below n, h.gl, h.gr, h.at0, h.res⟩
set_option maxRecDepth 100000 in
set_option maxHeartbeats 4000000 in
/-- THE WALK: add. -/
theorem add16_any (L : Lt) (u i : Nat) (c dr : Int) (W : World) (hu : u < 3) (hi : i < 3)
    (w1 : wrap64 (L.t u i + c) = L.t u i + c) (w2 : wrap64 (L.t u 3 + c) = L.t u 3 + c) (w3 : wrap64 (L.d u i + dr) = L.d u i + dr) (w4 : wrap64 (L.d u 3 + dr) = L.d u 3 + dr) :
    Calls Try.prog 33 #[.agg (ltC L), .int .i64 u, .int .i64 i, .int .i64 c, .int .i64 dr] W fun e w' => e = .returned (.agg (ltC ⟨addL L.t u i c, addL L.d u i dr, L.b⟩)) ∧ Below W.heap.size W w' := by
  have HI := Lib.hid (And.intro hu hi)
  have HW := Lib.hid (And.intro w2 (And.intro w3 w4))
  have hu2 : (u : Int) < 3 := by omega
  have hi2 : (i : Int) < 4 := by omega
  have h33 : (3 : Nat) < 4 := by decide
  have hne : ((3 : Int) ≠ i) := by omega
  have HNE := Lib.hid (show ∀ a : Int, ¬ (a = (u : Int) ∧ (3 : Int) = i) from fun a h => hne h.2)
  clear hu hi w2 w3 w4 hne
  go_enter Try.func33, Try.ntmps33
  go_upto_region 1 with fail
  obtain ⟨wa, hwa⟩ : ∃ wa : World, wa = (W.alloc (.cells (ltC L) 67)).alloc (.cells (ltC lt0) 67) := ⟨_, rfl⟩
  rw [← lt0_C, ← hwa]
  have HX := Lib.hid (show LtB W wa W.heap.size (W.heap.size + 1) L (ltC lt0) by
    rw [hwa]
    exact ⟨box_below.alloc (by simp) _, Nat.le_refl _, by omega, fr_alloc_old fr_alloc_at, heap_alloc_two _ _ _⟩)
  clear hwa
  have x1 : wa.cell? ⟨W.heap.size, u * 4 + i, none⟩ = some (.int .i64 (L.t u i)) := fr_cell_of_heap HX.out.at0 (lt_t L HI.out.1 (Nat.lt_succ_of_lt HI.out.2))
  have f1 : wa.frozen? ⟨W.heap.size, u * 4 + i, none⟩ = false := fr_free_of_heap HX.out.at0
  go_region
  clear x1 f1 w1
  obtain ⟨wb, hwb⟩ : ∃ wb : World, wb = (wa.setCell ⟨W.heap.size, u * 4 + i, none⟩ (.int .i64 (L.t u i + c))).drew := ⟨_, rfl⟩
  rw [← hwb]
  have HX1 := Lib.hid (HX.out.set hwb (lt_setT L HI.out.1 (Nat.lt_succ_of_lt HI.out.2) _))
  clear hwb
  have x2 : wb.cell? ⟨W.heap.size, u * 4 + 3, none⟩ = some (.int .i64 (L.t u 3)) := by rw [← upd2_other (f := L.t) (n := L.t u i + c) (HNE.out u)]; exact fr_cell_of_heap HX1.out.at0 (lt_t _ HI.out.1 h33)
  have f2 : wb.frozen? ⟨W.heap.size, u * 4 + 3, none⟩ = false := fr_free_of_heap HX1.out.at0
  have w2 := HW.out.1
  go_upto_region 2 with fail
  go_region
  clear x2 f2 w2
  obtain ⟨wc, hwc⟩ : ∃ wc : World, wc = (wb.setCell ⟨W.heap.size, u * 4 + 3, none⟩ (.int .i64 (L.t u 3 + c))).drew := ⟨_, rfl⟩
  rw [← hwc]
  have HX2 := Lib.hid (HX1.out.set hwc (lt_setT ⟨_, _, _⟩ HI.out.1 h33 _))
  clear hwc
  have x3 : wc.cell? ⟨W.heap.size, 12 + u * 4 + i, none⟩ = some (.int .i64 (L.d u i)) := fr_cell_of_heap HX2.out.at0 (lt_d _ HI.out.1 (Nat.lt_succ_of_lt HI.out.2))
  have f3 : wc.frozen? ⟨W.heap.size, 12 + u * 4 + i, none⟩ = false := fr_free_of_heap HX2.out.at0
  have w3 := HW.out.2.1
  go_upto_region 3 with fail
  go_region
  clear x3 f3 w3
  obtain ⟨wd, hwd⟩ : ∃ wd : World, wd = (wc.setCell ⟨W.heap.size, 12 + u * 4 + i, none⟩ (.int .i64 (L.d u i + dr))).drew := ⟨_, rfl⟩
  rw [← hwd]
  have HX3 := Lib.hid (HX2.out.set hwd (lt_setD ⟨_, _, _⟩ HI.out.1 (Nat.lt_succ_of_lt HI.out.2) _))
  clear hwd
  have x4 : wd.cell? ⟨W.heap.size, 12 + u * 4 + 3, none⟩ = some (.int .i64 (L.d u 3)) := by rw [← upd2_other (f := L.d) (n := L.d u i + dr) (HNE.out u)]; exact fr_cell_of_heap HX3.out.at0 (lt_d _ HI.out.1 h33)
  have f4 : wd.frozen? ⟨W.heap.size, 12 + u * 4 + 3, none⟩ = false := fr_free_of_heap HX3.out.at0
  have w4 := HW.out.2.2
  go_upto_region 4 with fail
  go_region
  clear x4 f4 w4
  obtain ⟨we, hwe⟩ : ∃ we : World, we = (wd.setCell ⟨W.heap.size, 12 + u * 4 + 3, none⟩ (.int .i64 (L.d u 3 + dr))).drew := ⟨_, rfl⟩
  rw [← hwe]
  have HX4 := Lib.hid (show LtB W we W.heap.size (W.heap.size + 1) ⟨addL L.t u i c, addL L.d u i dr, L.b⟩ (ltC lt0) by
    have h := HX3.out.set hwe (lt_setD ⟨_, _, _⟩ HI.out.1 h33 _)
    change LtB W we W.heap.size (W.heap.size + 1) ⟨upd2 (upd2 L.t u i (L.t u i + c)) u 3 (L.t u 3 + c), upd2 (upd2 L.d u i (L.d u i + dr)) u 3 (L.d u 3 + dr), L.b⟩ (ltC lt0) at h
    rw [addL_two (f := L.t) (by have := HI.out.2; omega), addL_two (f := L.d) (by have := HI.out.2; omega)] at h
    exact h)
  clear hwe
  obtain ⟨L', hL'⟩ : ∃ L' : Lt, L' = ⟨addL L.t u i c, addL L.d u i dr, L.b⟩ := ⟨_, rfl⟩
  rw [← hL'] at HX4
  have HL' := Lib.hid hL'
  clear hL'
  go_wp2_with (first | (refine wpList_load_agg 67 HX4.out.at0 Try.underlying67 rfl (lt_sz L') rfl _ rfl rfl ?_) | (refine wpList_store_row rfl 67 _ _ rfl (W.heap.size + 1) (ltC L') rfl rfl 67 _ HX4.out.res (lt_sz L') rfl (lt_one L') ?_))
  refine bodyPost_ret (v := .agg (ltC L')) (results_row1 Try.results33 rfl (setRow_heap _ _ _ _ _ _ HX4.out.res) Try.underlying67 rfl (lt_sz L')) rfl ⟨by rw [HL'.out], ?_⟩
  exact (((Fp.of_below (S := fun k => k = W.heap.size + 1) HX4.out.below).setRow (fun _ => rfl)).below (Nat.le_refl _) (fun k hk e => by omega))
theorem LtB.setN {w w' w'' : World} {g r : Nat} {L L' : Lt} {zs : Array Value} (h : LtB w w' g r L zs) {j : Nat} {v : Value} (hw : w'' = w'.setCell ⟨g, j, none⟩ v) (hL : (ltC L).setIfInBounds j v = ltC L') : LtB w w'' g r L' zs := by
  have hF : Fp (fun k => k = g) w' w'' := by rw [hw]; exact (Fp.refl (fun k => k = g) w').setCell (p := ⟨g, j, none⟩) (fun _ => rfl) _
  refine ⟨h.below.trans (hF.below h.below.size (fun k hk e => by have := h.gl; omega)), h.gl, h.gr, by rw [hw, ← hL]; exact fr_setCell_at h.at0, hF.heap h.res (fun e => h.gr e.symm)⟩
theorem LtB.on {w w' w'' : World} {g r : Nat} {L : Lt} {zs : Array Value} (h : LtB w w' g r L zs) (hb : Below w'.heap.size w' w'') : LtB w w'' g r L zs :=
  ⟨h.below.trans (hb.mono h.below.size), h.gl, h.gr, (hb.block _ (fp_lt_of_heap h.at0)).trans h.at0, (hb.block _ (fp_lt_of_heap h.res)).trans h.res⟩
def anyT (rows : List TRow) (u : Int) (J : Nat) : Bool := (List.range J).any (fun i => decide ((0 : Int) < lenT u i rows))
theorem anyT_succ (rows : List TRow) (u : Int) (J : Nat) : anyT rows u (J + 1) = (anyT rows u J || decide ((0 : Int) < lenT u J rows)) := by
  unfold anyT
  rw [List.range_succ, List.any_append]
  simp
/-- What waits of a tenant, as a look has it. -/
def RowB (rows : List TRow) (b : Int → Int → Bool) (u : Nat) : Prop := (∀ i : Nat, i < 3 → b u i = decide ((0 : Int) < lenT u i rows)) ∧ b u 3 = anyT rows u 3
def VRel1 (W : World) (L : Lt) (rows : List TRow) (g : Nat) (i : Value) (wr : World) : Prop := ∃ (K : Nat) (b : Int → Int → Bool), g = 3 - K ∧ i = .int .i64 K ∧ K ≤ 3 ∧ LtB W wr W.heap.size (W.heap.size + 1) ⟨L.t, L.d, b⟩ (ltC lt0) ∧ ∀ u : Nat, u < K → RowB rows b u
def VRel2 (W : World) (L : Lt) (rows : List TRow) (K : Nat) (g : Nat) (i : Value) (wr : World) : Prop := ∃ (J : Nat) (b : Int → Int → Bool), g = 3 - J ∧ i = .int .i64 J ∧ J ≤ 3 ∧ LtB W wr W.heap.size (W.heap.size + 1) ⟨L.t, L.d, b⟩ (ltC lt0) ∧ (∀ u : Nat, u < K → RowB rows b u) ∧ (∀ i : Nat, i < J → b K i = decide ((0 : Int) < lenT K i rows)) ∧ b K 3 = anyT rows K J
theorem RowB.set {rows : List TRow} {b : Int → Int → Bool} {u : Nat} (h : RowB rows b u) {K : Nat} (hu : u < K) (i : Int) (n : Bool) : RowB rows (upd2 b K i n) u := by
  have : ((u : Int) ≠ (K : Int)) := by omega
  exact ⟨fun j hj => by rw [upd2_other (fun e => this e.1)]; exact h.1 j hj, by rw [upd2_other (fun e => this e.1)]; exact h.2⟩
set_option maxRecDepth 100000 in
set_option maxHeartbeats 8000000 in
/-- THE WALK: waits. -/
theorem waits16_any {pre : List Int} {ρ : Roles} {f : Nat} {q : Int} {gv : Bool} {rows : List TRow} (L : Lt) (W : World) (hR : ShareAt pre ρ W f q gv rows) :
    Calls Try.prog 36 #[.agg (ltC L), .pointer (some ⟨f, 0, none⟩)] W fun e w' => ∃ b, e = .returned (.agg (ltC ⟨L.t, L.d, b⟩)) ∧ Below W.heap.size W w' ∧ ∀ u : Nat, u < 3 → RowB rows b u := by
  have HR := Lib.hid hR
  clear hR
  go_enter Try.func36, Try.ntmps36
  go_upto_region 1 with fail
  obtain ⟨wa, hwa⟩ : ∃ wa : World, wa = (W.alloc (.cells (ltC L) 67)).alloc (.cells (ltC lt0) 67) := ⟨_, rfl⟩
  rw [← lt0_C, ← hwa]
  have HST := Lib.hid (show VRel1 W L rows 3 (.int .i64 0) wa from by
    refine ⟨0, L.b, rfl, rfl, by decide, ?_, fun u hu => absurd hu (Nat.not_lt_zero _)⟩
    rw [hwa]
    exact ⟨box_below.alloc (by simp) _, Nat.le_refl _, by omega, fr_alloc_old fr_alloc_at, heap_alloc_two _ _ _⟩)
  clear hwa
  go_wp2_with fail
  go_loopg [5] 3 (fun g i wr => VRel1 W L rows g i wr)
  case atStart => exact HST.out
  case round =>
    obtain ⟨K, b, hg, rfl, hK, hB, hrow⟩ := hrel
    have HG := Lib.hid hg
    have HB := Lib.hid hB
    have HROW := Lib.hid hrow
    clear hg hB hrow
    by_cases hK3 : K < 3
    · have hKi : (K : Int) < 3 := by omega
      have h33 : (3 : Nat) < 4 := by decide
      have n1 : wr.cell? ⟨W.heap.size, 24 + K * 4 + 3, none⟩ = some (.bool (b K 3)) := fr_cell_of_heap HB.out.at0 (lt_b _ hK3 h33)
      have f1 : wr.frozen? ⟨W.heap.size, 24 + K * 4 + 3, none⟩ = false := fr_free_of_heap HB.out.at0
      go_upto_region 5 with fail
      clear n1 f1
      obtain ⟨wb, hwb⟩ : ∃ wb : World, wb = wr.setCell ⟨W.heap.size, 24 + K * 4 + 3, none⟩ (.bool false) := ⟨_, rfl⟩
      rw [← hwb]
      have HST2 := Lib.hid (show VRel2 W L rows K 3 (.int .i64 0) wb from ⟨0, upd2 b K 3 false, rfl, rfl, by decide, HB.out.setN hwb (lt_setB ⟨L.t, L.d, b⟩ hK3 h33 _), fun u hu => (HROW.out u hu).set hu 3 false, fun i hi => absurd hi (Nat.not_lt_zero _), upd2_same⟩)
      clear hwb
      go_wp2_with fail
      go_loopg [6] 3 (fun g i wr => VRel2 W L rows K g i wr)
      case atStart => exact HST2.out
      case round =>
        obtain ⟨J, b, hg, rfl, hJ, hB, hrow, hdone, hany⟩ := hrel
        have HG2 := Lib.hid hg
        have HB2 := Lib.hid hB
        have HROW2 := Lib.hid (And.intro hrow (And.intro hdone hany))
        clear hg hB hrow hdone hany
        by_cases hJ3 : J < 3
        · have hJi : (J : Int) < 3 := by omega
          have hJ4 : (J : Int) < 4 := by omega
          have HJ := Lib.hid hJ3
          have HKK := Lib.hid hK3
          have HCW := Lib.hid (shareWaits_any (K : Int) (J : Int) wr.drew (HR.out.below (below_drewN HB2.out.below 1)))
          have HBD := Lib.hid (HB2.out.drewN 1)
          go_upto_region 8 with fail
          go_region_held3 (fun _ => True)
            (exact True.intro)
            (first | (go_at_call 40; refine HCW.out.mono ?_; rintro e w9 ⟨rfl, hb9⟩; (have hB9 := HBD.out.on hb9); (have n1 : w9.cell? ⟨W.heap.size, 24 + K * 4 + J, none⟩ = some (.bool (b K J)) := fr_cell_of_heap hB9.at0 (lt_b _ hK3 (Nat.lt_succ_of_lt hJ3))); (have f1 : w9.frozen? ⟨W.heap.size, 24 + K * 4 + J, none⟩ = false := fr_free_of_heap hB9.at0)))
          obtain ⟨d, hd⟩ : ∃ d, d = decide ((0 : Int) < lenT K J rows) := ⟨_, rfl⟩
          rw [← hd]
          have HD := Lib.hid hd
          clear hd
          obtain ⟨w10, hw10⟩ : ∃ w10 : World, w10 = w9.setCell ⟨W.heap.size, 24 + K * 4 + J, none⟩ (.bool d) := ⟨_, rfl⟩
          rw [← hw10]
          have hX := hB9.setN hw10 (lt_setB ⟨L.t, L.d, b⟩ hK3 (Nat.lt_succ_of_lt hJ3) d)
          have HX10 := Lib.hid hX
          obtain ⟨bb, hbb⟩ : ∃ bb, bb = b K 3 := ⟨_, rfl⟩
          have h3J : ¬ ((K : Int) = K ∧ (3 : Int) = J) := by omega
          have m3 : w10.cell? ⟨W.heap.size, 24 + K * 4 + 3, none⟩ = some (.bool bb) := by rw [hbb, ← upd2_other (f := b) (n := d) h3J]; exact fr_cell_of_heap hX.at0 (lt_b _ hK3 (by decide))
          have mJ : w10.cell? ⟨W.heap.size, 24 + K * 4 + J, none⟩ = some (.bool d) := by
            have h := fr_cell_of_heap hX.at0 (lt_b _ hK3 (Nat.lt_succ_of_lt hJ3))
            simp only [upd2_same] at h
            exact h
          have fz : w10.frozen? ⟨W.heap.size, 24 + K * 4 + 3, none⟩ = false := fr_free_of_heap hX.at0
          have HBB := Lib.hid hbb
          have HKJ := Lib.hid h3J
          clear hbb hw10 hX hB9 hb9 n1 f1 h3J
          go_upto_region 9 with fail
          have fin : ∀ (r : Bool) (w11 : World), w11 = (w10.setCell ⟨W.heap.size, 24 + K * 4 + 3, none⟩ (.bool r)).drew → r = (b K 3 || d) → VRel2 W L rows K (3 - (J + 1)) (.int .i64 ((J + 1 : Nat) : Int)) w11 := by
            intro r w11 hw hr
            have hX := HX10.out.set hw (lt_setB ⟨L.t, L.d, _⟩ hK3 (by decide) r)
            refine ⟨J + 1, upd2 (upd2 b K J d) K 3 r, rfl, rfl, hJ3, hX, fun u hu => ((HROW2.out.1 u hu).set hu J d).set hu 3 r, fun i hi => ?_, ?_⟩
            · rw [upd2_other (by omega)]
              by_cases e : i = J
              · rw [e, upd2_same, HD.out]
              · rw [upd2_other (by omega)]
                exact HROW2.out.2.1 i (by omega)
            · rw [upd2_same, anyT_succ, hr, HROW2.out.2.2, HD.out]
          have HFIN := Lib.hid fin
          clear fin
          rcases bb with _ | _
          all_goals
            go_region
            clear m3 mJ fz
            go_wp2_with fail
            go_roundg (3 - (J + 1))
            case rel =>
              have h := HFIN.out _ _ rfl (by rw [← HBB.out])
              exact h
            case measure => have := HG2.out; omega
        · obtain rfl : J = 3 := by omega
          have HNEW := Lib.hid (show ∀ u : Nat, u < K + 1 → RowB rows b u from fun u hu => by
            rcases Nat.lt_or_ge u K with h | h
            · exact HROW2.out.1 u h
            · obtain rfl : u = K := by omega
              exact ⟨HROW2.out.2.1, HROW2.out.2.2⟩)
          go_wp2_with fail
          go_roundg (3 - (K + 1))
          case rel => exact ⟨K + 1, b, rfl, by go_num, by omega, HB2.out, HNEW.out⟩
          case measure => have := HG.out; omega
    · obtain rfl : K = 3 := by omega
      obtain ⟨L', hL'⟩ : ∃ L' : Lt, L' = ⟨L.t, L.d, b⟩ := ⟨_, rfl⟩
      have HX4 := Lib.hid (hL' ▸ HB.out : LtB W wr W.heap.size (W.heap.size + 1) L' (ltC lt0))
      have HL' := Lib.hid hL'
      clear hL'
      go_wp2_with (first | (refine wpList_load_agg 67 HX4.out.at0 Try.underlying67 rfl (lt_sz L') rfl _ rfl rfl ?_) | (refine wpList_store_row rfl 67 _ _ rfl (W.heap.size + 1) (ltC L') rfl rfl 67 _ HX4.out.res (lt_sz L') rfl (lt_one L') ?_))
      refine bodyPost_ret (v := .agg (ltC L')) (results_row1 Try.results36 rfl (setRow_heap _ _ _ _ _ _ HX4.out.res) Try.underlying67 rfl (lt_sz L')) rfl ⟨b, by rw [HL'.out], ?_, HROW.out⟩
      exact (((Fp.of_below (S := fun k => k = W.heap.size + 1) HX4.out.below).setRow (fun _ => rfl)).below (Nat.le_refl _) (fun k hk e => by omega))
end Go.Proofs.Ytohkchilogmneaa
