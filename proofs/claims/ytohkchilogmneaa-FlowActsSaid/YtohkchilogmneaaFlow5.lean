/-
  flow.Ring: Take: the walk.
-/
import Derived.Test.YtohkchilogmneaaFlow4
namespace Go.Proofs.Ytohkchilogmneaa
open Go.RowKit

theorem chargeR_its (q : Int) (gv : Bool) (r : FRow) : (chargeR q gv r).its = r.its ∧ (chargeR q gv r).id = r.id ∧ (chargeR q gv r).wt = r.wt := by
  cases gv <;> exact ⟨rfl, rfl, rfl⟩
theorem PicksR.le {q : Int} {gv : Bool} {l l2 : List FRow} (h : PicksR q gv l l2) : ∃ x r, l2 = x :: r ∧ headC x.its ≤ x.df := by
  induction h with
  | @grant gv x r h => exact ⟨_, _, rfl, by rw [(chargeR_its q gv x).1]; exact h⟩
  | rotate _ _ ih => exact ih
def tookR (row : FRow) (rest : List FRow) : Bool × List FRow := withR 0 { row with df := row.df - headC row.its, its := row.its.tail } true (row :: rest)
def RTakePost (pre : List Int) (ρ : Roles) (w : World) (f : Nat) (q : Int) (gv : Bool) (rows : List FRow) (e : Ending) (w' : World) : Prop :=
  ∃ row rest ρ', e = .returned (.tuple #[.int .i64 row.id, itV (row.its.headD ⟨0, 0⟩), .bool true]) ∧ PicksR q gv rows (row :: rest) ∧ Later ρ ρ' w ∧ NewRoles ρ' pre w.heap.size ∧ RingAt pre ρ' w' f q (tookR row rest).1 (tookR row rest).2 ∧ Fp (Part ρ pre) w w'
section
variable {pre : List Int} {ρ : Roles} {f sp : Nat} {q : Int} {gv : Bool} {v : Value} {ns : List Nd} {qb : Int → Nat} {its : Int → List It} {rows : List FRow}
set_option maxRecDepth 100000 in
set_option maxHeartbeats 1000000 in
theorem flowTake_nil (w : World) (hR : RingAt pre ρ w f q gv []) : Calls Try.prog 14 #[.pointer (some ⟨f, 0, none⟩)] w fun e w' => e = .returned (.tuple #[.int .i64 0, .agg #[.int .i64 0, .int .i64 0], .bool false]) ∧ Below w.heap.size w w' := by
  have HR := Lib.hid hR
  clear hR
  go_enter Try.func14, Try.ntmps14
  go_wp2_with fail
  refine (flowPick_nil _ (HR.out.below box_below)).mono ?_
  rintro e w2 ⟨rfl, hb⟩
  have HB := Lib.hid (box_below2 hb)
  have hh2 := (hb.block w.heap.size (by simp)).trans fr_alloc_at
  have HH2 := Lib.hid hh2
  have HZ := Lib.hid (item_sz ⟨0, 0⟩)
  clear hb hh2
  go_wp2_with (refine wpList_store_row rfl 37 _ _ rfl w.heap.size #[.int .i64 0, .int .i64 0] rfl rfl 37 _ (fr_alloc_old HH2.out) HZ.out rfl (item_one ⟨0, 0⟩) ?_)
  refine bodyPost_ret (v := .tuple #[.int .i64 0, .agg #[.int .i64 0, .int .i64 0], .bool false]) (results_mid Try.results14 rfl rfl rfl (setRow_heap _ w.heap.size _ _ _ _ (fr_alloc_old HH2.out)) Try.underlying37 rfl HZ.out) rfl ⟨rfl, ?_⟩
  exact ((Fp.of_below (S := fun k => k = w.heap.size) HB.out).alloc _).setRow (fun _ => rfl) |>.below (Nat.le_refl _) (fun k hk e => by omega)
set_option maxRecDepth 100000 in
set_option maxHeartbeats 2000000 in
/-- THE WALK: Take. -/
theorem flowTake_cons (hpre : pre ≠ []) (w : World) (hR : RingAt pre ρ w f q gv rows) (hne : rows ≠ []) : Calls Try.prog 14 #[.pointer (some ⟨f, 0, none⟩)] w (RTakePost pre ρ w f q gv rows) := by
  have HR := Lib.hid (hR.later (fence_later ρ w))
  have HNE := Lib.hid hne
  have hfw := hR.lt
  clear hR hne
  go_enter Try.func14, Try.ntmps14
  go_wp2_with fail
  refine (flowPick_cons hpre _ (HR.out.below box_below) HNE.out).mono ?_
  rintro e w2 ⟨row, rest, ρ2, rfl, hp, hl, hn, hR2, hF2⟩
  have hcr0 : fence ρ w w.heap.size = [] := by simp [fence]
  have hh2 : w2.heap[w.heap.size]? = some (.cells #[.int .i64 0, .int .i64 0] 37 (0, 0)) := hF2.heap fr_alloc_at (fun h => by
    obtain ⟨_, h⟩ := h
    rw [hcr0] at h
    exact hpre (List.append_eq_nil_iff.1 h.symm).1)
  have HH2 := Lib.hid hh2
  have HP := Lib.hid hp
  have HL := Lib.hid hl
  have HN := Lib.hid hn
  have HF2 := Lib.hid ((Fp.of_below (S := Part (fence ρ w) pre) box_below).trans hF2 (fun _ _ h => h))
  obtain ⟨sp, v, ns, qb, its, hA, he⟩ := hR2.later (fence_later ρ2 w2)
  obtain ⟨n, r, rfl⟩ : ∃ n r, ns = n :: r := by
    cases ns with
    | nil => cases he
    | cons n r => exact ⟨n, r, rfl⟩
  rw [List.map_cons, List.cons.injEq] at he
  obtain ⟨rfl, rfl⟩ := he
  obtain ⟨x, xs, hx⟩ : ∃ x xs, its n.id = x :: xs := by
    have := hA.full n List.mem_cons_self
    cases h : its n.id with
    | nil => exact absurd h this
    | cons x xs => exact ⟨x, xs, rfl⟩
  have hhd : (rowOf its n).its.headD ⟨0, 0⟩ = x := by
    show (its n.id).headD ⟨0, 0⟩ = x
    rw [hx]
    rfl
  have HA := Lib.hid hA
  have HX := Lib.hid hx
  have HHD := Lib.hid hhd
  rw [hhd]
  rw [show (rowOf its n).id = n.id from rfl]
  unfold itV
  clear hp hl hn hR2 hF2 hcr0 hh2 hA hx hhd
  go_upto_region 2 with fail
  obtain ⟨w3, hw3⟩ : ∃ w3 : World, w3 = w2.alloc (.cells #[.int .i64 x.id, .int .i64 x.cost] 37) := ⟨_, rfl⟩
  obtain ⟨xb, hxb⟩ : ∃ xb : Nat, xb = w2.heap.size := ⟨_, rfl⟩
  rw [← hw3, ← hxb]
  have HB3 := Lib.hid (show Below w2.heap.size w2 w3 by rw [hw3]; exact box_below)
  have HX3 := Lib.hid (show w3.heap[xb]? = some (.cells #[.int .i64 x.id, .int .i64 x.cost] 37 (0, 0)) by rw [hw3, hxb]; exact fr_alloc_at)
  have HR3 := Lib.hid ((HB3.out.block _ (fp_lt_of_heap HH2.out)).trans HH2.out)
  have HXB := Lib.hid hxb
  have HA3 := Lib.hid (HA.out.below HB3.out)
  clear hw3 hxb
  go_wp2_with fail
  refine (flowQueue_some n.id 0 n _ HA3.out rfl rfl).mono ?_
  rintro e w4 ⟨rfl, hb4⟩
  have HB4 := Lib.hid hb4
  have HA4 := Lib.hid (HA3.out.below hb4)
  clear hb4
  go_wp2_with fail
  refine (fifoPop_cons (by simp) x xs _ (HX.out ▸ HA4.out.que n List.mem_cons_self)).mono ?_
  rintro e w5 ⟨rfl, hF5, hQ5⟩
  have hgood := (HX.out ▸ HA4.out.que n List.mem_cons_self : QueAt (pre ++ [5, n.id]) (fence ρ2 w2) w4 (qb n.id) (x :: xs)).good
  have hdr : dropIt (x :: xs) x.id = xs := by rw [drop_erase hgood.once (i := 0) rfl]; rfl
  rw [hdr] at hQ5
  have HP5 := Lib.hid (HA4.out.pre'.que_turn hF5 hQ5)
  have hcr2 : ρ2 w.heap.size = [] := by rw [HL.out w.heap.size (by simp)]; simp [fence]
  have hcr : fence ρ2 w2 w.heap.size = [] := by
    unfold fence
    rw [hcr2]
    simp
  have hxr : fence ρ2 w2 xb = [] := by rw [HXB.out]; simp [fence]
  have hnp : ∀ k, fence ρ2 w2 k = [] → ¬ Part (fence ρ2 w2) pre k := fun k hk h => by
    obtain ⟨_, h⟩ := h
    rw [hk] at h
    exact hpre (List.append_eq_nil_iff.1 h.symm).1
  have HNP := Lib.hid hnp
  have HCR := Lib.hid hcr
  have HCR2 := Lib.hid hcr2
  have HXR := Lib.hid hxr
  have HF5 := Lib.hid ((Fp.of_below (S := Part (fence ρ2 w2) pre) (HB3.out.trans (HB4.out.mono HB3.out.size))).trans (fp_sub hF5) (fun _ _ h => h))
  have HX5 := Lib.hid ((hF5.heap ((HB4.out.block _ (fp_lt_of_heap HX3.out)).trans HX3.out) (fun h => hnp _ hxr (part_sub h))))
  have HR5 := Lib.hid ((hF5.heap ((HB4.out.block _ (fp_lt_of_heap HR3.out)).trans HR3.out) (fun h => hnp _ hcr (part_sub h))))
  have hc := hgood.ok x List.mem_cons_self
  have hd := HA4.out.good.1
  have hle : x.cost ≤ n.df := by
    obtain ⟨y, l, he, hl⟩ := HP.out.le
    cases he
    have e : headC (rowOf its n).its = x.cost := by
      unfold headC
      rw [HHD.out]
    rw [e] at hl
    exact hl
  have hw1 : wrap64 (n.df - x.cost) = n.df - x.cost := by
    have h3 := hd.2.2.1
    have h4 := hd.2.2.2
    simp at h4
    unfold wrap64
    omega
  have HND := Lib.hid (show NdsOk true ((n :: r).set 0 { n with df := n.df - x.cost }) from ⟨⟨hd.1, hd.2.1, by show 0 ≤ n.df - x.cost; omega, by have h4 := hd.2.2.2; simp at h4; show n.df - x.cost ≤ 2112; omega⟩, HA4.out.good.2⟩)
  have e2 : w5.cell? ⟨n.blk, 2, none⟩ = some (.int .i64 n.df) := fr_cell_of_heap (HP5.out.spin.node 0 n rfl).2 rfl
  have f2 : w5.frozen? ⟨n.blk, 2, none⟩ = false := fr_free_of_heap (HP5.out.spin.node 0 n rfl).2
  have x1 : w5.cell? ⟨xb, 1, none⟩ = some (.int .i64 x.cost) := fr_cell_of_heap HX5.out rfl
  have HW1 := Lib.hid hw1
  clear hF5 hQ5 hgood hdr hcr hcr2 hxr hnp hc hd hle
  go_upto_region 6 with fail
  go_region
  clear e2 f2 x1 hw1
  obtain ⟨w6, hw6⟩ : ∃ w6 : World, w6 = (w5.setCell ⟨n.blk, 2, none⟩ (.int .i64 (n.df - x.cost))).drew := ⟨_, rfl⟩
  rw [← hw6]
  have hF6 : Fp (fun k => k = n.blk) w5 w6 := by rw [hw6]; exact ((Fp.refl (fun k => k = n.blk) w5).setCell (p := ⟨n.blk, 2, none⟩) (fun _ => rfl) _).drew
  have hnb := (HP5.out.spin.node 0 n rfl).1
  have HP6 := Lib.hid (show RPre pre (fence ρ2 w2) w6 f sp q true v ((n :: r).set 0 { n with df := n.df - x.cost }) qb (upd its n.id xs) by
    rw [hw6]
    have h := HP5.out.df_turn (k := 0) (n := n) rfl (n.df - x.cost) HND.out
    exact h.below ⟨rfl, rfl, rfl, Nat.le_refl _, fun _ _ => rfl⟩)
  have hnbp : ∀ k, fence ρ2 w2 k = [] → k ≠ n.blk := fun k hk e => by
    rw [e, hnb] at hk
    simp at hk
  have HX6 := Lib.hid (hF6.heap HX5.out (hnbp _ HXR.out))
  have HR6 := Lib.hid (hF6.heap HR5.out (hnbp _ HCR.out))
  have HF6 := Lib.hid (HF5.out.trans (hF6.mono (S' := Part (fence ρ2 w2) pre) (fun k hk => by subst hk; exact ⟨_, hnb⟩)) (fun _ _ h => h))
  have c0 : w6.cell? ⟨f, 0, none⟩ = some (.pointer (some ⟨sp, 0, none⟩)) := fr_cell_of_heap HP6.out.head rfl
  clear hF6 hnb hnbp hw6
  go_wp2_with fail
  refine (flow_tidy (k := 0) (n := { n with df := n.df - x.cost }) HP6.out rfl (fun m hm e => by
    rw [upd_other _ e]
    rcases mem_set hm with hm | rfl
    · exact HA4.out.full m hm
    · exact absurd rfl e)).mono ?_
  rintro e w7 ⟨rfl, hR7, hF7⟩
  have HR7 := Lib.hid hR7
  have HRR := Lib.hid (hF7.heap HR6.out (fun h => HNP.out _ HCR.out (spinPart_part h)))
  have HX7 := Lib.hid (hF7.heap HX6.out (fun h => HNP.out _ HXR.out (spinPart_part h)))
  have HF7 := Lib.hid (HF6.out.trans (hF7.mono (S' := Part (fence ρ2 w2) pre) (fun _ h => spinPart_part h)) (fun _ _ h => h))
  clear hR7 hF7 c0
  have x0 : w7.cell? ⟨xb, 0, none⟩ = some (.int .i64 x.id) := fr_cell_of_heap HX7.out rfl
  have x1 : w7.cell? ⟨xb, 1, none⟩ = some (.int .i64 x.cost) := fr_cell_of_heap HX7.out rfl
  have z0 : w7.cell? ⟨w.heap.size, 0, none⟩ = some (.int .i64 0) := fr_cell_of_heap HRR.out rfl
  have z1 : w7.cell? ⟨w.heap.size, 1, none⟩ = some (.int .i64 0) := fr_cell_of_heap HRR.out rfl
  have g0 : w7.frozen? ⟨w.heap.size, 0, none⟩ = false := fr_free_of_heap HRR.out
  have g1 : w7.frozen? ⟨w.heap.size, 1, none⟩ = false := fr_free_of_heap HRR.out
  go_upto_region 8 with fail
  go_region
  clear x0 x1 z0 z1 g0 g1
  go_wp2_with fail
  obtain ⟨w8, hw8⟩ : ∃ w8 : World, w8 = ((w7.setCell ⟨w.heap.size, 0, none⟩ (.int .i64 x.id)).setCell ⟨w.heap.size, 1, none⟩ (.int .i64 x.cost)).drew := ⟨_, rfl⟩
  have hh8 : w8.heap[w.heap.size]? = some (.cells #[.int .i64 x.id, .int .i64 x.cost] 37 (0, 0)) := by rw [hw8]; exact fr_setCell_at (fr_setCell_at HRR.out)
  have HF8 := Lib.hid (show Fp (fun k => k = w.heap.size) w7 w8 by
    rw [hw8]
    exact (((Fp.refl (fun k => k = w.heap.size) w7).setCell (p := ⟨w.heap.size, 0, none⟩) (fun _ => rfl) _).setCell (p := ⟨w.heap.size, 1, none⟩) (fun _ => rfl) _).drew)
  rw [← hw8]
  clear hw8
  refine bodyPost_ret (v := .tuple #[.int .i64 n.id, .agg #[.int .i64 x.id, .int .i64 x.cost], .bool true]) (results_mid Try.results14 rfl rfl rfl hh8 Try.underlying37 rfl (item_sz x)) rfl ?_
  have hres := HR7.out.frame HF8.out (fun k _ hp e => HNP.out k (e ▸ HCR.out) hp)
  have hsz2 : w.heap.size < w2.heap.size := fp_lt_of_heap HH2.out
  have hcfg : withR 0 (rowOf (upd its n.id xs) { n with df := n.df - x.cost }) true (((n :: r).set 0 { n with df := n.df - x.cost }).map (rowOf (upd its n.id xs))) = tookR (rowOf its n) (r.map (rowOf its)) := by
    have ho : n.id ∉ r.map Nd.id := by
      have h := HA4.out.spin.once
      rw [List.map_cons, List.nodup_cons] at h
      exact h.1
    have hm : r.map (rowOf (upd its n.id xs)) = r.map (rowOf its) := List.map_congr_left (fun m hm => by
      unfold rowOf
      rw [upd_other _ (fun e => ho (by rw [← e]; exact List.mem_map_of_mem hm))])
    have hh : headC (rowOf its n).its = x.cost := by
      unfold headC
      rw [HHD.out]
    have ht : (rowOf its n).its.tail = xs := by
      show (its n.id).tail = xs
      rw [HX.out]
      rfl
    rw [List.set_cons_zero, List.map_cons, hm]
    unfold tookR withR
    rw [hh, ht]
    simp [rowOf, upd_same]
  rw [hcfg] at hres
  refine ⟨rowOf its n, r.map (rowOf its), fence ρ2 w2, by rw [HHD.out]; rfl, HP.out, fun k hk => ?_, fun k hk => ?_, hres, ?_⟩
  · rw [fence_later ρ2 w2 k (by omega), HL.out k (by simp; omega), fence_later ρ w k hk]
  · rcases Nat.lt_or_ge k w2.heap.size with h2 | h2
    · have e : fence ρ2 w2 k = ρ2 k := fence_later ρ2 w2 k h2
      rcases Nat.eq_or_lt_of_le hk with h | h
      · subst h
        exact .inl HCR.out
      · rcases HN.out k (by simp; omega) with h3 | ⟨s, h3⟩
        · exact .inl (e.trans h3)
        · exact .inr ⟨s, e.trans h3⟩
    · exact .inl (by simp [fence, Nat.not_lt.2 h2])
  · refine (HF2.out.mono (fun k hk => fence_part hpre hk)).trans (S' := fun k => Part (fence ρ2 w2) pre k ∨ k = w.heap.size) ((HF7.out.mono (fun k hk => .inl hk)).trans (HF8.out.mono (S' := fun k => Part (fence ρ2 w2) pre k ∨ k = w.heap.size) (fun k hk => .inr hk)) (fun _ _ h => h)) (fun k hk h => ?_)
    rcases h with h | h
    · obtain ⟨s, h⟩ := h
      rw [fence_later ρ2 w2 k (by omega), HL.out k (by simp; omega), fence_later ρ w k hk] at h
      exact ⟨s, h⟩
    · omega
end
end Go.Proofs.Ytohkchilogmneaa
