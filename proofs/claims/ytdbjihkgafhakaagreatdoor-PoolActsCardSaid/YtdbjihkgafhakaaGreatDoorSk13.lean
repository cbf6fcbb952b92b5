/-
  pool.Pools: Leave, Uses, Drop: the walks.
  pool.New; Enter: the walks.
-/
import Derived.Test.YtdbjihkgafhakaaGreatDoorSk12
import Derived.ArgAppend
import Derived.Deep.RegionLaw
import Derived.Deep.RegionHeld3
namespace Go.Proofs.YtdbjihkgafhakaaGreatDoor
open Go.RowKit
theorem pneed_info : (Tryz.prog.info? 72).map (fun i => (i.zero, i.size, i.bytes)) = some (some (.pointer none), 1, 8) := by kernel_rfl
theorem prun_clear_ptr (w : World) (ty : TypeId) (g o c : Nat) (hc : (w.cell? ⟨g, o, none⟩).isSome = true) (hf : w.frozen? ⟨g, o, none⟩ = false) :
    (Builtin.clear_ #[65] ty #[.slice (some ⟨g, o, none⟩) 1 c]).run Tryz.prog w = .ok (.tuple #[]) (w.setCells g o [.pointer none]) := by
  have hc0 : ∀ j, j < ([Value.pointer none] : List Value).length → (w.cell? ⟨g, o + 0 + j, none⟩).isSome = true := by
    intro j hj
    have h0 : j = 0 := by simpa using hj
    subst h0
    simpa using hc
  have hf0 : ∀ j, j < ([Value.pointer none] : List Value).length → w.frozen? ⟨g, o + 0 + j, none⟩ = false := by
    intro j hj
    have h0 : j = 0 := by simpa using hj
    subst h0
    simpa using hf
  have h1 : ∀ u ∈ ([Value.pointer none] : List Value), u.oneCell' = true := by
    intro u hu
    rw [List.mem_singleton] at hu
    subst hu
    rfl
  have hst := run_storeCells_cells (P := Tryz.prog) g o [.pointer none] 0 w hc0 hf0 h1
  simp only [Nat.add_zero] at hst
  have hz : (Builtin.zeroCells (Value.cells (.pointer none)) 1).toList = [.pointer none] := by kernel_rfl
  simp [Builtin.clear_, run_underlying Tryz.underlying65, hz, hst]
def PDelPost (w : World) (v : Value) (bs : List Nat) (k : Nat) (e : Ending) (w' : World) : Prop :=
  ∃ v', e = .returned v' ∧ ArrIn 72 w' v' (bs.eraseIdx k) ∧ v'.ownBlock = v.ownBlock ∧ Fp (fun j => v.ownBlock = some j) w w'
set_option maxRecDepth 100000 in
set_option maxHeartbeats 4000000 in
theorem pdelete_any (v : Value) (bs : List Nat) (k : Nat) (w : World) (hA : ArrIn 72 w v bs) (hk : k < bs.length) (hl : bs.length ≤ 1000000) :
    Calls Tryz.prog 29 #[v, .int .i64 k, .int .i64 ((k : Int) + 1)] w (PDelPost w v bs k) := by
  obtain ⟨i0, hi0, hz0, hz1, hz2⟩ := info_parts pneed_info
  rcases hA with ⟨_, rfl⟩ | ⟨g, off, cap, cur, rfl, hh, hfit, hle, hcm, hc⟩
  · simp at hk
  have hcell : ∀ j, j < cap → (w.cell? ⟨g, off + j, none⟩).isSome = true ∧ w.frozen? ⟨g, off + j, none⟩ = false := by
    intro j hj
    obtain ⟨u, hu⟩ : ∃ u, cur[off + j]? = some u := ⟨_, Array.getElem?_eq_getElem (by omega)⟩
    exact ⟨by rw [fr_cell_of_heap hh hu]; rfl, fr_free_of_heap hh⟩
  obtain ⟨news, hnews⟩ : ∃ news, news = (bs.drop (k + 1)).map ptrV := ⟨_, rfl⟩
  have hlen : news.length = bs.length - (k + 1) := by rw [hnews]; simp
  have hget : ∀ t u, news[t]? = some u → w.cell? ⟨g, off + (k + 1) + t, none⟩ = some u := by
    intro t u hu
    rw [hnews, List.getElem?_map, List.getElem?_drop] at hu
    obtain ⟨b, hb, rfl⟩ := Option.map_eq_some_iff.1 hu
    have := fr_cell_of_heap hh (hc _ b hb)
    rw [Nat.add_assoc]
    exact this
  obtain ⟨A, hA, hsrc⟩ : ∃ A : Addr, (if cap = k + 1 then some (⟨g, off, none⟩ : Addr) else some ⟨g, off + (k + 1), none⟩) = some A ∧ Hid (∀ t u, news[t]? = some u → w.drew.cell? (A.add t) = some u) := by
    by_cases h : cap = k + 1
    · refine ⟨⟨g, off, none⟩, by simp [h], fun t u hu => ?_⟩
      have h0 : news.length = 0 := by rw [hlen]; omega
      rw [List.length_eq_zero_iff.1 h0] at hu
      simp at hu
    · refine ⟨⟨g, off + (k + 1), none⟩, by simp [h], fun t u hu => ?_⟩
      rw [show (⟨g, off + (k + 1), none⟩ : Addr).add t = ⟨g, off + (k + 1) + t, none⟩ by unfold Addr.add; split <;> simp_all]
      exact hget t u hu
  have s1 : Hid (news.length = (bs.length - (k + 1)) * 1) := by show _ = _; omega
  have s2 : Hid (∀ u ∈ news, u.oneCell' = true) := by
    intro u hu
    rw [hnews] at hu
    obtain ⟨b, _, rfl⟩ := List.mem_map.1 hu
    rfl
  have s3 : Hid (∀ t, t < news.length → (w.drew.cell? ⟨g, off + k * 1 + t, none⟩).isSome = true ∧ w.drew.frozen? ⟨g, off + k * 1 + t, none⟩ = false) := by
    intro t ht
    rw [hlen] at ht
    have := hcell (k + t) (by omega)
    rw [Nat.mul_one, Nat.add_assoc]
    exact this
  obtain ⟨W1, hW1⟩ : ∃ W1, W1 = w.drew.setCells g (off + k * 1) news := ⟨_, rfl⟩
  have hh1 : W1.heap[g]? = some (.cells (layV cur (off + k) news) 72 (0, 0)) := by rw [hW1, Nat.mul_one]; exact heap_layV news (off + k) (w := w.drew) hh
  have hcl : ∀ ty, (Builtin.clear_ #[65] ty #[.slice (some ⟨g, off + (bs.length - 1), none⟩) 1 (cap - (bs.length - 1))]).run Tryz.prog W1 = .ok (.tuple #[]) (W1.setCells g (off + (bs.length - 1)) [.pointer none]) := fun ty =>
    prun_clear_ptr W1 ty g _ _ (by
      obtain ⟨u, hu⟩ : ∃ u, (layV cur (off + k) news)[off + (bs.length - 1)]? = some u := ⟨_, Array.getElem?_eq_getElem (by rw [layV_size]; omega)⟩
      rw [fr_cell_of_heap hh1 hu]; rfl) (fr_free_of_heap hh1)
  have hel : (bs.eraseIdx k).length = bs.length - 1 := List.length_eraseIdx_of_lt hk
  have hS : ∀ n, g < n → (Value.slice (some ⟨g, off, none⟩) bs.length cap).ownBlock = some g := fun _ _ => rfl
  have hF1 : Fp (fun j => (Value.slice (some ⟨g, off, none⟩) bs.length cap).ownBlock = some j) w W1 := by
    rw [hW1]
    exact Fp.setCells (hS _) _ _ (Fp.refl _ w).drew
  have hF2 := Fp.setCells (S := fun j => (Value.slice (some ⟨g, off, none⟩) bs.length cap).ownBlock = some j) (hS _) [.pointer none] (off + (bs.length - 1)) hF1
  have hfin : PDelPost w (.slice (some ⟨g, off, none⟩) bs.length cap) bs k (.returned (.slice (some ⟨g, off, none⟩) (bs.length - 1) cap)) (W1.setCells g (off + (bs.length - 1)) [.pointer none]) := by
    refine ⟨_, rfl, .inr ⟨g, off, cap, _, by rw [hel], heap_layV _ _ hh1, by rw [layV_size, layV_size]; exact hfit, by rw [hel]; omega, hcm, fun i b hb => ?_⟩, rfl, hF2⟩
    have hi : i < bs.length - 1 := by rw [← hel]; exact (List.getElem?_eq_some_iff.1 hb).1
    rw [layV_out _ _ _ _ (by omega)]
    rw [List.getElem?_eraseIdx] at hb
    split at hb
    · rw [layV_out _ _ _ _ (by omega)]
      exact hc i b hb
    · rename_i h1
      have hn : news[i - k]? = some (ptrV b) := by
        rw [hnews, List.getElem?_map, List.getElem?_drop, show k + 1 + (i - k) = i + 1 by omega, hb]
        rfl
      have := layV_in news cur (off + k) (i - k) hn (by rw [hlen]; omega)
      rwa [show off + k + (i - k) = off + i by omega] at this
  have HFIN := Lib.hid hfin
  have HW := Lib.hid hW1
  have hn1 : k + (bs.length - (k + 1)) = bs.length - 1 := by omega
  have hn2 : bs.length - (bs.length - 1) = 1 := by omega
  have HN1 := Lib.hid hn1
  have hic : k ≤ cap := by omega
  have hjc : k + 1 ≤ cap := by omega
  have hcm2 : cap ≤ 9223372036854775807 := by unfold maxLen at hcm; omega
  clear hW1 hh1 hcell hget hlen hc hh hnews hcm hn1 hfin hel hfit
  go_enter Tryz.func29, Tryz.ntmps29
  have hb1 : (0 : Int) ≤ (k : Int) + 1 := by omega
  have hb2 : (k : Int) + 1 ≤ (bs.length : Int) := by omega
  go_wp2_with fail
  go_region_law (refine step_append_room rfl (.tmp 22) (.tmp 25) 65 rfl 72 i0 1 Tryz.underlying65 hi0 hz1 g off k cap (by simp [Act.eval, Act.put]) A (bs.length - (k + 1)) (cap - (k + 1)) news (by simp [Act.eval, Act.put]) s1.out hsrc.out s2.out (by omega) s3.out ?_; rw [← HW.out])
  rw [HN1.out]
  go_wp2
  go_ret
  exact HFIN.out
section
variable {ρ : Roles} {P : Nat} {x : PX} {next : Int} {v : Value} {L : List PN} {w : World}
set_option maxRecDepth 100000 in
set_option maxHeartbeats 2000000 in
theorem pleave_none (s : ByteArray) (w : World) (hS : PoolAt ρ w P x next v L) (hO : PoolOk x L) (h : placeP s L = -1) :
    Calls Tryz.prog 10 #[.pointer (some ⟨P, 0, none⟩), .string s] w fun e w' => e = .returned (.bool false) ∧ Below w.heap.size w w' := by
  have HS := Lib.hid hS
  have HO := Lib.hid hO
  have HH := Lib.hid h
  clear hS hO h
  go_enter Tryz.func10, Tryz.ntmps10
  go_wp2_with fail
  refine (pfind_any s _ HS.out HO.out.few).mono ?_
  rintro e w1 ⟨rfl, hb1⟩
  rw [HH.out]
  have HB1 := Lib.hid hb1
  clear hb1
  go_wp2_with fail
  go_ret
  exact ⟨rfl, HB1.out⟩
def leftL (L : List PN) (i : Nat) (n : PN) : List PN := if n.uses - 1 = 0 then (L.set i { n with uses := n.uses - 1 }).eraseIdx i else L.set i { n with uses := n.uses - 1 }
set_option maxRecDepth 100000 in
set_option maxHeartbeats 4000000 in
theorem pleave_some (s : ByteArray) (i : Nat) (n : PN) (w : World) (hS : PoolAt ρ w P x next v L) (hO : PoolOk x L) (hp : placeP s L = i) (hn : L[i]? = some n) (hu : 1 ≤ n.uses ∧ n.uses ≤ 1000000000) :
    Calls Tryz.prog 10 #[.pointer (some ⟨P, 0, none⟩), .string s] w fun e w' => e = .returned (.bool true) ∧ ∃ v', TurnPost ρ w P x next v' (leftL L i n) w' := by
  have HS := Lib.hid (hS.later (fence_later ρ w))
  have HO := Lib.hid hO
  have HP := Lib.hid hp
  have HN := Lib.hid hn
  have HU := Lib.hid hu
  have hil : i < L.length := (List.getElem?_eq_some_iff.1 hn).1
  have HIL := Lib.hid hil
  have e1 : wrap64 (n.uses - 1) = n.uses - 1 := by unfold wrap64; omega
  have hl6 := hO.few
  clear hS hO hp hn hu
  go_enter Tryz.func10, Tryz.ntmps10
  go_wp2_with fail
  refine (pfind_any s _ HS.out HO.out.few).mono ?_
  rintro e w1 ⟨rfl, hb1⟩
  rw [HP.out]
  have HB1 := Lib.hid hb1
  have hS1 := HS.out.below hb1
  have hN1 := hS1.need i n HN.out
  obtain ⟨g, off, cap, hv, hg⟩ := hS1.at HN.out
  have c4 : w1.cell? ⟨P, 4, none⟩ = some (.slice (some ⟨g, off, none⟩) L.length cap) := by rw [← hv]; exact fr_cell_of_heap hS1.head rfl
  have n1 : w1.cell? ⟨n.blk, 1, none⟩ = some (.int .i64 n.uses) := fr_cell_of_heap hN1.blk rfl
  have f1 : w1.frozen? ⟨n.blk, 1, none⟩ = false := fr_free_of_heap hN1.blk
  have h2 : (i : Int) < (L.length : Int) := by omega
  have HS1 := Lib.hid hS1
  have HV := Lib.hid hv
  clear hb1 hS1 hN1 hv
  go_upto_region 5 with fail
  try rw [e1]
  obtain ⟨w2, hw2⟩ : ∃ w2 : World, w2 = w1.setCell ⟨n.blk, 1, none⟩ (.int .i64 (n.uses - 1)) := ⟨_, rfl⟩
  rw [← hw2]
  have hF2 : Fp (fun j => j = n.blk) w1 w2 := by rw [hw2]; exact (Fp.refl (fun j => j = n.blk) w1).setCell (p := ⟨n.blk, 1, none⟩) (fun _ => rfl) _
  have hh2 : w2.heap[n.blk]? = some (pnO { n with uses := n.uses - 1 }) := by rw [hw2]; exact fr_setCell_at (HS1.out.need i n HN.out).blk
  have hS2 := HS1.out.used HN.out hF2 hh2
  obtain ⟨n', hn'⟩ : ∃ n' : PN, n' = { n with uses := n.uses - 1 } := ⟨_, rfl⟩
  rw [← hn'] at hS2 hh2
  have HN' := Lib.hid hn'
  have hi2 : (L.set i n')[i]? = some n' := List.getElem?_set_self HIL.out
  have hlen : (L.set i n').length = L.length := List.length_set
  obtain ⟨g', off', cap'', hv', hg'⟩ := hS2.at hi2
  rw [HV.out, hlen] at hv'
  cases hv'
  have hb' : n'.blk = n.blk := by rw [hn']
  rw [hb'] at hg'
  have c4 : w2.cell? ⟨P, 4, none⟩ = some (.slice (some ⟨g, off, none⟩) L.length cap) := by rw [← HV.out]; exact fr_cell_of_heap hS2.head rfl
  have n1 : w2.cell? ⟨n.blk, 1, none⟩ = some (.int .i64 (n.uses - 1)) := by rw [hn'] at hh2; exact fr_cell_of_heap hh2 rfl
  have HS2 := Lib.hid hS2
  have HL2 := Lib.hid hlen
  have hin : ∀ {k : Nat} {r : List Int}, k < w.heap.size → Proofs.YtdbjihkgafhakaaGreatDoor.fence ρ w k = 0 :: r → Part ρ [0] k := fun {k r} hk e => ⟨r, by rw [← fence_later ρ w k hk, e]; rfl⟩
  have HFW := Lib.hid ((Fp.of_below (S := Part ρ [0]) HB1.out).trans hF2 (fun k hk e => by rw [e] at hk ⊢; exact hin hk (HS.out.need i n HN.out).role))
  have HIN := Lib.hid (And.intro (hin (k := P) (fp_lt_of_heap HS.out.head) HS.out.role) (fun k hk => hin (k := k) (HS.out.arr.lt k hk) (HS.out.arole k hk)))
  clear hw2 hF2 hh2 hS2 hi2 hlen hn' hb' hin f1 e1
  by_cases h0 : n.uses - 1 = 0
  · have hb0 : (n.uses - 1 == 0) = true := beq_iff_eq.2 h0
    have H0 := Lib.hid h0
    clear h0
    go_wp2_with fail
    have hdel := pdelete_any v ((L.set i n').map PN.blk) i w2 HS2.out.arr (by rw [List.length_map, HL2.out]; exact HIL.out) (by rw [List.length_map, HL2.out]; exact hl6)
    rw [HV.out] at hdel
    refine hdel.mono ?_
    rintro e w3 ⟨v', rfl, hA3, hv3, hF3⟩
    obtain ⟨a3, m3, cap3, rfl⟩ : ∃ a m c, v' = .slice a m c := by
      obtain ⟨a3, cap3, h3, -⟩ := hA3.form
      exact ⟨a3, _, cap3, h3⟩
    rw [← HV.out] at hv3 hF3
    have hP3 := hF3.heap HS2.out.head (fun e => by
      have h1 := HS2.out.arole P e
      rw [HS2.out.role] at h1
      simp at h1)
    have d4 : w3.cell? ⟨P, 4, none⟩ = some v := fr_cell_of_heap hP3 rfl
    have g4 : w3.frozen? ⟨P, 4, none⟩ = false := fr_free_of_heap hP3
    have HP3 := Lib.hid hP3
    have HD3 := Lib.hid (And.intro hA3 (And.intro hv3 hF3))
    clear hdel hA3 hv3 hF3 hP3 c4 n1
    go_upto_region 7 with fail
    obtain ⟨w4, hw4⟩ : ∃ w4 : World, w4 = w3.setCell ⟨P, 4, none⟩ (.slice a3 m3 cap3) := ⟨_, rfl⟩
    rw [← hw4]
    have hF4 : Fp (fun j => j = P) w3 w4 := by rw [hw4]; exact (Fp.refl (fun j => j = P) w3).setCell (p := ⟨P, 4, none⟩) (fun _ => rfl) _
    have hh4 : w4.heap[P]? = some (ppO x next (.slice a3 m3 cap3)) := by rw [hw4]; exact fr_setCell_at HP3.out
    have HG := Lib.hid (HS2.out.gone HD3.out.2.2 HD3.out.1 HD3.out.2.1 hF4 hh4)
    have HF4 := Lib.hid hF4
    clear hw4 hF4 hh4 d4 g4
    go_wp2_with fail
    go_ret
    refine ⟨rfl, _, fence ρ w, fence_later ρ w, fun _ hk => .inl (fence_far hk), by unfold leftL; rw [if_pos H0.out, ← HN'.out]; exact HG.out, (HFW.out.trans HD3.out.2.2 (fun k hk e => HIN.out.2 k e)).trans HF4.out (fun k hk e => by rw [e]; exact HIN.out.1)⟩
  · have hb0 : (n.uses - 1 == 0) = false := beq_eq_false_iff_ne.2 h0
    have H0 := Lib.hid h0
    clear h0
    go_wp2_with fail
    go_ret
    exact ⟨rfl, v, fence ρ w, fence_later ρ w, fun _ hk => .inl (fence_far hk), by unfold leftL; rw [if_neg H0.out, ← HN'.out]; exact HS2.out, HFW.out⟩
set_option maxRecDepth 100000 in
set_option maxHeartbeats 2000000 in
theorem puses_some (s : ByteArray) (i : Nat) (n : PN) (w : World) (hS : PoolAt ρ w P x next v L) (hO : PoolOk x L) (hp : placeP s L = i) (hn : L[i]? = some n) :
    Calls Tryz.prog 18 #[.pointer (some ⟨P, 0, none⟩), .string s] w fun e w' => e = .returned (.int .i64 n.uses) ∧ Below w.heap.size w w' := by
  have HS := Lib.hid hS
  have HO := Lib.hid hO
  have HP := Lib.hid hp
  have HN := Lib.hid hn
  have hil : i < L.length := (List.getElem?_eq_some_iff.1 hn).1
  have hl6 := hO.few
  clear hS hO hp hn
  go_enter Tryz.func18, Tryz.ntmps18
  go_wp2_with fail
  refine (pfind_any s _ HS.out HO.out.few).mono ?_
  rintro e w1 ⟨rfl, hb1⟩
  rw [HP.out]
  have HB1 := Lib.hid hb1
  have hS1 := HS.out.below hb1
  have hN1 := hS1.need i n HN.out
  obtain ⟨g, off, cap, hv, hg⟩ := hS1.at HN.out
  have c4 : w1.cell? ⟨P, 4, none⟩ = some (.slice (some ⟨g, off, none⟩) L.length cap) := by rw [← hv]; exact fr_cell_of_heap hS1.head rfl
  have n1 : w1.cell? ⟨n.blk, 1, none⟩ = some (.int .i64 n.uses) := fr_cell_of_heap hN1.blk rfl
  have h2 : (i : Int) < (L.length : Int) := by omega
  clear hb1 hS1 hN1 hv
  go_wp2_with fail
  go_ret
  exact ⟨rfl, HB1.out⟩
set_option maxRecDepth 100000 in
set_option maxHeartbeats 4000000 in
theorem pdrop_none (E : Ent) (w : World) (hS : PoolAt ρ w P x next v L) (hO : PoolOk x L) (h : placeP E.need L = -1 ∨ E.cls < 0 ∨ (x.classes : Int) ≤ E.cls) :
    Calls Tryz.prog 12 #[.pointer (some ⟨P, 0, none⟩), entV E] w fun e w' => e = .returned (.bool false) ∧ Below w.heap.size w w' := by
  have HS := Lib.hid (hS.below (box_below (o := .cells (entC E) 25)))
  have HO := Lib.hid hO
  have HH := Lib.hid h
  clear hS hO h
  unfold entV
  go_enter Tryz.func12, Tryz.ntmps12
  go_upto_region 1 with fail
  obtain ⟨w1, hw1⟩ : ∃ w1 : World, w1 = w.alloc (.cells (entC E) 25) := ⟨_, rfl⟩
  rw [← hw1] at HS
  rw [← hw1]
  have hb1 : w1.heap[w.heap.size]? = some (.cells (entC E) 25 (0, 0)) := by rw [hw1]; exact fr_alloc_at
  have HB1 := Lib.hid (show Below w.heap.size w w1 by rw [hw1]; exact box_below)
  have e0 : w1.cell? ⟨w.heap.size, 0, none⟩ = some (.string E.need) := fr_cell_of_heap hb1 rfl
  have e1 : w1.cell? ⟨w.heap.size, 1, none⟩ = some (.int .i64 E.cls) := fr_cell_of_heap hb1 rfl
  have e2 : w1.cell? ⟨w.heap.size, 2, none⟩ = some (.int .i64 E.ten) := fr_cell_of_heap hb1 rfl
  have e4 : w1.cell? ⟨w.heap.size, 4, none⟩ = some (.int .i64 E.inv) := fr_cell_of_heap hb1 rfl
  have e6 : w1.cell? ⟨w.heap.size, 6, none⟩ = some (.int .i64 E.id) := fr_cell_of_heap hb1 rfl
  have HSD := Lib.hid (HS.out.below (w' := w1.drew) ⟨rfl, rfl, rfl, Nat.le_refl _, fun _ _ => rfl⟩)
  clear hw1 hb1
  go_region_held3 (fun w' => w'.cell? ⟨w.heap.size, 0, none⟩ = some (.string E.need) ∧ w'.cell? ⟨w.heap.size, 1, none⟩ = some (.int .i64 E.cls) ∧ w'.cell? ⟨w.heap.size, 2, none⟩ = some (.int .i64 E.ten) ∧ w'.cell? ⟨w.heap.size, 4, none⟩ = some (.int .i64 E.inv) ∧ w'.cell? ⟨w.heap.size, 6, none⟩ = some (.int .i64 E.id))
    (first | go_keep | exact ⟨cell_below hb3 c0, cell_below hb3 c1, cell_below hb3 c2, cell_below hb3 c4, cell_below hb3 c6⟩ | exact ⟨c0, c1, c2, c4, c6⟩)
    (first
      | (go_at_call 30; refine (pshare_none E.need E.cls w1.drew HSD.out HO.out.few HH.out).mono ?_; rintro e w2 ⟨rfl, hb2⟩; (have c0 := cell_below (w := w1.drew) hb2 e0); (have c1 := cell_below (w := w1.drew) hb2 e1); (have c2 := cell_below (w := w1.drew) hb2 e2); (have c4 := cell_below (w := w1.drew) hb2 e4); (have c6 := cell_below (w := w1.drew) hb2 e6))
      | (go_at_call 32; refine (shareDrop_nil E.ten E.inv E.id w2).mono ?_; rintro e w3 ⟨rfl, hb3⟩))
  have HB3 := Lib.hid (HB1.out.trans ((show Below w1.heap.size w1 w3 from ⟨(hb2.trans (hb3.mono hb2.size)).os, (hb2.trans (hb3.mono hb2.size)).tape, (hb2.trans (hb3.mono hb2.size)).output, (hb2.trans (hb3.mono hb2.size)).size, (hb2.trans (hb3.mono hb2.size)).block⟩).mono HB1.out.size))
  clear hb2 hb3
  go_wp2_with fail
  go_ret
  exact ⟨rfl, HB3.out⟩
set_option maxRecDepth 100000 in
set_option maxHeartbeats 4000000 in
theorem pdrop_some (E : Ent) (i k : Nat) (n : PN) (c : PC) (w : World) (hS : PoolAt ρ w P x next v L) (hO : PoolOk x L) (hp : placeP E.need L = i) (hn : L[i]? = some n) (hk : E.cls = k) (hc : n.cls[k]? = some c) (hid : I64 E.id) :
    Calls Tryz.prog 12 #[.pointer (some ⟨P, 0, none⟩), entV E] w fun e w' => e = .returned (.bool (dropT E.ten E.inv E.id c.gv c.rows).1) ∧ TurnPost ρ w P x next v (L.set i { n with cls := n.cls.set k { c with gv := (dropT E.ten E.inv E.id c.gv c.rows).2.1, rows := (dropT E.ten E.inv E.id c.gv c.rows).2.2 } }) w' := by
  have HS0 := Lib.hid hS
  have HS := Lib.hid ((hS.later (fence_later ρ w)).below (box_below (o := .cells (entC E) 25)))
  have HO := Lib.hid hO
  have HP := Lib.hid hp
  have HN := Lib.hid hn
  have HK := Lib.hid hk
  have HC := Lib.hid hc
  have HI := Lib.hid hid
  clear hS hO hp hn hk hc hid
  unfold entV
  go_enter Tryz.func12, Tryz.ntmps12
  go_upto_region 1 with fail
  obtain ⟨w1, hw1⟩ : ∃ w1 : World, w1 = w.alloc (.cells (entC E) 25) := ⟨_, rfl⟩
  rw [← hw1] at HS
  rw [← hw1]
  have hb1 : w1.heap[w.heap.size]? = some (.cells (entC E) 25 (0, 0)) := by rw [hw1]; exact fr_alloc_at
  have HB1 := Lib.hid (show Below w.heap.size w w1 by rw [hw1]; exact box_below)
  have e0 : w1.cell? ⟨w.heap.size, 0, none⟩ = some (.string E.need) := fr_cell_of_heap hb1 rfl
  have e1 : w1.cell? ⟨w.heap.size, 1, none⟩ = some (.int .i64 k) := by rw [← HK.out]; exact fr_cell_of_heap hb1 rfl
  have e2 : w1.cell? ⟨w.heap.size, 2, none⟩ = some (.int .i64 E.ten) := fr_cell_of_heap hb1 rfl
  have e4 : w1.cell? ⟨w.heap.size, 4, none⟩ = some (.int .i64 E.inv) := fr_cell_of_heap hb1 rfl
  have e6 : w1.cell? ⟨w.heap.size, 6, none⟩ = some (.int .i64 E.id) := fr_cell_of_heap hb1 rfl
  have HSD := Lib.hid (HS.out.below (w' := w1.drew) ⟨rfl, rfl, rfl, Nat.le_refl _, fun _ _ => rfl⟩)
  have HFR := Lib.hid (show ¬ Part (Proofs.YtdbjihkgafhakaaGreatDoor.fence ρ w) [0, 6, (c.blk : Int)] w.heap.size from fence_new (by simp) (Nat.le_refl _))
  clear hw1 hb1
  go_region_held3 (fun w' => w'.cell? ⟨w.heap.size, 0, none⟩ = some (.string E.need) ∧ w'.cell? ⟨w.heap.size, 1, none⟩ = some (.int .i64 k) ∧ w'.cell? ⟨w.heap.size, 2, none⟩ = some (.int .i64 E.ten) ∧ w'.cell? ⟨w.heap.size, 4, none⟩ = some (.int .i64 E.inv) ∧ w'.cell? ⟨w.heap.size, 6, none⟩ = some (.int .i64 E.id))
    (first | go_keep | exact ⟨hF3.cell c0 HFR.out, hF3.cell c1 HFR.out, hF3.cell c2 HFR.out, hF3.cell c4 HFR.out, hF3.cell c6 HFR.out⟩ | exact ⟨c0, c1, c2, c4, c6⟩)
    (first
      | (go_at_call 30; refine (pshare_some E.need i k n c w1.drew HSD.out HO.out.few HP.out HN.out HC.out HO.out.cls).mono ?_; rintro e w2 ⟨rfl, hb2⟩; (have c0 := cell_below (w := w1.drew) hb2 e0); (have c1 := cell_below (w := w1.drew) hb2 e1); (have c2 := cell_below (w := w1.drew) hb2 e2); (have c4 := cell_below (w := w1.drew) hb2 e4); (have c6 := cell_below (w := w1.drew) hb2 e6))
      | (go_at_call 32; refine (shareDrop_any (pre := [0, 6, (c.blk : Int)]) (ρ := Proofs.YtdbjihkgafhakaaGreatDoor.fence ρ w) E.ten E.inv E.id w2 (((HSD.out.below hb2).need i n HN.out).cls k c HC.out).share HI.out).mono ?_; rintro e w3 ⟨rfl, hR3, hF3⟩))
  have hB2 : Below w.heap.size w w2 := HB1.out.trans ((show Below w1.heap.size w1 w2 from ⟨hb2.os, hb2.tape, hb2.output, hb2.size, hb2.block⟩).mono HB1.out.size)
  have HT := Lib.hid (turn_class HS0.out HN.out HC.out hB2 (Later.refl _ _) (fun j hj => .inl (fence_far (Nat.le_trans hB2.size hj))) hR3 hF3)
  clear hb2 hR3 hF3 hB2
  go_wp2_with fail
  go_ret
  exact ⟨rfl, HT.out⟩
end
end Go.Proofs.YtdbjihkgafhakaaGreatDoor
namespace Go.Proofs.YtdbjihkgafhakaaGreatDoor
open Go.RowKit
set_option maxRecDepth 100000 in
set_option maxHeartbeats 2000000 in
theorem pnew_nil (a m q : Int) (w : World) (h : ¬ (1 ≤ a ∧ 1 ≤ m ∧ 1 ≤ q ∧ q ≤ 64)) : Calls Tryz.prog 6 #[.int .i64 a, .int .i64 m, .int .i64 q] w fun e w' => e = .returned (.pointer none) ∧ Below w.heap.size w w' := by
  have h2 : a < 1 ∨ (¬ a < 1 ∧ m < 1) ∨ (¬ a < 1 ∧ ¬ m < 1 ∧ ¬ (1 ≤ q ∧ q ≤ 64)) := by omega
  clear h
  rcases h2 with h1 | ⟨h1, h2⟩ | ⟨h1, h2, h3⟩
  · go_enter Tryz.func6, Tryz.ntmps6
    go_wp2_with fail
    go_ret
    exact ⟨rfl, Below.refl _ _⟩
  · go_enter Tryz.func6, Tryz.ntmps6
    go_wp2_with fail
    go_ret
    exact ⟨rfl, Below.refl _ _⟩
  · have H3 := Lib.hid h3
    clear h3
    go_enter Tryz.func6, Tryz.ntmps6
    go_wp2_with fail
    refine (shareNew_nil q _ H3.out).mono ?_
    rintro e w1 ⟨rfl, hb⟩
    have HB := Lib.hid hb
    clear hb
    go_wp2_with fail
    go_ret
    exact ⟨rfl, HB.out⟩
def newRho (w : World) : Roles := fun k => if k = w.heap.size + 2 then [0, 1] else []
set_option maxRecDepth 100000 in
set_option maxHeartbeats 2000000 in
theorem pnew_any (a q : Int) (m : Nat) (w : World) (h1 : 1 ≤ a) (h2 : 1 ≤ m) (h3 : 1 ≤ q) (h4 : q ≤ 64) : Calls Tryz.prog 6 #[.int .i64 a, .int .i64 m, .int .i64 q] w fun e w' => e = .returned (.pointer (some ⟨w.heap.size + 2, 0, none⟩)) ∧ Below w.heap.size w w' ∧ PoolAt (newRho w) w' (w.heap.size + 2) ⟨a, m, q⟩ 0 (.slice none 0 0) [] := by
  have H := Lib.hid (And.intro h3 h4)
  have h1' : ¬ a < 1 := by omega
  have h2' : ¬ (m : Int) < 1 := by omega
  clear h1 h2 h3 h4
  go_enter Tryz.func6, Tryz.ntmps6
  go_wp2_with fail
  refine (shareNew_any q _ H.out.1 H.out.2).mono ?_
  rintro e w1 ⟨rfl, hw1⟩
  have hb1 : Below w.heap.size w w1 := by rw [hw1]; exact box_below.alloc (by simp) _
  have hz1 : w1.heap.size = w.heap.size + 2 := by rw [hw1]; simp
  have HB1 := Lib.hid hb1
  have HZ1 := Lib.hid hz1
  clear hw1 hb1 hz1
  go_wp2_with fail
  go_ret
  refine ⟨by rw [← HZ1.out]; rfl, HB1.out.trans (box_below.mono HB1.out.size), ⟨by rw [← HZ1.out]; exact fr_alloc_at, by simp [newRho], .inl ⟨rfl, rfl⟩, (fun k hk => by cases hk), (fun i n hn => by simp at hn), (by simp)⟩⟩
section
variable {ρ : Roles} {P : Nat} {x : PX} {next : Int} {v : Value} {L : List PN} {w : World}
set_option maxRecDepth 100000 in
set_option maxHeartbeats 2000000 in
theorem penter_full (s : ByteArray) (w : World) (hS : PoolAt ρ w P x next v L) (hO : PoolOk x L) (hp : placeP s L = -1) (hf : x.pools ≤ (L.length : Int)) :
    Calls Tryz.prog 9 #[.pointer (some ⟨P, 0, none⟩), .string s] w fun e w' => e = .returned (.int .i64 14) ∧ Below w.heap.size w w' := by
  have HS := Lib.hid hS
  have HO := Lib.hid hO
  have HP := Lib.hid hp
  clear hS hO hp
  go_enter Tryz.func9, Tryz.ntmps9
  go_wp2_with fail
  refine (pfind_any s _ HS.out HO.out.few).mono ?_
  rintro e w1 ⟨rfl, hb1⟩
  rw [HP.out]
  have HB1 := Lib.hid hb1
  have hS1 := HS.out.below hb1
  obtain ⟨a, cap, hv, -⟩ := hS1.form
  have c4 : w1.cell? ⟨P, 4, none⟩ = some (.slice a L.length cap) := by rw [← hv]; exact fr_cell_of_heap hS1.head rfl
  have c0 : w1.cell? ⟨P, 0, none⟩ = some (.int .i64 x.pools) := fr_cell_of_heap hS1.head rfl
  clear hb1 hS1 hv
  go_upto_region 7 with fail
  go_region
  go_wp2_with fail
  go_ret
  exact ⟨rfl, below_drewN HB1.out 1⟩
set_option maxRecDepth 100000 in
set_option maxHeartbeats 4000000 in
theorem penter_old (s : ByteArray) (i : Nat) (n : PN) (w : World) (hS : PoolAt ρ w P x next v L) (hO : PoolOk x L) (hp : placeP s L = i) (hn : L[i]? = some n) (hu : 0 ≤ n.uses ∧ n.uses ≤ 1000000000) :
    Calls Tryz.prog 9 #[.pointer (some ⟨P, 0, none⟩), .string s] w fun e w' => e = .returned (.int .i64 0) ∧ TurnPost ρ w P x next v (L.set i { n with uses := n.uses + 1 }) w' := by
  have HS := Lib.hid (hS.later (fence_later ρ w))
  have HO := Lib.hid hO
  have HP := Lib.hid hp
  have HN := Lib.hid hn
  have hil : i < L.length := (List.getElem?_eq_some_iff.1 hn).1
  have e1 : wrap64 (n.uses + 1) = n.uses + 1 := by unfold wrap64; omega
  have hl6 := hO.few
  clear hS hO hp hn hu
  go_enter Tryz.func9, Tryz.ntmps9
  go_wp2_with fail
  refine (pfind_any s _ HS.out HO.out.few).mono ?_
  rintro e w1 ⟨rfl, hb1⟩
  rw [HP.out]
  have HB1 := Lib.hid hb1
  have hS1 := HS.out.below hb1
  have hN1 := hS1.need i n HN.out
  obtain ⟨g, off, cap, hv, hg⟩ := hS1.at HN.out
  have c4 : w1.cell? ⟨P, 4, none⟩ = some (.slice (some ⟨g, off, none⟩) L.length cap) := by rw [← hv]; exact fr_cell_of_heap hS1.head rfl
  have n1 : w1.cell? ⟨n.blk, 1, none⟩ = some (.int .i64 n.uses) := fr_cell_of_heap hN1.blk rfl
  have f1 : w1.frozen? ⟨n.blk, 1, none⟩ = false := fr_free_of_heap hN1.blk
  have h2 : (i : Int) < (L.length : Int) := by omega
  have HS1 := Lib.hid hS1
  clear hb1 hS1 hN1 hv
  go_upto_region 6 with fail
  try rw [e1]
  obtain ⟨w2, hw2⟩ : ∃ w2 : World, w2 = w1.setCell ⟨n.blk, 1, none⟩ (.int .i64 (n.uses + 1)) := ⟨_, rfl⟩
  rw [← hw2]
  have hF2 : Fp (fun j => j = n.blk) w1 w2 := by rw [hw2]; exact (Fp.refl (fun j => j = n.blk) w1).setCell (p := ⟨n.blk, 1, none⟩) (fun _ => rfl) _
  have hh2 : w2.heap[n.blk]? = some (pnO { n with uses := n.uses + 1 }) := by rw [hw2]; exact fr_setCell_at (HS1.out.need i n HN.out).blk
  have HS2 := Lib.hid (HS1.out.used HN.out hF2 hh2)
  have hin : ∀ {k : Nat} {r : List Int}, k < w.heap.size → Proofs.YtdbjihkgafhakaaGreatDoor.fence ρ w k = 0 :: r → Part ρ [0] k := fun {k r} hk e => ⟨r, by rw [← fence_later ρ w k hk, e]; rfl⟩
  have HFW := Lib.hid ((Fp.of_below (S := Part ρ [0]) HB1.out).trans hF2 (fun k hk e => by rw [e] at hk ⊢; exact hin hk (HS.out.need i n HN.out).role))
  clear hw2 hF2 hh2 hin f1 e1 n1 c4 hg
  go_wp2_with fail
  go_ret
  exact ⟨rfl, fence ρ w, fence_later ρ w, fun _ hk => .inl (fence_far hk), HS2.out, HFW.out⟩
end
end Go.Proofs.YtdbjihkgafhakaaGreatDoor
