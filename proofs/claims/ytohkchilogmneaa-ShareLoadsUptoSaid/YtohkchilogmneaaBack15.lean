/-
  law15: back: the walk; a document's rows that came in.
-/
import Derived.Test.YtohkchilogmneaaTwin
import Derived.Test.YtohkchilogmneaaRight15
namespace Go.Proofs.Ytohkchilogmneaa
open Go.RowKit Go.Sort

set_option maxRecDepth 100000 in
set_option maxHeartbeats 4000000 in
/-- THE WALK: back. -/
theorem back15_any (v : Value) (l : List (FRow × Value)) (w : World) (hl : RowsAt w v l) (hlen : l.length < 1000000) : Calls Try.prog 26 #[v] w fun e w' => ∃ v', e = .returned v' ∧ RowsAt w' v' l ∧ Below w.heap.size w w' := by
  have HL := Lib.hid hl
  have HLEN := Lib.hid hlen
  obtain ⟨a, cap, rfl, -⟩ := hl.form
  clear hl hlen
  go_enter Try.func26, Try.ntmps26
  go_wp2_with fail
  go_loopg [3, 4] l.length (fun g ov i wr => ∃ k : Nat, g = l.length - k ∧ i = .int .i64 k ∧ k ≤ l.length ∧ wr.ownsRow w.heap.size 48 4 ov (l.take k).length (flatRV (l.take k)) ∧ Below w.heap.size w wr)
  case atStart => exact ⟨0, rfl, rfl, Nat.zero_le _, own_empty (Nat.le_refl _), box_below⟩
  case round =>
    obtain ⟨k, hg, rfl, hk, ho, hb⟩ := hrel
    have HG := Lib.hid hg
    have HO := Lib.hid ho
    have HB := Lib.hid hb
    clear hg ho hb
    by_cases hlt : k < l.length
    · obtain ⟨⟨x, vx⟩, hx⟩ : ∃ p, l[k]? = some p := ⟨_, List.getElem?_eq_getElem hlt⟩
      have HXX := Lib.hid hx
      obtain ⟨ax, cx, rfl⟩ : ∃ ax cx, vx = .slice ax x.its.length cx := its_form (HL.out.its _ (List.mem_of_getElem? hx))
      obtain ⟨g, off, cap', hv, _, c0, c1, c2, c3⟩ := (HL.out.below HB.out).at hx
      cases hv
      simp only at c0 c1 c2 c3
      have HT := Lib.hid (show l.take (k + 1) = l.take k ++ [(x, .slice ax x.its.length cx)] by rw [List.take_succ_eq_append_getElem hlt, (List.getElem?_eq_some_iff.1 hx).2])
      have hkl : (k : Int) < (l.length : Int) := by omega
      have htl : (l.take k).length = k := by rw [List.length_take]; omega
      have hf := HLEN.out
      obtain ⟨D, hD⟩ : ∃ D, D = l.take k := ⟨_, rfl⟩
      rw [← hD] at HO HT htl
      rw [htl] at HO
      have hgw : g < w.heap.size := by
        obtain ⟨g2, off2, cap2, hv2, _, q0, _⟩ := HL.out.at hx
        cases hv2
        exact World.block_lt_of_cell? w _ q0
      obtain ⟨i0, hi0, hz0, hz1, hz2⟩ := info_parts frow_info
      have hw1 := HB.out.size
      clear hx hD
      go_upto_region 5 with fail
      go_region_held3 (fun w' => w'.cell? ⟨g, off + k * 4, none⟩ = some (.int .i64 x.id) ∧ w'.cell? ⟨g, off + k * 4 + 1, none⟩ = some (.int .i64 x.wt) ∧ w'.cell? ⟨g, off + k * 4 + 2, none⟩ = some (.int .i64 x.df) ∧ w'.cell? ⟨g, off + k * 4 + 3, none⟩ = some (.slice ax x.its.length cx))
        (first
          | go_keep
          | exact ⟨(hb9.cell (p := ⟨g, off + k * 4, none⟩) hgw).trans ((HB.out.cell (p := ⟨g, off + k * 4, none⟩) hgw).symm.trans c0), (hb9.cell (p := ⟨g, off + k * 4 + 1, none⟩) hgw).trans ((HB.out.cell (p := ⟨g, off + k * 4 + 1, none⟩) hgw).symm.trans c1), (hb9.cell (p := ⟨g, off + k * 4 + 2, none⟩) hgw).trans ((HB.out.cell (p := ⟨g, off + k * 4 + 2, none⟩) hgw).symm.trans c2), (hb9.cell (p := ⟨g, off + k * 4 + 3, none⟩) hgw).trans ((HB.out.cell (p := ⟨g, off + k * 4 + 3, none⟩) hgw).symm.trans c3)⟩)
        (first
          | (refine step_append_lies _ (by rfl) _ _ _ (by rfl) w.heap.size 48 i0 _ 4 48 Try.underlying44 hi0 hz0 hz1 hz2 rfl (by omega) u3 k (flatRV D) (by rfl) ((own_below HO.out ⟨rfl, rfl, rfl, Nat.le_refl _, fun _ _ => rfl⟩).alloc _)
                    ⟨wr.heap.size, 0, none⟩ 1 1 (encRV (x, .slice ax x.its.length cx)) (by rfl) (by rfl) (World.news_of_block (cs := #[.int .i64 x.id, .int .i64 x.wt, .int .i64 x.df, .slice ax x.its.length cx]) (t := 48) (fr := (0, 0)) (heap_alloc_new _ _)) (by simp [Value.oneCell', encRV]) (by omega) (by unfold maxLen; omega) (by omega) (by simp; omega) (wr.heap.size + 1) (by simp) ?_; intro gg gcap w9 hown9 hgrow hat hlt9; (have hb9 : Below w.heap.size w w9 := (HB.out.alloc hw1 _).trans ⟨hgrow.os, hgrow.tape, hgrow.output, Nat.le_trans (by simp) hgrow.size, fun j hj => hgrow.block j (by simp; omega) (fun e => by have := own_block HO.out j e.symm; omega)⟩)))
      have HO9 := Lib.hid hown9
      have HB9 := Lib.hid hb9
      clear hown9 hgrow hat hlt9 hb9 hi0 hz0 hz1 hz2 hgw c0 c1 c2 c3
      go_wp2_with fail
      go_roundg (l.length - (k + 1))
      case rel => exact ⟨k + 1, rfl, by go_num, by omega, by rw [HT.out, List.length_append, flatRV_snoc, htl]; exact HO9.out, HB9.out⟩
      case measure => have := HG.out; omega
    · have HK := Lib.hid (show l.take k = l from List.take_of_length_le (by omega))
      go_wp2_with fail
      go_ret
      have h := HO.out
      rw [HK.out] at h
      exact ⟨_, rfl, rows_own h (fun p hp => (HL.out.its p hp).below HB.out), HB.out⟩
/-- What is known of a row that came in. -/
def RowOk15 (p : FRow × Value) : Prop := I64 p.1.id ∧ ∀ y ∈ p.1.its, I64 y.id
section
open Go.ChangeShapes Go.WideShapes Go.ChangeAt Go.Deep
variable {H : Type} {enc : TypeId × Value → H} {W : World} {base : Nat} {sp : Nat → Bool} {hd : Bool}
theorem it_cells : Try.prog.cellsOf 37 = 2 := by kernel_rfl
theorem it_fields : ∃ fs, Try.prog.underlying 37 = some (.struct fs) ∧ fs.size = 2 ∧ fs.toList.map (fun f => (f.type, f.offset)) = [(3, 0), (3, 1)] := ⟨_, Try.underlying37, by kernel_rfl, by kernel_rfl⟩
theorem rr_cells : Try.prog.cellsOf 56 = 4 := by kernel_rfl
theorem its_cells : Try.prog.cellsOf 46 = 1 := by kernel_rfl
theorem rr_fields : ∃ fs, Try.prog.underlying 56 = some (.struct fs) ∧ fs.size = 4 ∧ fs.toList.map (fun f => (f.type, f.offset)) = [(3, 0), (3, 1), (3, 2), (46, 3)] := ⟨_, Try.underlying56, by kernel_rfl, by kernel_rfl⟩
set_option maxRecDepth 100000 in
theorem dec_it {n : Nat} {cs : List Value} {y : DataW H × List MemPlace} (h : DataW.trod enc Try.prog W base sp hd n 37 cs = some y) (_hz : ∀ z ∈ y.1.weights Try.prog 37, z ≤ 140737488351232) : ∃ x : It, cs = encI x ∧ I64 x.id := by
  obtain ⟨fs, hu, hsz, hfs⟩ := it_fields
  obtain ⟨ys, m, _, hy, hlen, hyl, hf⟩ := DataW.trod_struct hu h
  rw [it_cells] at hlen
  have hys (j : Nat) (hj : j < 2) : ys[j]? = some (ys[j]'(by omega)) := List.getElem?_eq_getElem (by omega)
  obtain ⟨u0, u1, rfl⟩ : ∃ u0 u1, cs = [u0, u1] := by
    match cs, hlen with
    | [u0, u1], _ => exact ⟨_, _, rfl⟩
  have key (j : Nat) (t : TypeId) (o : Nat) (ht : ([(3, 0), (3, 1)] : List (TypeId × Nat))[j]? = some (t, o)) (h1 : Try.prog.cellsOf t = 1) : DataW.trod enc Try.prog W base sp hd m t (([u0, u1].drop o).take 1) = ys[j]? := by
    obtain ⟨f, hj, rfl, rfl⟩ := field_of hfs ht
    have := hf j f hj
    rw [h1] at this
    exact this
  obtain ⟨k0, e0, w0⟩ := dec_i64 (key 0 _ _ rfl o_int) (hys 0 (by omega))
  obtain ⟨k1, e1, w1⟩ := dec_i64 (key 1 _ _ rfl o_int) (hys 1 (by omega))
  simp at e0 e1
  subst e0 e1
  exact ⟨⟨k0, k1⟩, rfl, w0⟩
theorem open_its {fuel : Nat} {v : Value} {x : DataW H × List MemPlace} (hz : ∀ z ∈ x.1.weights Try.prog 46, z ≤ 140737488351232) (h : DataW.trod enc Try.prog W base sp hd fuel 46 [v] = some x) : ∃ l, ItsAt W v l ∧ ∀ y ∈ l, I64 y.id := by
  obtain ⟨l, a, cap, hv, _, _, hq, hc⟩ := open_enc encI 2 encI_len (by decide) (fun x => I64 x.id) Try.underlying46 it_cells (fun n cs y h1 h2 => dec_it h1 h2) hz h
  exact ⟨l, ⟨a, cap, hv, hc⟩, hq⟩
set_option maxRecDepth 100000 in
theorem dec_rr {n : Nat} {cs : List Value} {y : DataW H × List MemPlace} (h : DataW.trod enc Try.prog W base sp hd n 56 cs = some y) (hz : ∀ z ∈ y.1.weights Try.prog 56, z ≤ 140737488351232) :
    ∃ p : FRow × Value, cs = encRV p ∧ ItsAt W p.2 p.1.its ∧ RowOk15 p := by
  obtain ⟨fs, hu, hsz, hfs⟩ := rr_fields
  obtain ⟨ys, m, _, hy, hlen, hyl, hf⟩ := DataW.trod_struct hu h
  rw [rr_cells] at hlen
  have hys (j : Nat) (hj : j < 4) : ys[j]? = some (ys[j]'(by omega)) := List.getElem?_eq_getElem (by omega)
  obtain ⟨u0, u1, u2, u3, rfl⟩ : ∃ u0 u1 u2 u3, cs = [u0, u1, u2, u3] := by
    match cs, hlen with
    | [u0, u1, u2, u3], _ => exact ⟨_, _, _, _, rfl⟩
  have key (j : Nat) (t : TypeId) (o : Nat) (ht : ([(3, 0), (3, 1), (3, 2), (46, 3)] : List (TypeId × Nat))[j]? = some (t, o)) (h1 : Try.prog.cellsOf t = 1) : DataW.trod enc Try.prog W base sp hd m t (([u0, u1, u2, u3].drop o).take 1) = ys[j]? := by
    obtain ⟨f, hj, rfl, rfl⟩ := field_of hfs ht
    have := hf j f hj
    rw [h1] at this
    exact this
  obtain ⟨k0, e0, w0⟩ := dec_i64 (key 0 _ _ rfl o_int) (hys 0 (by omega))
  obtain ⟨k1, e1, w1⟩ := dec_i64 (key 1 _ _ rfl o_int) (hys 1 (by omega))
  obtain ⟨k2, e2, w2⟩ := dec_i64 (key 2 _ _ rfl o_int) (hys 2 (by omega))
  simp at e0 e1 e2
  have h3 := (key 3 _ _ rfl its_cells).trans (hys 3 (by omega))
  obtain ⟨f3, hj3, ht3, _⟩ := field_of hfs (j := 3) rfl
  obtain ⟨l, hl, hq⟩ := open_its (v := u3) (fun z hzz => hz z (by
    rw [hy]
    exact weights_struct_mem hu hj3 (d := ys[3].1) (by simp [hys 3 (by omega)]) (by rw [ht3]; exact hzz))) h3
  subst e0 e1 e2
  exact ⟨(⟨k0, k1, k2, l⟩, u3), rfl, hl, w0, hq⟩
theorem open_rrs {fuel : Nat} {v : Value} {x : DataW H × List MemPlace} (hz : ∀ z ∈ x.1.weights Try.prog 51, z ≤ 140737488351232) (h : DataW.trod enc Try.prog W base sp hd fuel 51 [v] = some x) : ∃ l, RowsAt W v l ∧ ∀ p ∈ l, RowOk15 p := by
  obtain ⟨l, a, cap, hv, hle, _, hq, hc⟩ := open_enc encRV 4 encRV_len (by decide) (fun p => ItsAt W p.2 p.1.its ∧ RowOk15 p) Try.underlying51 rr_cells (fun n cs y h1 h2 => dec_rr h1 h2) hz h
  exact ⟨l, ⟨⟨a, cap, hv, hle, hc⟩, fun p hp => (hq p hp).1⟩, fun p hp => (hq p hp).2⟩
end
end Go.Proofs.Ytohkchilogmneaa
