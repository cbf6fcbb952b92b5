/-
  A document's share's rows that came in, and what they measure.
-/
import Derived.Test.YtohkchilogmneaaBulk2
import Derived.Test.YtohkchilogmneaaBack15
import Derived.Test.YtohkchilogmneaaSLoads
namespace Go.Proofs.Ytohkchilogmneaa
open Go.ChangeShapes Go.WideShapes Go.ChangeAt Go.RowKit Go.Deep

section
variable {H : Type} {enc : TypeId × Value → H} {W : World} {base : Nat} {sp : Nat → Bool} {hd : Bool}
theorem it_bulk {n : Nat} {cs : List Value} {y : DataW H × List MemPlace} (h : DataW.trod enc Try.prog W base sp hd n 37 cs = some y) : 2 ≤ Rows.uptoBulk y.1 := by
  obtain ⟨fs, hu, hsz, hfs⟩ := it_fields
  obtain ⟨ys, m, _, hy, hlen, hyl, hf⟩ := DataW.trod_struct hu h
  rw [hy]
  have h0 : ys[0]? = some (ys[0]'(by omega)) := List.getElem?_eq_getElem (by omega)
  have h1 := bulk_agg (d := (ys[0]'(by omega)).1) (l := ys.map Prod.fst) (List.mem_map_of_mem (List.getElem_mem _))
  have h2 := bulk_pos (ys[0]'(by omega)).1
  exact Nat.le_trans (Nat.succ_le_succ h2) h1
theorem open_itsM {fuel : Nat} {v : Value} {x : DataW H × List MemPlace} (hz : ∀ z ∈ x.1.weights Try.prog 46, z ≤ 140737488351232) (h : DataW.trod enc Try.prog W base sp hd fuel 46 [v] = some x) : ∃ l, ItsAt W v l ∧ (∀ y ∈ l, I64 y.id) ∧ 2 * l.length ≤ Rows.uptoBulk x.1 := by
  obtain ⟨l, a, cap, hv, _, hq, hs, hc⟩ := open_enc_sum encI 2 encI_len (by decide) (fun x => I64 x.id) (fun _ => 2 * 1) Try.underlying46 it_cells (fun n cs y h1 h2 => by
    obtain ⟨z, e, hq⟩ := dec_it h1 h2
    exact ⟨z, e, hq, it_bulk h1⟩) hz h
  refine ⟨l, ⟨a, cap, hv, hc⟩, hq, ?_⟩
  rw [sum_two, sum_one] at hs
  exact hs
set_option maxRecDepth 100000 in
theorem dec_rrM {n : Nat} {cs : List Value} {y : DataW H × List MemPlace} (h : DataW.trod enc Try.prog W base sp hd n 56 cs = some y) (hz : ∀ z ∈ y.1.weights Try.prog 56, z ≤ 140737488351232) :
    ∃ p : FRow × Value, cs = encRV p ∧ (ItsAt W p.2 p.1.its ∧ RowOk15 p) ∧ 2 * p.1.its.length ≤ Rows.uptoBulk y.1 := by
  obtain ⟨fs, hu, hsz, hfs⟩ := rr_fields
  obtain ⟨ys, m, _, hy, hlen, hyl, hf⟩ := DataW.trod_struct hu h
  rw [rr_cells] at hlen
  have hys (j : Nat) (hj : j < 4) : ys[j]? = some (ys[j]'(by omega)) := List.getElem?_eq_getElem (by omega)
  obtain ⟨u0, u1, u2, u3, rfl⟩ : ∃ u0 u1 u2 u3, cs = [u0, u1, u2, u3] := by
    match cs, hlen with
    | [u0, u1, u2, u3], _ => exact ⟨_, _, _, _, rfl⟩
  have key (j : Nat) (t : TypeId) (o : Nat) (ht : ([(3, 0), (3, 1), (3, 2), (46, 3)] : List (TypeId × Nat))[j]? = some (t, o)) (h1 : Try.prog.cellsOf t = 1) : DataW.trod enc Try.prog W base sp hd m t (([u0, u1, u2, u3].drop o).take 1) = ys[j]? := by
    obtain ⟨f, hj, rfl, rfl⟩ := field_of hfs ht
    have := hf j f hj
    rw [h1] at this
    exact this
  obtain ⟨k0, e0, w0⟩ := dec_i64 (key 0 _ _ rfl o_int) (hys 0 (by omega))
  obtain ⟨k1, e1, w1⟩ := dec_i64 (key 1 _ _ rfl o_int) (hys 1 (by omega))
  obtain ⟨k2, e2, w2⟩ := dec_i64 (key 2 _ _ rfl o_int) (hys 2 (by omega))
  simp at e0 e1 e2
  have h3 := (key 3 _ _ rfl its_cells).trans (hys 3 (by omega))
  obtain ⟨f3, hj3, ht3, _⟩ := field_of hfs (j := 3) rfl
  obtain ⟨l, hl, hq, hm⟩ := open_itsM (v := u3) (fun z hzz => hz z (by
    rw [hy]
    exact weights_struct_mem hu hj3 (d := ys[3].1) (by simp [hys 3 (by omega)]) (by rw [ht3]; exact hzz))) h3
  subst e0 e1 e2
  refine ⟨(⟨k0, k1, k2, l⟩, u3), rfl, ⟨hl, w0, hq⟩, Nat.le_trans hm ?_⟩
  rw [hy]
  exact Nat.le_of_succ_le (bulk_agg (List.mem_map_of_mem (List.getElem_mem _)))
theorem open_rrsM {fuel : Nat} {v : Value} {x : DataW H × List MemPlace} (hz : ∀ z ∈ x.1.weights Try.prog 51, z ≤ 140737488351232) (h : DataW.trod enc Try.prog W base sp hd fuel 51 [v] = some x) : ∃ l, RowsAt W v l ∧ (∀ p ∈ l, RowOk15 p) ∧ 2 * totR (l.map Prod.fst) ≤ Rows.uptoBulk x.1 := by
  obtain ⟨l, a, cap, hv, hle, hq, hs, hc⟩ := open_enc_sum encRV 4 encRV_len (by decide) (fun p => ItsAt W p.2 p.1.its ∧ RowOk15 p) (fun p => 2 * p.1.its.length) Try.underlying51 rr_cells (fun n cs y h1 h2 => dec_rrM h1 h2) hz h
  refine ⟨l, ⟨⟨a, cap, hv, hle, hc⟩, fun p hp => (hq p hp).1⟩, fun p hp => (hq p hp).2, ?_⟩
  unfold totR
  rw [List.map_map]
  rw [sum_two] at hs
  exact hs
theorem fr_cells : Try.prog.cellsOf 53 = 3 := by kernel_rfl
theorem frs_cells : Try.prog.cellsOf 51 = 1 := by kernel_rfl
theorem o_bool : Try.prog.cellsOf 4 = 1 := by kernel_rfl
theorem fr_fields : ∃ fs, Try.prog.underlying 53 = some (.struct fs) ∧ fs.size = 3 ∧ fs.toList.map (fun f => (f.type, f.offset)) = [(3, 0), (51, 1), (4, 2)] := ⟨_, Try.underlying53, by kernel_rfl, by kernel_rfl⟩
theorem dr_cells : Try.prog.cellsOf 90 = 6 := by kernel_rfl
theorem dr_fields : ∃ fs, Try.prog.underlying 90 = some (.struct fs) ∧ fs.size = 4 ∧ fs.toList.map (fun f => (f.type, f.offset)) = [(3, 0), (3, 1), (3, 2), (53, 3)] := ⟨_, Try.underlying90, by kernel_rfl, by kernel_rfl⟩
theorem dec_bool {n : Nat} {cs : List Value} {y : Option (DataW H × List MemPlace)} {ys : DataW H × List MemPlace} (h : DataW.trod enc Try.prog W base sp hd n 4 cs = y) (hy : y = some ys) : ∃ b : Bool, cs = [.bool b] := by
  subst hy
  obtain ⟨b, e, _⟩ := DataW.trod_bool Try.underlying4 h
  exact ⟨b, e⟩
set_option maxRecDepth 100000 in
theorem dec_fr {n : Nat} {cs : List Value} {y : DataW H × List MemPlace} (h : DataW.trod enc Try.prog W base sp hd n 53 cs = some y) (hz : ∀ z ∈ y.1.weights Try.prog 53, z ≤ 140737488351232) :
    ∃ (q : Int) (v : Value) (gv : Bool) (l : List (FRow × Value)), cs = [.int .i64 q, v, .bool gv] ∧ RowsAt W v l ∧ (∀ p ∈ l, RowOk15 p) ∧ 2 * totR (l.map Prod.fst) ≤ Rows.uptoBulk y.1 := by
  obtain ⟨fs, hu, hsz, hfs⟩ := fr_fields
  obtain ⟨ys, m, _, hy, hlen, hyl, hf⟩ := DataW.trod_struct hu h
  rw [fr_cells] at hlen
  have hys (j : Nat) (hj : j < 3) : ys[j]? = some (ys[j]'(by omega)) := List.getElem?_eq_getElem (by omega)
  obtain ⟨u0, u1, u2, rfl⟩ : ∃ u0 u1 u2, cs = [u0, u1, u2] := by
    match cs, hlen with
    | [u0, u1, u2], _ => exact ⟨_, _, _, rfl⟩
  have key (j : Nat) (t : TypeId) (o : Nat) (ht : ([(3, 0), (51, 1), (4, 2)] : List (TypeId × Nat))[j]? = some (t, o)) (h1 : Try.prog.cellsOf t = 1) : DataW.trod enc Try.prog W base sp hd m t (([u0, u1, u2].drop o).take 1) = ys[j]? := by
    obtain ⟨f, hj, rfl, rfl⟩ := field_of hfs ht
    have := hf j f hj
    rw [h1] at this
    exact this
  obtain ⟨k0, e0, w0⟩ := dec_i64 (key 0 _ _ rfl o_int) (hys 0 (by omega))
  obtain ⟨b2, e2⟩ := dec_bool (key 2 _ _ rfl o_bool) (hys 2 (by omega))
  simp at e0 e2
  have h3 := (key 1 _ _ rfl frs_cells).trans (hys 1 (by omega))
  obtain ⟨f3, hj3, ht3, _⟩ := field_of hfs (j := 1) rfl
  obtain ⟨l, hl, hq, hm⟩ := open_rrsM (v := u1) (fun z hzz => hz z (by
    rw [hy]
    exact weights_struct_mem hu hj3 (d := ys[1].1) (by simp [hys 1 (by omega)]) (by rw [ht3]; exact hzz))) h3
  subst e0 e2
  refine ⟨k0, u1, b2, l, rfl, hl, hq, Nat.le_trans hm ?_⟩
  rw [hy]
  exact Nat.le_of_succ_le (bulk_agg (List.mem_map_of_mem (List.getElem_mem _)))
set_option maxRecDepth 100000 in
theorem dec_dr {n : Nat} {cs : List Value} {y : DataW H × List MemPlace} (h : DataW.trod enc Try.prog W base sp hd n 90 cs = some y) (hz : ∀ z ∈ y.1.weights Try.prog 90, z ≤ 140737488351232) :
    ∃ p : DV, cs = encDV p ∧ (InvAt W p ∧ DRowNum p) ∧ 2 * totR p.1.rows ≤ Rows.uptoBulk y.1 := by
  obtain ⟨fs, hu, hsz, hfs⟩ := dr_fields
  obtain ⟨ys, m, _, hy, hlen, hyl, hf⟩ := DataW.trod_struct hu h
  rw [dr_cells] at hlen
  have hys (j : Nat) (hj : j < 4) : ys[j]? = some (ys[j]'(by omega)) := List.getElem?_eq_getElem (by omega)
  obtain ⟨u0, u1, u2, u3, u4, u5, rfl⟩ : ∃ u0 u1 u2 u3 u4 u5, cs = [u0, u1, u2, u3, u4, u5] := by
    match cs, hlen with
    | [u0, u1, u2, u3, u4, u5], _ => exact ⟨_, _, _, _, _, _, rfl⟩
  have key (j : Nat) (t : TypeId) (o k : Nat) (ht : ([(3, 0), (3, 1), (3, 2), (53, 3)] : List (TypeId × Nat))[j]? = some (t, o)) (h1 : Try.prog.cellsOf t = k) : DataW.trod enc Try.prog W base sp hd m t (([u0, u1, u2, u3, u4, u5].drop o).take k) = ys[j]? := by
    obtain ⟨f, hj, rfl, rfl⟩ := field_of hfs ht
    have := hf j f hj
    rw [h1] at this
    exact this
  obtain ⟨k0, e0, w0⟩ := dec_i64 (key 0 _ _ 1 rfl o_int) (hys 0 (by omega))
  obtain ⟨k1, e1, w1⟩ := dec_i64 (key 1 _ _ 1 rfl o_int) (hys 1 (by omega))
  obtain ⟨k2, e2, w2⟩ := dec_i64 (key 2 _ _ 1 rfl o_int) (hys 2 (by omega))
  simp at e0 e1 e2
  have h3 := (key 3 _ _ 3 rfl fr_cells).trans (hys 3 (by omega))
  obtain ⟨f3, hj3, ht3, _⟩ := field_of hfs (j := 3) rfl
  obtain ⟨q, v, gv, l, e3, hl, hq, hm⟩ := dec_fr h3 (fun z hzz => hz z (by
    rw [hy]
    exact weights_struct_mem hu hj3 (d := ys[3].1) (by simp [hys 3 (by omega)]) (by rw [ht3]; exact hzz)))
  have e3' : [u3, u4, u5] = [Value.int .i64 q, v, .bool gv] := e3
  simp only [List.cons.injEq, and_true] at e3'
  obtain ⟨rfl, rfl, rfl⟩ := e3'
  subst e0 e1 e2
  refine ⟨(⟨k0, k1, k2, gv, l.map Prod.fst⟩, q, u4, l), rfl, ⟨⟨hl, rfl⟩, w0, hq⟩, Nat.le_trans hm ?_⟩
  rw [hy]
  exact Nat.le_of_succ_le (bulk_agg (List.mem_map_of_mem (List.getElem_mem _)))
theorem open_drs {fuel : Nat} {v : Value} {x : DataW H × List MemPlace} (hz : ∀ z ∈ x.1.weights Try.prog 82, z ≤ 140737488351232) (h : DataW.trod enc Try.prog W base sp hd fuel 82 [v] = some x) : ∃ l, DRowsAt W v l ∧ (∀ p ∈ l, DRowNum p) ∧ 2 * totT (l.map Prod.fst) ≤ Rows.uptoBulk x.1 := by
  obtain ⟨l, a, cap, hv, hle, hq, hs, hc⟩ := open_enc_sum encDV 6 encDV_len (by decide) (fun p => InvAt W p ∧ DRowNum p) (fun p => 2 * totR p.1.rows) Try.underlying82 dr_cells (fun n cs y h1 h2 => dec_dr h1 h2) hz h
  refine ⟨l, ⟨⟨a, cap, hv, hle, hc⟩, fun p hp => (hq p hp).1⟩, fun p hp => (hq p hp).2, ?_⟩
  unfold totT
  rw [List.map_map]
  rw [sum_two] at hs
  exact hs
end
end Go.Proofs.Ytohkchilogmneaa
