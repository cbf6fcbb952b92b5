/-
  A state (the document's) that came in: what it reads as.
  What a call may write, told by a predicate on blocks.
-/
import Derived.Test.YtjmlimogmmikoaaGreatDoorSx09
import Derived.Test.YtjmlimogmmikoaaGreatDoorSx04
import Derived.Test.YtjmlimogmmikoaaGreatDoorSx06
import Derived.Test.YtjmlimogmmikoaaGreatDoorSx07
import Derived.Test.YtjmlimogmmikoaaGreatDoorSx08
import Derived.Test.YtjmlimogmmikoaaGreatDoorSx03
namespace Go.Proofs.YtjmlimogmmikoaaGreatDoor
open Go.ChangeShapes Go.WideShapes Go.ChangeAt Go.RowKit Go.Deep
theorem o3_bool : Tryz.prog.cellsOf 4 = 1 := by kernel_rfl
section
variable {H : Type} {enc : TypeId × Value → H} {W : World} {base : Nat} {sp : Nat → Bool} {hd : Bool}
theorem odec_bool {n : Nat} {cs : List Value} {y : Option (DataW H × List MemPlace)} {ys : DataW H × List MemPlace} (h : DataW.trod enc Tryz.prog W base sp hd n 4 cs = y) (hy : y = some ys) : ∃ b : Bool, cs = [.bool b] := by
  subst hy
  obtain ⟨b, e, _⟩ := DataW.trod_bool Tryz.underlying4 h
  exact ⟨b, e⟩
theorem s3_cells_item : Tryz.prog.cellsOf 239 = 2 := by kernel_rfl
theorem s3_fields_item : ∃ fs, Tryz.prog.underlying 239 = some (.struct fs) ∧ fs.toList.map (fun f => (f.type, f.offset)) = [(3, 0), (3, 1)] := ⟨_, Tryz.underlying239, by kernel_rfl⟩
set_option maxRecDepth 100000 in
theorem s3_dec_item {n : Nat} {cs : List Value} {y : DataW H × List MemPlace} (h : DataW.trod enc Tryz.prog W base sp hd n 239 cs = some y) (_hz : ∀ z ∈ y.1.weights Tryz.prog 239, z ≤ 140737488351232) : ∃ x : It, cs = encI x := by
  obtain ⟨fs, hu, hfs⟩ := s3_fields_item
  obtain ⟨ys, m, _, hy, hlen, hyl, hf⟩ := DataW.trod_struct hu h
  have hsz : fs.size = 2 := by have := congrArg List.length hfs; simpa using this
  rw [s3_cells_item] at hlen
  have hys (j : Nat) (hj : j < 2) : ys[j]? = some (ys[j]'(by omega)) := List.getElem?_eq_getElem (by omega)
  obtain ⟨u0, u1, rfl⟩ : ∃ u0 u1, cs = [u0, u1] := by
    match cs, hlen with
    | [u0, u1], _ => exact ⟨_, _, rfl⟩
  have key (j : Nat) (t : TypeId) (o k : Nat) (ht : ([(3, 0), (3, 1)] : List (TypeId × Nat))[j]? = some (t, o)) (h1 : Tryz.prog.cellsOf t = k) : DataW.trod enc Tryz.prog W base sp hd m t (([u0, u1].drop o).take k) = ys[j]? := by
    obtain ⟨f, hj, rfl, rfl⟩ := ofield_of hfs ht
    have := hf j f hj
    rw [h1] at this
    exact this
  obtain ⟨k0, e0⟩ := odec_int (key 0 _ _ 1 rfl oo_int) (hys 0 (by omega))
  obtain ⟨k1, e1⟩ := odec_int (key 1 _ _ 1 rfl oo_int) (hys 1 (by omega))
  simp only [List.drop_succ_cons, List.drop_zero, List.take_succ_cons, List.take_zero, List.cons.injEq, and_true] at e0 e1
  subst e0 e1
  exact ⟨⟨k0, k1⟩, rfl⟩
theorem s3_slc_items : Tryz.prog.cellsOf 107 = 1 := by kernel_rfl
def s3_bytes_items : Nat := 16
theorem s3_open_items {fuel : Nat} {v : Value} {x : DataW H × List MemPlace} (hz : ∀ z ∈ x.1.weights Tryz.prog 107, z ≤ 140737488351232) (h : DataW.trod enc Tryz.prog W base sp hd fuel 107 [v] = some x) : ∃ l : List It, SlAt W v l.length (l.flatMap encI) ∧ l.length ≤ 140737488351232 ∧ ∀ y ∈ l, True := by
  obtain ⟨l, a, cap, hv, hle, hb, hq, hc⟩ := open_enc encI 2 (fun _ => rfl) (by decide) (fun (_y : It) => True) Tryz.underlying107 s3_cells_item (fun n cs y h1 h2 => (by obtain ⟨x, e⟩ := s3_dec_item h1 h2; exact ⟨x, e, trivial⟩)) hz h
  rw [show Tryz.prog.bytesOf 239 = s3_bytes_items from by kernel_rfl] at hb
  unfold s3_bytes_items at hb
  exact ⟨l, ⟨a, cap, hv, hle, hc⟩, by omega, hq⟩
theorem s3_its {v : Value} {l : List It} (h : SlAt W v l.length (l.flatMap encI)) : ItsAt W v l := by
  obtain ⟨a, cap, hv, _, hc⟩ := h
  exact ⟨a, cap, hv, hc⟩
theorem s3_cells_frow : Tryz.prog.cellsOf 109 = 4 := by kernel_rfl
theorem s3_fields_frow : ∃ fs, Tryz.prog.underlying 109 = some (.struct fs) ∧ fs.toList.map (fun f => (f.type, f.offset)) = [(3, 0), (3, 1), (3, 2), (107, 3)] := ⟨_, Tryz.underlying109, by kernel_rfl⟩
set_option maxRecDepth 100000 in
theorem s3_dec_frow {n : Nat} {cs : List Value} {y : DataW H × List MemPlace} (h : DataW.trod enc Tryz.prog W base sp hd n 109 cs = some y) (hz : ∀ z ∈ y.1.weights Tryz.prog 109, z ≤ 140737488351232) : ∃ p : FRow × Value, cs = encRV p ∧ ItsAt W p.2 p.1.its ∧ p.1.its.length ≤ 140737488351232 := by
  obtain ⟨fs, hu, hfs⟩ := s3_fields_frow
  obtain ⟨ys, m, _, hy, hlen, hyl, hf⟩ := DataW.trod_struct hu h
  have hsz : fs.size = 4 := by have := congrArg List.length hfs; simpa using this
  rw [s3_cells_frow] at hlen
  have hys (j : Nat) (hj : j < 4) : ys[j]? = some (ys[j]'(by omega)) := List.getElem?_eq_getElem (by omega)
  obtain ⟨u0, u1, u2, u3, rfl⟩ : ∃ u0 u1 u2 u3, cs = [u0, u1, u2, u3] := by
    match cs, hlen with
    | [u0, u1, u2, u3], _ => exact ⟨_, _, _, _, rfl⟩
  have key (j : Nat) (t : TypeId) (o k : Nat) (ht : ([(3, 0), (3, 1), (3, 2), (107, 3)] : List (TypeId × Nat))[j]? = some (t, o)) (h1 : Tryz.prog.cellsOf t = k) : DataW.trod enc Tryz.prog W base sp hd m t (([u0, u1, u2, u3].drop o).take k) = ys[j]? := by
    obtain ⟨f, hj, rfl, rfl⟩ := ofield_of hfs ht
    have := hf j f hj
    rw [h1] at this
    exact this
  obtain ⟨k0, e0⟩ := odec_int (key 0 _ _ 1 rfl oo_int) (hys 0 (by omega))
  obtain ⟨k1, e1⟩ := odec_int (key 1 _ _ 1 rfl oo_int) (hys 1 (by omega))
  obtain ⟨k2, e2⟩ := odec_int (key 2 _ _ 1 rfl oo_int) (hys 2 (by omega))
  have h3 := (key 3 _ _ 1 rfl s3_slc_items).trans (hys 3 (by omega))
  obtain ⟨f3, hj3, ht3, _⟩ := ofield_of hfs (j := 3) rfl
  obtain ⟨l, hl, hn, _⟩ := s3_open_items (v := u3) (fun z hzz => hz z (by
    rw [hy]
    exact weights_struct_mem hu hj3 (d := ys[3].1) (by simp [hys 3 (by omega)]) (by rw [ht3]; exact hzz))) h3
  simp only [List.drop_succ_cons, List.drop_zero, List.take_succ_cons, List.take_zero, List.cons.injEq, and_true] at e0 e1 e2
  subst e0 e1 e2
  exact ⟨(⟨k0, k1, k2, l⟩, u3), rfl, s3_its hl, hn⟩
theorem s3_slc_frows : Tryz.prog.cellsOf 102 = 1 := by kernel_rfl
def s3_bytes_frows : Nat := 48
theorem s3_open_frows {fuel : Nat} {v : Value} {x : DataW H × List MemPlace} (hz : ∀ z ∈ x.1.weights Tryz.prog 102, z ≤ 140737488351232) (h : DataW.trod enc Tryz.prog W base sp hd fuel 102 [v] = some x) : ∃ l : List (FRow × Value), SlAt W v l.length (l.flatMap encRV) ∧ l.length ≤ 140737488351232 ∧ ∀ y ∈ l, ItsAt W y.2 y.1.its ∧ y.1.its.length ≤ 140737488351232 := by
  obtain ⟨l, a, cap, hv, hle, hb, hq, hc⟩ := open_enc encRV 4 (fun _ => rfl) (by decide) (fun (y : (FRow × Value)) => ItsAt W y.2 y.1.its ∧ y.1.its.length ≤ 140737488351232) Tryz.underlying102 s3_cells_frow (fun n cs y h1 h2 => s3_dec_frow h1 h2) hz h
  rw [show Tryz.prog.bytesOf 109 = s3_bytes_frows from by kernel_rfl] at hb
  unfold s3_bytes_frows at hb
  exact ⟨l, ⟨a, cap, hv, hle, hc⟩, by omega, hq⟩
theorem s3_cells_ring : Tryz.prog.cellsOf 104 = 3 := by kernel_rfl
theorem s3_fields_ring : ∃ fs, Tryz.prog.underlying 104 = some (.struct fs) ∧ fs.toList.map (fun f => (f.type, f.offset)) = [(3, 0), (102, 1), (4, 2)] := ⟨_, Tryz.underlying104, by kernel_rfl⟩
set_option maxRecDepth 100000 in
theorem s3_dec_ring {n : Nat} {cs : List Value} {y : DataW H × List MemPlace} (h : DataW.trod enc Tryz.prog W base sp hd n 104 cs = some y) (hz : ∀ z ∈ y.1.weights Tryz.prog 104, z ≤ 140737488351232) : ∃ (q : Int) (v : Value) (gv : Bool) (l : List (FRow × Value)), cs = [.int .i64 q, v, .bool gv] ∧ SlAt W v l.length (l.flatMap encRV) ∧ l.length ≤ 140737488351232 ∧ ∀ y ∈ l, ItsAt W y.2 y.1.its ∧ y.1.its.length ≤ 140737488351232 := by
  obtain ⟨fs, hu, hfs⟩ := s3_fields_ring
  obtain ⟨ys, m, _, hy, hlen, hyl, hf⟩ := DataW.trod_struct hu h
  have hsz : fs.size = 3 := by have := congrArg List.length hfs; simpa using this
  rw [s3_cells_ring] at hlen
  have hys (j : Nat) (hj : j < 3) : ys[j]? = some (ys[j]'(by omega)) := List.getElem?_eq_getElem (by omega)
  obtain ⟨u0, u1, u2, rfl⟩ : ∃ u0 u1 u2, cs = [u0, u1, u2] := by
    match cs, hlen with
    | [u0, u1, u2], _ => exact ⟨_, _, _, rfl⟩
  have key (j : Nat) (t : TypeId) (o k : Nat) (ht : ([(3, 0), (102, 1), (4, 2)] : List (TypeId × Nat))[j]? = some (t, o)) (h1 : Tryz.prog.cellsOf t = k) : DataW.trod enc Tryz.prog W base sp hd m t (([u0, u1, u2].drop o).take k) = ys[j]? := by
    obtain ⟨f, hj, rfl, rfl⟩ := ofield_of hfs ht
    have := hf j f hj
    rw [h1] at this
    exact this
  obtain ⟨k0, e0⟩ := odec_int (key 0 _ _ 1 rfl oo_int) (hys 0 (by omega))
  have h1 := (key 1 _ _ 1 rfl s3_slc_frows).trans (hys 1 (by omega))
  obtain ⟨f1, hj1, ht1, _⟩ := ofield_of hfs (j := 1) rfl
  obtain ⟨l, hl, hn, hq⟩ := s3_open_frows (v := u1) (fun z hzz => hz z (by
    rw [hy]
    exact weights_struct_mem hu hj1 (d := ys[1].1) (by simp [hys 1 (by omega)]) (by rw [ht1]; exact hzz))) h1
  obtain ⟨k2, e2⟩ := odec_bool (key 2 _ _ 1 rfl o3_bool) (hys 2 (by omega))
  simp only [List.drop_succ_cons, List.drop_zero, List.take_succ_cons, List.take_zero, List.cons.injEq, and_true] at e0 e2
  subst e0 e2
  exact ⟨k0, u1, k2, l, rfl, hl, hn, hq⟩
def FewI (p : DV) : Prop := p.2.2.2.length ≤ 140737488351232 ∧ ∀ r ∈ p.2.2.2, r.1.its.length ≤ 140737488351232
theorem s3_cells_trow : Tryz.prog.cellsOf 106 = 6 := by kernel_rfl
theorem s3_fields_trow : ∃ fs, Tryz.prog.underlying 106 = some (.struct fs) ∧ fs.toList.map (fun f => (f.type, f.offset)) = [(3, 0), (3, 1), (3, 2), (104, 3)] := ⟨_, Tryz.underlying106, by kernel_rfl⟩
set_option maxRecDepth 100000 in
theorem s3_dec_trow {n : Nat} {cs : List Value} {y : DataW H × List MemPlace} (h : DataW.trod enc Tryz.prog W base sp hd n 106 cs = some y) (hz : ∀ z ∈ y.1.weights Tryz.prog 106, z ≤ 140737488351232) : ∃ p : DV, cs = encDV p ∧ InvAt W p ∧ FewI p := by
  obtain ⟨fs, hu, hfs⟩ := s3_fields_trow
  obtain ⟨ys, m, _, hy, hlen, hyl, hf⟩ := DataW.trod_struct hu h
  have hsz : fs.size = 4 := by have := congrArg List.length hfs; simpa using this
  rw [s3_cells_trow] at hlen
  have hys (j : Nat) (hj : j < 4) : ys[j]? = some (ys[j]'(by omega)) := List.getElem?_eq_getElem (by omega)
  obtain ⟨u0, u1, u2, u3, u4, u5, rfl⟩ : ∃ u0 u1 u2 u3 u4 u5, cs = [u0, u1, u2, u3, u4, u5] := by
    match cs, hlen with
    | [u0, u1, u2, u3, u4, u5], _ => exact ⟨_, _, _, _, _, _, rfl⟩
  have key (j : Nat) (t : TypeId) (o k : Nat) (ht : ([(3, 0), (3, 1), (3, 2), (104, 3)] : List (TypeId × Nat))[j]? = some (t, o)) (h1 : Tryz.prog.cellsOf t = k) : DataW.trod enc Tryz.prog W base sp hd m t (([u0, u1, u2, u3, u4, u5].drop o).take k) = ys[j]? := by
    obtain ⟨f, hj, rfl, rfl⟩ := ofield_of hfs ht
    have := hf j f hj
    rw [h1] at this
    exact this
  obtain ⟨k0, e0⟩ := odec_int (key 0 _ _ 1 rfl oo_int) (hys 0 (by omega))
  obtain ⟨k1, e1⟩ := odec_int (key 1 _ _ 1 rfl oo_int) (hys 1 (by omega))
  obtain ⟨k2, e2⟩ := odec_int (key 2 _ _ 1 rfl oo_int) (hys 2 (by omega))
  have h3 := (key 3 _ _ 3 rfl s3_cells_ring).trans (hys 3 (by omega))
  obtain ⟨f3, hj3, ht3, _⟩ := ofield_of hfs (j := 3) rfl
  obtain ⟨q, v, gv, l, e3, hl, hn, hq⟩ := s3_dec_ring h3 (fun z hzz => hz z (by
    rw [hy]
    exact weights_struct_mem hu hj3 (d := ys[3].1) (by simp [hys 3 (by omega)]) (by rw [ht3]; exact hzz)))
  have e3' : [u3, u4, u5] = [Value.int .i64 q, v, .bool gv] := e3
  simp only [List.cons.injEq, and_true] at e3'
  obtain ⟨rfl, rfl, rfl⟩ := e3'
  simp only [List.drop_succ_cons, List.drop_zero, List.take_succ_cons, List.take_zero, List.cons.injEq, and_true] at e0 e1 e2
  subst e0 e1 e2
  exact by
    refine ⟨(⟨k0, k1, k2, gv, l.map Prod.fst⟩, q, u4, l), rfl, ⟨⟨?_, fun p hp => (hq p hp).1⟩, rfl⟩, hn, fun r hr => (hq r hr).2⟩
    obtain ⟨a, cap, hv, hle, hc⟩ := hl
    exact ⟨a, cap, hv, hle, hc⟩
theorem s3_slc_trows : Tryz.prog.cellsOf 63 = 1 := by kernel_rfl
def s3_bytes_trows : Nat := 64
theorem s3_open_trows {fuel : Nat} {v : Value} {x : DataW H × List MemPlace} (hz : ∀ z ∈ x.1.weights Tryz.prog 63, z ≤ 140737488351232) (h : DataW.trod enc Tryz.prog W base sp hd fuel 63 [v] = some x) : ∃ l : List DV, SlAt W v l.length (l.flatMap encDV) ∧ l.length ≤ 140737488351232 ∧ ∀ y ∈ l, InvAt W y ∧ FewI y := by
  obtain ⟨l, a, cap, hv, hle, hb, hq, hc⟩ := open_enc encDV 6 (fun _ => rfl) (by decide) (fun (y : DV) => InvAt W y ∧ FewI y) Tryz.underlying63 s3_cells_trow (fun n cs y h1 h2 => s3_dec_trow h1 h2) hz h
  rw [show Tryz.prog.bytesOf 106 = s3_bytes_trows from by kernel_rfl] at hb
  unfold s3_bytes_trows at hb
  exact ⟨l, ⟨a, cap, hv, hle, hc⟩, by omega, hq⟩
def FewX (s : Int × QS) : Prop := s.2.l.length ≤ 140737488351232 ∧ ∀ d ∈ s.2.l, FewI d
theorem s3_cells_share : Tryz.prog.cellsOf 65 = 3 := by kernel_rfl
theorem s3_fields_share : ∃ fs, Tryz.prog.underlying 65 = some (.struct fs) ∧ fs.toList.map (fun f => (f.type, f.offset)) = [(3, 0), (63, 1), (4, 2)] := ⟨_, Tryz.underlying65, by kernel_rfl⟩
set_option maxRecDepth 100000 in
theorem s3_dec_share {n : Nat} {cs : List Value} {y : DataW H × List MemPlace} (h : DataW.trod enc Tryz.prog W base sp hd n 65 cs = some y) (hz : ∀ z ∈ y.1.weights Tryz.prog 65, z ≤ 140737488351232) : ∃ s : Int × QS, cs = encXS s ∧ DRowsAt W s.2.v s.2.l ∧ FewX s := by
  obtain ⟨fs, hu, hfs⟩ := s3_fields_share
  obtain ⟨ys, m, _, hy, hlen, hyl, hf⟩ := DataW.trod_struct hu h
  have hsz : fs.size = 3 := by have := congrArg List.length hfs; simpa using this
  rw [s3_cells_share] at hlen
  have hys (j : Nat) (hj : j < 3) : ys[j]? = some (ys[j]'(by omega)) := List.getElem?_eq_getElem (by omega)
  obtain ⟨u0, u1, u2, rfl⟩ : ∃ u0 u1 u2, cs = [u0, u1, u2] := by
    match cs, hlen with
    | [u0, u1, u2], _ => exact ⟨_, _, _, rfl⟩
  have key (j : Nat) (t : TypeId) (o k : Nat) (ht : ([(3, 0), (63, 1), (4, 2)] : List (TypeId × Nat))[j]? = some (t, o)) (h1 : Tryz.prog.cellsOf t = k) : DataW.trod enc Tryz.prog W base sp hd m t (([u0, u1, u2].drop o).take k) = ys[j]? := by
    obtain ⟨f, hj, rfl, rfl⟩ := ofield_of hfs ht
    have := hf j f hj
    rw [h1] at this
    exact this
  obtain ⟨k0, e0⟩ := odec_int (key 0 _ _ 1 rfl oo_int) (hys 0 (by omega))
  have h1 := (key 1 _ _ 1 rfl s3_slc_trows).trans (hys 1 (by omega))
  obtain ⟨f1, hj1, ht1, _⟩ := ofield_of hfs (j := 1) rfl
  obtain ⟨l, hl, hn, hq⟩ := s3_open_trows (v := u1) (fun z hzz => hz z (by
    rw [hy]
    exact weights_struct_mem hu hj1 (d := ys[1].1) (by simp [hys 1 (by omega)]) (by rw [ht1]; exact hzz))) h1
  obtain ⟨k2, e2⟩ := odec_bool (key 2 _ _ 1 rfl o3_bool) (hys 2 (by omega))
  simp only [List.drop_succ_cons, List.drop_zero, List.take_succ_cons, List.take_zero, List.cons.injEq, and_true] at e0 e2
  subst e0 e2
  exact by
    refine ⟨(k0, ⟨k2, u1, l⟩), rfl, ⟨?_, fun p hp => (hq p hp).1⟩, hn, fun d hd => (hq d hd).2⟩
    obtain ⟨a, cap, hv, hle, hc⟩ := hl
    exact ⟨a, cap, hv, hle, hc⟩
theorem s3_slc_shares : Tryz.prog.cellsOf 59 = 1 := by kernel_rfl
def s3_bytes_shares : Nat := 40
theorem s3_open_shares {fuel : Nat} {v : Value} {x : DataW H × List MemPlace} (hz : ∀ z ∈ x.1.weights Tryz.prog 59, z ≤ 140737488351232) (h : DataW.trod enc Tryz.prog W base sp hd fuel 59 [v] = some x) : ∃ l : List (Int × QS), SlAt W v l.length (l.flatMap encXS) ∧ l.length ≤ 140737488351232 ∧ ∀ y ∈ l, DRowsAt W y.2.v y.2.l ∧ FewX y := by
  obtain ⟨l, a, cap, hv, hle, hb, hq, hc⟩ := open_enc encXS 3 (fun _ => rfl) (by decide) (fun (y : (Int × QS)) => DRowsAt W y.2.v y.2.l ∧ FewX y) Tryz.underlying59 s3_cells_share (fun n cs y h1 h2 => s3_dec_share h1 h2) hz h
  rw [show Tryz.prog.bytesOf 65 = s3_bytes_shares from by kernel_rfl] at hb
  unfold s3_bytes_shares at hb
  exact ⟨l, ⟨a, cap, hv, hle, hc⟩, by omega, hq⟩
theorem s3_slc_ints : Tryz.prog.cellsOf 23 = 1 := by kernel_rfl
def s3_bytes_ints : Nat := 8
theorem s3_open_ints {fuel : Nat} {v : Value} {x : DataW H × List MemPlace} (hz : ∀ z ∈ x.1.weights Tryz.prog 23, z ≤ 140737488351232) (h : DataW.trod enc Tryz.prog W base sp hd fuel 23 [v] = some x) : ∃ l : List Int, SlAt W v l.length (l.flatMap encZ) ∧ l.length ≤ 140737488351232 ∧ ∀ y ∈ l, True := by
  obtain ⟨l, a, cap, hv, hle, hb, hq, hc⟩ := open_enc encZ 1 (fun _ => rfl) (by decide) (fun (_y : Int) => True) Tryz.underlying23 oo_int (fun n cs y h1 h2 => (by obtain ⟨x, e⟩ := odec_int h1 rfl; exact ⟨x, e, trivial⟩)) hz h
  rw [show Tryz.prog.bytesOf 3 = s3_bytes_ints from by kernel_rfl] at hb
  unfold s3_bytes_ints at hb
  exact ⟨l, ⟨a, cap, hv, hle, hc⟩, by omega, hq⟩
def FewP (p : QX) : Prop := p.served.length ≤ 140737488351232 ∧ p.sh.length ≤ 140737488351232 ∧ ∀ s ∈ p.sh, FewX s
theorem s3_cells_prow : Tryz.prog.cellsOf 61 = 4 := by kernel_rfl
theorem s3_fields_prow : ∃ fs, Tryz.prog.underlying 61 = some (.struct fs) ∧ fs.toList.map (fun f => (f.type, f.offset)) = [(9, 0), (3, 1), (23, 2), (59, 3)] := ⟨_, Tryz.underlying61, by kernel_rfl⟩
set_option maxRecDepth 100000 in
theorem s3_dec_prow {n : Nat} {cs : List Value} {y : DataW H × List MemPlace} (h : DataW.trod enc Tryz.prog W base sp hd n 61 cs = some y) (hz : ∀ z ∈ y.1.weights Tryz.prog 61, z ≤ 140737488351232) : ∃ p : QX, cs = encQX p ∧ QXAt W p ∧ FewP p := by
  obtain ⟨fs, hu, hfs⟩ := s3_fields_prow
  obtain ⟨ys, m, _, hy, hlen, hyl, hf⟩ := DataW.trod_struct hu h
  have hsz : fs.size = 4 := by have := congrArg List.length hfs; simpa using this
  rw [s3_cells_prow] at hlen
  have hys (j : Nat) (hj : j < 4) : ys[j]? = some (ys[j]'(by omega)) := List.getElem?_eq_getElem (by omega)
  obtain ⟨u0, u1, u2, u3, rfl⟩ : ∃ u0 u1 u2 u3, cs = [u0, u1, u2, u3] := by
    match cs, hlen with
    | [u0, u1, u2, u3], _ => exact ⟨_, _, _, _, rfl⟩
  have key (j : Nat) (t : TypeId) (o k : Nat) (ht : ([(9, 0), (3, 1), (23, 2), (59, 3)] : List (TypeId × Nat))[j]? = some (t, o)) (h1 : Tryz.prog.cellsOf t = k) : DataW.trod enc Tryz.prog W base sp hd m t (([u0, u1, u2, u3].drop o).take k) = ys[j]? := by
    obtain ⟨f, hj, rfl, rfl⟩ := ofield_of hfs ht
    have := hf j f hj
    rw [h1] at this
    exact this
  obtain ⟨k0, e0⟩ := odec_string (key 0 _ _ 1 rfl oo_str) (hys 0 (by omega))
  obtain ⟨k1, e1⟩ := odec_int (key 1 _ _ 1 rfl oo_int) (hys 1 (by omega))
  have h2 := (key 2 _ _ 1 rfl s3_slc_ints).trans (hys 2 (by omega))
  obtain ⟨f2, hj2, ht2, _⟩ := ofield_of hfs (j := 2) rfl
  obtain ⟨zl, hzl, hzn, _⟩ := s3_open_ints (v := u2) (fun z hzz => hz z (by
    rw [hy]
    exact weights_struct_mem hu hj2 (d := ys[2].1) (by simp [hys 2 (by omega)]) (by rw [ht2]; exact hzz))) h2
  have h3 := (key 3 _ _ 1 rfl s3_slc_shares).trans (hys 3 (by omega))
  obtain ⟨f3, hj3, ht3, _⟩ := ofield_of hfs (j := 3) rfl
  obtain ⟨l, hl, hn, hq⟩ := s3_open_shares (v := u3) (fun z hzz => hz z (by
    rw [hy]
    exact weights_struct_mem hu hj3 (d := ys[3].1) (by simp [hys 3 (by omega)]) (by rw [ht3]; exact hzz))) h3
  simp only [List.drop_succ_cons, List.drop_zero, List.take_succ_cons, List.take_zero, List.cons.injEq, and_true] at e0 e1
  subst e0 e1
  exact ⟨⟨k0, k1, zl, l, u2, u3⟩, rfl, ⟨hzl, hl, fun s hs => (hq s hs).1⟩, hzn, hn, fun s hs => (hq s hs).2⟩
theorem s3_slc_prows : Tryz.prog.cellsOf 30 = 1 := by kernel_rfl
def s3_bytes_prows : Nat := 72
theorem s3_open_prows {fuel : Nat} {v : Value} {x : DataW H × List MemPlace} (hz : ∀ z ∈ x.1.weights Tryz.prog 30, z ≤ 140737488351232) (h : DataW.trod enc Tryz.prog W base sp hd fuel 30 [v] = some x) : ∃ l : List QX, SlAt W v l.length (l.flatMap encQX) ∧ l.length ≤ 140737488351232 ∧ ∀ y ∈ l, QXAt W y ∧ FewP y := by
  obtain ⟨l, a, cap, hv, hle, hb, hq, hc⟩ := open_enc encQX 4 (fun _ => rfl) (by decide) (fun (y : QX) => QXAt W y ∧ FewP y) Tryz.underlying30 s3_cells_prow (fun n cs y h1 h2 => s3_dec_prow h1 h2) hz h
  rw [show Tryz.prog.bytesOf 61 = s3_bytes_prows from by kernel_rfl] at hb
  unfold s3_bytes_prows at hb
  exact ⟨l, ⟨a, cap, hv, hle, hc⟩, by omega, hq⟩
theorem s3_cells_wk : Tryz.prog.cellsOf 67 = 7 := by kernel_rfl
theorem s3_fields_wk : ∃ fs, Tryz.prog.underlying 67 = some (.struct fs) ∧ fs.toList.map (fun f => (f.type, f.offset)) = [(3, 0), (3, 1), (3, 2), (9, 3), (9, 4), (4, 5), (26, 6)] := ⟨_, Tryz.underlying67, by kernel_rfl⟩
set_option maxRecDepth 100000 in
theorem s3_dec_wk {n : Nat} {cs : List Value} {y : DataW H × List MemPlace} (h : DataW.trod enc Tryz.prog W base sp hd n 67 cs = some y) (_hz : ∀ z ∈ y.1.weights Tryz.prog 67, z ≤ 140737488351232) : ∃ x : Wk, cs = encWk x := by
  obtain ⟨fs, hu, hfs⟩ := s3_fields_wk
  obtain ⟨ys, m, _, hy, hlen, hyl, hf⟩ := DataW.trod_struct hu h
  have hsz : fs.size = 7 := by have := congrArg List.length hfs; simpa using this
  rw [s3_cells_wk] at hlen
  have hys (j : Nat) (hj : j < 7) : ys[j]? = some (ys[j]'(by omega)) := List.getElem?_eq_getElem (by omega)
  obtain ⟨u0, u1, u2, u3, u4, u5, u6, rfl⟩ : ∃ u0 u1 u2 u3 u4 u5 u6, cs = [u0, u1, u2, u3, u4, u5, u6] := by
    match cs, hlen with
    | [u0, u1, u2, u3, u4, u5, u6], _ => exact ⟨_, _, _, _, _, _, _, rfl⟩
  have key (j : Nat) (t : TypeId) (o k : Nat) (ht : ([(3, 0), (3, 1), (3, 2), (9, 3), (9, 4), (4, 5), (26, 6)] : List (TypeId × Nat))[j]? = some (t, o)) (h1 : Tryz.prog.cellsOf t = k) : DataW.trod enc Tryz.prog W base sp hd m t (([u0, u1, u2, u3, u4, u5, u6].drop o).take k) = ys[j]? := by
    obtain ⟨f, hj, rfl, rfl⟩ := ofield_of hfs ht
    have := hf j f hj
    rw [h1] at this
    exact this
  obtain ⟨k0, e0⟩ := odec_int (key 0 _ _ 1 rfl oo_int) (hys 0 (by omega))
  obtain ⟨k1, e1⟩ := odec_int (key 1 _ _ 1 rfl oo_int) (hys 1 (by omega))
  obtain ⟨k2, e2⟩ := odec_int (key 2 _ _ 1 rfl oo_int) (hys 2 (by omega))
  obtain ⟨k3, e3⟩ := odec_string (key 3 _ _ 1 rfl oo_str) (hys 3 (by omega))
  obtain ⟨k4, e4⟩ := odec_string (key 4 _ _ 1 rfl oo_str) (hys 4 (by omega))
  obtain ⟨k5, e5⟩ := odec_bool (key 5 _ _ 1 rfl o3_bool) (hys 5 (by omega))
  obtain ⟨k6, e6, _⟩ := odec_u64 (key 6 _ _ 1 rfl oo_u64) (hys 6 (by omega))
  simp only [List.drop_succ_cons, List.drop_zero, List.take_succ_cons, List.take_zero, List.cons.injEq, and_true] at e0 e1 e2 e3 e4 e5 e6
  subst e0 e1 e2 e3 e4 e5 e6
  exact ⟨⟨k0, k1, k2, k3, k4, k5, k6⟩, rfl⟩
theorem s3_slc_wks : Tryz.prog.cellsOf 28 = 1 := by kernel_rfl
def s3_bytes_wks : Nat := 72
theorem s3_open_wks {fuel : Nat} {v : Value} {x : DataW H × List MemPlace} (hz : ∀ z ∈ x.1.weights Tryz.prog 28, z ≤ 140737488351232) (h : DataW.trod enc Tryz.prog W base sp hd fuel 28 [v] = some x) : ∃ l : List Wk, SlAt W v l.length (l.flatMap encWk) ∧ l.length ≤ 140737488351232 ∧ ∀ y ∈ l, True := by
  obtain ⟨l, a, cap, hv, hle, hb, hq, hc⟩ := open_enc encWk 7 (fun _ => rfl) (by decide) (fun (_y : Wk) => True) Tryz.underlying28 s3_cells_wk (fun n cs y h1 h2 => (by obtain ⟨x, e⟩ := s3_dec_wk h1 h2; exact ⟨x, e, trivial⟩)) hz h
  rw [show Tryz.prog.bytesOf 67 = s3_bytes_wks from by kernel_rfl] at hb
  unfold s3_bytes_wks at hb
  exact ⟨l, ⟨a, cap, hv, hle, hc⟩, by omega, hq⟩
theorem s3_cells_lt : Tryz.prog.cellsOf 90 = 6 := by kernel_rfl
theorem s3_fields_lt : ∃ fs, Tryz.prog.underlying 90 = some (.struct fs) ∧ fs.toList.map (fun f => (f.type, f.offset)) = [(3, 0), (3, 1), (3, 2), (3, 3), (9, 4), (26, 5)] := ⟨_, Tryz.underlying90, by kernel_rfl⟩
set_option maxRecDepth 100000 in
theorem s3_dec_lt {n : Nat} {cs : List Value} {y : DataW H × List MemPlace} (h : DataW.trod enc Tryz.prog W base sp hd n 90 cs = some y) (_hz : ∀ z ∈ y.1.weights Tryz.prog 90, z ≤ 140737488351232) : ∃ x : Lt, cs = encLt x := by
  obtain ⟨fs, hu, hfs⟩ := s3_fields_lt
  obtain ⟨ys, m, _, hy, hlen, hyl, hf⟩ := DataW.trod_struct hu h
  have hsz : fs.size = 6 := by have := congrArg List.length hfs; simpa using this
  rw [s3_cells_lt] at hlen
  have hys (j : Nat) (hj : j < 6) : ys[j]? = some (ys[j]'(by omega)) := List.getElem?_eq_getElem (by omega)
  obtain ⟨u0, u1, u2, u3, u4, u5, rfl⟩ : ∃ u0 u1 u2 u3 u4 u5, cs = [u0, u1, u2, u3, u4, u5] := by
    match cs, hlen with
    | [u0, u1, u2, u3, u4, u5], _ => exact ⟨_, _, _, _, _, _, rfl⟩
  have key (j : Nat) (t : TypeId) (o k : Nat) (ht : ([(3, 0), (3, 1), (3, 2), (3, 3), (9, 4), (26, 5)] : List (TypeId × Nat))[j]? = some (t, o)) (h1 : Tryz.prog.cellsOf t = k) : DataW.trod enc Tryz.prog W base sp hd m t (([u0, u1, u2, u3, u4, u5].drop o).take k) = ys[j]? := by
    obtain ⟨f, hj, rfl, rfl⟩ := ofield_of hfs ht
    have := hf j f hj
    rw [h1] at this
    exact this
  obtain ⟨k0, e0⟩ := odec_int (key 0 _ _ 1 rfl oo_int) (hys 0 (by omega))
  obtain ⟨k1, e1⟩ := odec_int (key 1 _ _ 1 rfl oo_int) (hys 1 (by omega))
  obtain ⟨k2, e2⟩ := odec_int (key 2 _ _ 1 rfl oo_int) (hys 2 (by omega))
  obtain ⟨k3, e3⟩ := odec_int (key 3 _ _ 1 rfl oo_int) (hys 3 (by omega))
  obtain ⟨k4, e4⟩ := odec_string (key 4 _ _ 1 rfl oo_str) (hys 4 (by omega))
  obtain ⟨k5, e5, _⟩ := odec_u64 (key 5 _ _ 1 rfl oo_u64) (hys 5 (by omega))
  simp only [List.drop_succ_cons, List.drop_zero, List.take_succ_cons, List.take_zero, List.cons.injEq, and_true] at e0 e1 e2 e3 e4 e5
  subst e0 e1 e2 e3 e4 e5
  exact ⟨⟨k0, k1, k2, k3, k4, k5⟩, rfl⟩
theorem s3_slc_lts : Tryz.prog.cellsOf 32 = 1 := by kernel_rfl
def s3_bytes_lts : Nat := 56
theorem s3_open_lts {fuel : Nat} {v : Value} {x : DataW H × List MemPlace} (hz : ∀ z ∈ x.1.weights Tryz.prog 32, z ≤ 140737488351232) (h : DataW.trod enc Tryz.prog W base sp hd fuel 32 [v] = some x) : ∃ l : List Lt, SlAt W v l.length (l.flatMap encLt) ∧ l.length ≤ 140737488351232 ∧ ∀ y ∈ l, True := by
  obtain ⟨l, a, cap, hv, hle, hb, hq, hc⟩ := open_enc encLt 6 (fun _ => rfl) (by decide) (fun (_y : Lt) => True) Tryz.underlying32 s3_cells_lt (fun n cs y h1 h2 => (by obtain ⟨x, e⟩ := s3_dec_lt h1 h2; exact ⟨x, e, trivial⟩)) hz h
  rw [show Tryz.prog.bytesOf 90 = s3_bytes_lts from by kernel_rfl] at hb
  unfold s3_bytes_lts at hb
  exact ⟨l, ⟨a, cap, hv, hle, hc⟩, by omega, hq⟩
theorem s3_cells_wt : Tryz.prog.cellsOf 93 = 2 := by kernel_rfl
theorem s3_fields_wt : ∃ fs, Tryz.prog.underlying 93 = some (.struct fs) ∧ fs.toList.map (fun f => (f.type, f.offset)) = [(9, 0), (3, 1)] := ⟨_, Tryz.underlying93, by kernel_rfl⟩
set_option maxRecDepth 100000 in
theorem s3_dec_wt {n : Nat} {cs : List Value} {y : DataW H × List MemPlace} (h : DataW.trod enc Tryz.prog W base sp hd n 93 cs = some y) (_hz : ∀ z ∈ y.1.weights Tryz.prog 93, z ≤ 140737488351232) : ∃ x : Wtc, cs = encWt x := by
  obtain ⟨fs, hu, hfs⟩ := s3_fields_wt
  obtain ⟨ys, m, _, hy, hlen, hyl, hf⟩ := DataW.trod_struct hu h
  have hsz : fs.size = 2 := by have := congrArg List.length hfs; simpa using this
  rw [s3_cells_wt] at hlen
  have hys (j : Nat) (hj : j < 2) : ys[j]? = some (ys[j]'(by omega)) := List.getElem?_eq_getElem (by omega)
  obtain ⟨u0, u1, rfl⟩ : ∃ u0 u1, cs = [u0, u1] := by
    match cs, hlen with
    | [u0, u1], _ => exact ⟨_, _, rfl⟩
  have key (j : Nat) (t : TypeId) (o k : Nat) (ht : ([(9, 0), (3, 1)] : List (TypeId × Nat))[j]? = some (t, o)) (h1 : Tryz.prog.cellsOf t = k) : DataW.trod enc Tryz.prog W base sp hd m t (([u0, u1].drop o).take k) = ys[j]? := by
    obtain ⟨f, hj, rfl, rfl⟩ := ofield_of hfs ht
    have := hf j f hj
    rw [h1] at this
    exact this
  obtain ⟨k0, e0⟩ := odec_string (key 0 _ _ 1 rfl oo_str) (hys 0 (by omega))
  obtain ⟨k1, e1⟩ := odec_int (key 1 _ _ 1 rfl oo_int) (hys 1 (by omega))
  simp only [List.drop_succ_cons, List.drop_zero, List.take_succ_cons, List.take_zero, List.cons.injEq, and_true] at e0 e1
  subst e0 e1
  exact ⟨⟨k0, k1⟩, rfl⟩
theorem s3_slc_wts : Tryz.prog.cellsOf 33 = 1 := by kernel_rfl
def s3_bytes_wts : Nat := 24
theorem s3_open_wts {fuel : Nat} {v : Value} {x : DataW H × List MemPlace} (hz : ∀ z ∈ x.1.weights Tryz.prog 33, z ≤ 140737488351232) (h : DataW.trod enc Tryz.prog W base sp hd fuel 33 [v] = some x) : ∃ l : List Wtc, SlAt W v l.length (l.flatMap encWt) ∧ l.length ≤ 140737488351232 ∧ ∀ y ∈ l, True := by
  obtain ⟨l, a, cap, hv, hle, hb, hq, hc⟩ := open_enc encWt 2 (fun _ => rfl) (by decide) (fun (_y : Wtc) => True) Tryz.underlying33 s3_cells_wt (fun n cs y h1 h2 => (by obtain ⟨x, e⟩ := s3_dec_wt h1 h2; exact ⟨x, e, trivial⟩)) hz h
  rw [show Tryz.prog.bytesOf 93 = s3_bytes_wts from by kernel_rfl] at hb
  unfold s3_bytes_wts at hb
  exact ⟨l, ⟨a, cap, hv, hle, hc⟩, by omega, hq⟩
theorem s3_cells_hist : Tryz.prog.cellsOf 85 = 16 := by kernel_rfl
set_option maxRecDepth 100000 in
theorem s3_dec_hist {n : Nat} {u0 u1 u2 u3 u4 u5 u6 u7 u8 u9 u10 u11 u12 u13 u14 u15 : Value} {y : DataW H × List MemPlace} (h : DataW.trod enc Tryz.prog W base sp hd n 85 [u0, u1, u2, u3, u4, u5, u6, u7, u8, u9, u10, u11, u12, u13, u14, u15] = some y) : ∃ g : Nat → Int, u0 = .int .i64 (g 0) ∧ u1 = .int .i64 (g 1) ∧ u2 = .int .i64 (g 2) ∧ u3 = .int .i64 (g 3) ∧ u4 = .int .i64 (g 4) ∧ u5 = .int .i64 (g 5) ∧ u6 = .int .i64 (g 6) ∧ u7 = .int .i64 (g 7) ∧ u8 = .int .i64 (g 8) ∧ u9 = .int .i64 (g 9) ∧ u10 = .int .i64 (g 10) ∧ u11 = .int .i64 (g 11) ∧ u12 = .int .i64 (g 12) ∧ u13 = .int .i64 (g 13) ∧ u14 = .int .i64 (g 14) ∧ u15 = .int .i64 (g 15) := by
  obtain ⟨ys, m, _, _, _, hys, hel⟩ := DataW.trod_array Tryz.underlying85 h
  have cell : ∀ i (hi : i < 16), ∃ k : Int, [u0, u1, u2, u3, u4, u5, u6, u7, u8, u9, u10, u11, u12, u13, u14, u15][i]? = some (.int .i64 k) := by
    intro i hi
    have h1 := hel i hi
    rw [List.getElem?_eq_getElem (show i < ys.length by omega)] at h1
    obtain ⟨x, hx1, _, _⟩ := DataW.trod_int Tryz.underlying3 h1
    refine ⟨x, ?_⟩
    rw [oo_int] at hx1
    simp only [Nat.mul_one] at hx1
    have h2 := congrArg (fun l : List Value => l[0]?) hx1
    simpa using h2
  obtain ⟨a0, ha0⟩ := cell 0 (by omega)
  obtain ⟨a1, ha1⟩ := cell 1 (by omega)
  obtain ⟨a2, ha2⟩ := cell 2 (by omega)
  obtain ⟨a3, ha3⟩ := cell 3 (by omega)
  obtain ⟨a4, ha4⟩ := cell 4 (by omega)
  obtain ⟨a5, ha5⟩ := cell 5 (by omega)
  obtain ⟨a6, ha6⟩ := cell 6 (by omega)
  obtain ⟨a7, ha7⟩ := cell 7 (by omega)
  obtain ⟨a8, ha8⟩ := cell 8 (by omega)
  obtain ⟨a9, ha9⟩ := cell 9 (by omega)
  obtain ⟨a10, ha10⟩ := cell 10 (by omega)
  obtain ⟨a11, ha11⟩ := cell 11 (by omega)
  obtain ⟨a12, ha12⟩ := cell 12 (by omega)
  obtain ⟨a13, ha13⟩ := cell 13 (by omega)
  obtain ⟨a14, ha14⟩ := cell 14 (by omega)
  obtain ⟨a15, ha15⟩ := cell 15 (by omega)
  exact ⟨fun i => ([a0, a1, a2, a3, a4, a5, a6, a7, a8, a9, a10, a11, a12, a13, a14, a15] : List Int).getD i 0, Option.some.inj ha0, Option.some.inj ha1, Option.some.inj ha2, Option.some.inj ha3, Option.some.inj ha4, Option.some.inj ha5, Option.some.inj ha6, Option.some.inj ha7, Option.some.inj ha8, Option.some.inj ha9, Option.some.inj ha10, Option.some.inj ha11, Option.some.inj ha12, Option.some.inj ha13, Option.some.inj ha14, Option.some.inj ha15⟩
theorem s3_cells_hrow : Tryz.prog.cellsOf 87 = 17 := by kernel_rfl
theorem s3_fields_hrow : ∃ fs, Tryz.prog.underlying 87 = some (.struct fs) ∧ fs.toList.map (fun f => (f.type, f.offset)) = [(9, 0), (85, 1)] := ⟨_, Tryz.underlying87, by kernel_rfl⟩
set_option maxRecDepth 100000 in
theorem s3_dec_hrow {n : Nat} {cs : List Value} {y : DataW H × List MemPlace} (h : DataW.trod enc Tryz.prog W base sp hd n 87 cs = some y) : ∃ x : Rwh, cs = encRw x := by
  obtain ⟨fs, hu, hfs⟩ := s3_fields_hrow
  obtain ⟨ys, m, _, hy, hlen, hyl, hf⟩ := DataW.trod_struct hu h
  have hsz : fs.size = 2 := by have := congrArg List.length hfs; simpa using this
  rw [s3_cells_hrow] at hlen
  have hys (j : Nat) (hj : j < 2) : ys[j]? = some (ys[j]'(by omega)) := List.getElem?_eq_getElem (by omega)
  obtain ⟨u0, u1, u2, u3, u4, u5, u6, u7, u8, u9, u10, u11, u12, u13, u14, u15, u16, rfl⟩ : ∃ u0 u1 u2 u3 u4 u5 u6 u7 u8 u9 u10 u11 u12 u13 u14 u15 u16, cs = [u0, u1, u2, u3, u4, u5, u6, u7, u8, u9, u10, u11, u12, u13, u14, u15, u16] := by
    match cs, hlen with
    | [u0, u1, u2, u3, u4, u5, u6, u7, u8, u9, u10, u11, u12, u13, u14, u15, u16], _ => exact ⟨_, _, _, _, _, _, _, _, _, _, _, _, _, _, _, _, _, rfl⟩
  have key (j : Nat) (t : TypeId) (o k : Nat) (ht : ([(9, 0), (85, 1)] : List (TypeId × Nat))[j]? = some (t, o)) (h1 : Tryz.prog.cellsOf t = k) : DataW.trod enc Tryz.prog W base sp hd m t (([u0, u1, u2, u3, u4, u5, u6, u7, u8, u9, u10, u11, u12, u13, u14, u15, u16].drop o).take k) = ys[j]? := by
    obtain ⟨f, hj, rfl, rfl⟩ := ofield_of hfs ht
    have := hf j f hj
    rw [h1] at this
    exact this
  obtain ⟨k0, e0⟩ := odec_string (key 0 _ _ 1 rfl oo_str) (hys 0 (by omega))
  have h1 := (key 1 _ _ 16 rfl s3_cells_hist).trans (hys 1 (by omega))
  obtain ⟨g, rfl, rfl, rfl, rfl, rfl, rfl, rfl, rfl, rfl, rfl, rfl, rfl, rfl, rfl, rfl, rfl⟩ := s3_dec_hist h1
  simp only [List.drop_zero, List.take_succ_cons, List.take_zero, List.cons.injEq, and_true] at e0
  subst e0
  exact ⟨⟨k0, g⟩, rfl⟩
theorem s3_slc_hrows : Tryz.prog.cellsOf 31 = 1 := by kernel_rfl
def s3_bytes_hrows : Nat := 144
theorem s3_open_hrows {fuel : Nat} {v : Value} {x : DataW H × List MemPlace} (hz : ∀ z ∈ x.1.weights Tryz.prog 31, z ≤ 140737488351232) (h : DataW.trod enc Tryz.prog W base sp hd fuel 31 [v] = some x) : ∃ l : List Rwh, SlAt W v l.length (l.flatMap encRw) ∧ l.length ≤ 140737488351232 ∧ ∀ y ∈ l, True := by
  obtain ⟨l, a, cap, hv, hle, hb, hq, hc⟩ := open_enc encRw 17 (fun _ => rfl) (by decide) (fun (_y : Rwh) => True) Tryz.underlying31 s3_cells_hrow (fun n cs y h1 h2 => (by obtain ⟨x, e⟩ := s3_dec_hrow h1; exact ⟨x, e, trivial⟩)) hz h
  rw [show Tryz.prog.bytesOf 87 = s3_bytes_hrows from by kernel_rfl] at hb
  unfold s3_bytes_hrows at hb
  exact ⟨l, ⟨a, cap, hv, hle, hc⟩, by omega, hq⟩
theorem s3_slc_ops : Tryz.prog.cellsOf 27 = 1 := by kernel_rfl
def s3_bytes_ops : Nat := 168
theorem s3_open_ops {fuel : Nat} {v : Value} {x : DataW H × List MemPlace} (hz : ∀ z ∈ x.1.weights Tryz.prog 27, z ≤ 140737488351232) (h : DataW.trod enc Tryz.prog W base sp hd fuel 27 [v] = some x) : ∃ l : List Opr, SlAt W v l.length (l.flatMap encOp) ∧ l.length ≤ 140737488351232 ∧ ∀ y ∈ l, True := by
  obtain ⟨l, a, cap, hv, hle, hb, hq, hc⟩ := open_enc encOp 18 (fun _ => rfl) (by decide) (fun (_y : Opr) => True) Tryz.underlying27 op_cellsN (fun n cs y h1 h2 => (by obtain ⟨x, e⟩ := odec_op h1; exact ⟨x, e, trivial⟩)) hz h
  rw [show Tryz.prog.bytesOf 53 = s3_bytes_ops from by kernel_rfl] at hb
  unfold s3_bytes_ops at hb
  exact ⟨l, ⟨a, cap, hv, hle, hc⟩, by omega, hq⟩
theorem s3_slc_ivs : Tryz.prog.cellsOf 29 = 1 := by kernel_rfl
def s3_bytes_ivs : Nat := 48
theorem s3_open_ivs {fuel : Nat} {v : Value} {x : DataW H × List MemPlace} (hz : ∀ z ∈ x.1.weights Tryz.prog 29, z ≤ 140737488351232) (h : DataW.trod enc Tryz.prog W base sp hd fuel 29 [v] = some x) : ∃ l : List Ivn, SlAt W v l.length (l.flatMap encIv) ∧ l.length ≤ 140737488351232 ∧ ∀ y ∈ l, True := by
  obtain ⟨l, a, cap, hv, hle, hb, hq, hc⟩ := open_enc encIv 5 (fun _ => rfl) (by decide) (fun (_y : Ivn) => True) Tryz.underlying29 iv_cellsN (fun n cs y h1 h2 => (by obtain ⟨x, e⟩ := odec_iv h1; exact ⟨x, e, trivial⟩)) hz h
  rw [show Tryz.prog.bytesOf 49 = s3_bytes_ivs from by kernel_rfl] at hb
  unfold s3_bytes_ivs at hb
  exact ⟨l, ⟨a, cap, hv, hle, hc⟩, by omega, hq⟩
end
structure Sta where
  now : Int
  dr : Bool
  ep : Int
  nx : Int
  lw : Int
  li : Int
  sv : Int
  live : List Opr
  ended : List Opr
  wks : List Wk
  invs : List Ivn
  pools : List QX
  hist : List Rwh
  lets : List Lt
  wts : List Wtc
structure StV where
  live : Value
  ended : Value
  wks : Value
  invs : Value
  pools : Value
  hist : Value
  lets : Value
  wts : Value
def staC (s : Sta) (V : StV) : Array Value := #[.int .u64 s.now, .bool s.dr, .int .i64 s.ep, .int .i64 s.nx, .int .i64 s.lw, .int .i64 s.li, .int .i64 s.sv, V.live, V.ended, V.wks, V.invs, V.pools, V.hist, V.lets, V.wts]
structure StaAt (w : World) (s : Sta) (V : StV) : Prop where
  live : SlAt w V.live s.live.length (s.live.flatMap encOp)
  ended : SlAt w V.ended s.ended.length (s.ended.flatMap encOp)
  wks : SlAt w V.wks s.wks.length (s.wks.flatMap encWk)
  invs : SlAt w V.invs s.invs.length (s.invs.flatMap encIv)
  pools : SlAt w V.pools s.pools.length (s.pools.flatMap encQX)
  hist : SlAt w V.hist s.hist.length (s.hist.flatMap encRw)
  lets : SlAt w V.lets s.lets.length (s.lets.flatMap encLt)
  wts : SlAt w V.wts s.wts.length (s.wts.flatMap encWt)
  rows : ∀ p ∈ s.pools, QXAt w p
structure StaFew (s : Sta) : Prop where
  live : s.live.length ≤ 140737488351232
  ended : s.ended.length ≤ 140737488351232
  wks : s.wks.length ≤ 140737488351232
  invs : s.invs.length ≤ 140737488351232
  pools : s.pools.length ≤ 140737488351232
  rows : ∀ p ∈ s.pools, FewP p
theorem StaAt.below {w w' : World} {s : Sta} {V : StV} (h : StaAt w s V) (hb : Below w.heap.size w w') : StaAt w' s V :=
  ⟨h.live.below hb, h.ended.below hb, h.wks.below hb, h.invs.below hb, h.pools.below hb, h.hist.below hb, h.lets.below hb, h.wts.below hb, fun p hp => (h.rows p hp).below hb⟩
section
variable {H : Type} {enc : TypeId × Value → H} {W : World} {base : Nat} {sp : Nat → Bool} {hd : Bool}
theorem s3_cells_state : Tryz.prog.cellsOf 35 = 15 := by kernel_rfl
theorem s3_fields_state : ∃ fs, Tryz.prog.underlying 35 = some (.struct fs) ∧ fs.toList.map (fun f => (f.type, f.offset)) = [(26, 0), (4, 1), (3, 2), (3, 3), (3, 4), (3, 5), (3, 6), (27, 7), (27, 8), (28, 9), (29, 10), (30, 11), (31, 12), (32, 13), (33, 14)] := ⟨_, Tryz.underlying35, by kernel_rfl⟩
set_option maxRecDepth 100000 in
theorem s3_dec_state {n : Nat} {cs : List Value} {y : DataW H × List MemPlace} (h : DataW.trod enc Tryz.prog W base sp hd n 35 cs = some y) (hz : ∀ z ∈ y.1.weights Tryz.prog 35, z ≤ 140737488351232) : ∃ (s : Sta) (V : StV), cs = (staC s V).toList ∧ StaAt W s V ∧ StaFew s := by
  obtain ⟨fs, hu, hfs⟩ := s3_fields_state
  obtain ⟨ys, m, _, hy, hlen, hyl, hf⟩ := DataW.trod_struct hu h
  have hsz : fs.size = 15 := by have := congrArg List.length hfs; simpa using this
  rw [s3_cells_state] at hlen
  have hys (j : Nat) (hj : j < 15) : ys[j]? = some (ys[j]'(by omega)) := List.getElem?_eq_getElem (by omega)
  obtain ⟨u0, u1, u2, u3, u4, u5, u6, u7, u8, u9, u10, u11, u12, u13, u14, rfl⟩ : ∃ u0 u1 u2 u3 u4 u5 u6 u7 u8 u9 u10 u11 u12 u13 u14, cs = [u0, u1, u2, u3, u4, u5, u6, u7, u8, u9, u10, u11, u12, u13, u14] := by
    match cs, hlen with
    | [u0, u1, u2, u3, u4, u5, u6, u7, u8, u9, u10, u11, u12, u13, u14], _ => exact ⟨_, _, _, _, _, _, _, _, _, _, _, _, _, _, _, rfl⟩
  have key (j : Nat) (t : TypeId) (o k : Nat) (ht : ([(26, 0), (4, 1), (3, 2), (3, 3), (3, 4), (3, 5), (3, 6), (27, 7), (27, 8), (28, 9), (29, 10), (30, 11), (31, 12), (32, 13), (33, 14)] : List (TypeId × Nat))[j]? = some (t, o)) (h1 : Tryz.prog.cellsOf t = k) : DataW.trod enc Tryz.prog W base sp hd m t (([u0, u1, u2, u3, u4, u5, u6, u7, u8, u9, u10, u11, u12, u13, u14].drop o).take k) = ys[j]? := by
    obtain ⟨f, hj, rfl, rfl⟩ := ofield_of hfs ht
    have := hf j f hj
    rw [h1] at this
    exact this
  obtain ⟨k0, e0, _⟩ := odec_u64 (key 0 _ _ 1 rfl oo_u64) (hys 0 (by omega))
  obtain ⟨k1, e1⟩ := odec_bool (key 1 _ _ 1 rfl o3_bool) (hys 1 (by omega))
  obtain ⟨k2, e2⟩ := odec_int (key 2 _ _ 1 rfl oo_int) (hys 2 (by omega))
  obtain ⟨k3, e3⟩ := odec_int (key 3 _ _ 1 rfl oo_int) (hys 3 (by omega))
  obtain ⟨k4, e4⟩ := odec_int (key 4 _ _ 1 rfl oo_int) (hys 4 (by omega))
  obtain ⟨k5, e5⟩ := odec_int (key 5 _ _ 1 rfl oo_int) (hys 5 (by omega))
  obtain ⟨k6, e6⟩ := odec_int (key 6 _ _ 1 rfl oo_int) (hys 6 (by omega))
  have h7 := (key 7 _ _ 1 rfl s3_slc_ops).trans (hys 7 (by omega))
  obtain ⟨f7, hj7, ht7, _⟩ := ofield_of hfs (j := 7) rfl
  obtain ⟨l0, hl0, hn0, hq0⟩ := s3_open_ops (v := u7) (fun z hzz => hz z (by
    rw [hy]
    exact weights_struct_mem hu hj7 (d := ys[7].1) (by simp [hys 7 (by omega)]) (by rw [ht7]; exact hzz))) h7
  have h8 := (key 8 _ _ 1 rfl s3_slc_ops).trans (hys 8 (by omega))
  obtain ⟨f8, hj8, ht8, _⟩ := ofield_of hfs (j := 8) rfl
  obtain ⟨l1, hl1, hn1, hq1⟩ := s3_open_ops (v := u8) (fun z hzz => hz z (by
    rw [hy]
    exact weights_struct_mem hu hj8 (d := ys[8].1) (by simp [hys 8 (by omega)]) (by rw [ht8]; exact hzz))) h8
  have h9 := (key 9 _ _ 1 rfl s3_slc_wks).trans (hys 9 (by omega))
  obtain ⟨f9, hj9, ht9, _⟩ := ofield_of hfs (j := 9) rfl
  obtain ⟨l2, hl2, hn2, hq2⟩ := s3_open_wks (v := u9) (fun z hzz => hz z (by
    rw [hy]
    exact weights_struct_mem hu hj9 (d := ys[9].1) (by simp [hys 9 (by omega)]) (by rw [ht9]; exact hzz))) h9
  have h10 := (key 10 _ _ 1 rfl s3_slc_ivs).trans (hys 10 (by omega))
  obtain ⟨f10, hj10, ht10, _⟩ := ofield_of hfs (j := 10) rfl
  obtain ⟨l3, hl3, hn3, hq3⟩ := s3_open_ivs (v := u10) (fun z hzz => hz z (by
    rw [hy]
    exact weights_struct_mem hu hj10 (d := ys[10].1) (by simp [hys 10 (by omega)]) (by rw [ht10]; exact hzz))) h10
  have h11 := (key 11 _ _ 1 rfl s3_slc_prows).trans (hys 11 (by omega))
  obtain ⟨f11, hj11, ht11, _⟩ := ofield_of hfs (j := 11) rfl
  obtain ⟨l4, hl4, hn4, hq4⟩ := s3_open_prows (v := u11) (fun z hzz => hz z (by
    rw [hy]
    exact weights_struct_mem hu hj11 (d := ys[11].1) (by simp [hys 11 (by omega)]) (by rw [ht11]; exact hzz))) h11
  have h12 := (key 12 _ _ 1 rfl s3_slc_hrows).trans (hys 12 (by omega))
  obtain ⟨f12, hj12, ht12, _⟩ := ofield_of hfs (j := 12) rfl
  obtain ⟨l5, hl5, hn5, hq5⟩ := s3_open_hrows (v := u12) (fun z hzz => hz z (by
    rw [hy]
    exact weights_struct_mem hu hj12 (d := ys[12].1) (by simp [hys 12 (by omega)]) (by rw [ht12]; exact hzz))) h12
  have h13 := (key 13 _ _ 1 rfl s3_slc_lts).trans (hys 13 (by omega))
  obtain ⟨f13, hj13, ht13, _⟩ := ofield_of hfs (j := 13) rfl
  obtain ⟨l6, hl6, hn6, hq6⟩ := s3_open_lts (v := u13) (fun z hzz => hz z (by
    rw [hy]
    exact weights_struct_mem hu hj13 (d := ys[13].1) (by simp [hys 13 (by omega)]) (by rw [ht13]; exact hzz))) h13
  have h14 := (key 14 _ _ 1 rfl s3_slc_wts).trans (hys 14 (by omega))
  obtain ⟨f14, hj14, ht14, _⟩ := ofield_of hfs (j := 14) rfl
  obtain ⟨l7, hl7, hn7, hq7⟩ := s3_open_wts (v := u14) (fun z hzz => hz z (by
    rw [hy]
    exact weights_struct_mem hu hj14 (d := ys[14].1) (by simp [hys 14 (by omega)]) (by rw [ht14]; exact hzz))) h14
  simp only [List.drop_succ_cons, List.drop_zero, List.take_succ_cons, List.take_zero, List.cons.injEq, and_true] at e0 e1 e2 e3 e4 e5 e6
  subst e0 e1 e2 e3 e4 e5 e6
  exact ⟨⟨k0, k1, k2, k3, k4, k5, k6, l0, l1, l2, l3, l4, l5, l6, l7⟩, ⟨u7, u8, u9, u10, u11, u12, u13, u14⟩, rfl, ⟨hl0, hl1, hl2, hl3, hl4, hl5, hl6, hl7, fun p hp => (hq4 p hp).1⟩, ⟨hn0, hn1, hn2, hn3, hn4, fun p hp => (hq4 p hp).2⟩⟩
set_option maxRecDepth 100000 in
theorem open_sta {r : Reach} {b0 : Nat} {v : Value} {d : DataW H} {p : List MemPlace} (hv : Value.okWide Tryz.prog W r b0 35 v) (h : DataW.Trod enc Tryz.prog W base sp hd 35 v d p) (hz : ∀ z ∈ d.weights Tryz.prog 35, z ≤ 140737488351232) : ∃ (s : Sta) (V : StV), v = .agg (staC s V) ∧ StaAt W s V ∧ StaFew s := by
  obtain ⟨fs, hu, hfs⟩ := s3_fields_state
  obtain ⟨cs, rfl, hsz⟩ := okWide_struct hu hv
  obtain ⟨fuel, hf⟩ := h
  obtain ⟨s, V, hx, h1, h2⟩ := s3_dec_state hf hz
  refine ⟨s, V, ?_, h1, h2⟩
  have : cs.toList = (staC s V).toList := hx
  rw [show cs = staC s V from Array.toList_inj.1 this]
end
end Go.Proofs.YtjmlimogmmikoaaGreatDoor
namespace Go.Proofs.YtjmlimogmmikoaaGreatDoor
open Go.RowKit
structure Fp (S : Nat → Prop) (w w' : World) : Prop where
  os : w'.os = w.os
  tape : w'.tape = w.tape
  output : w'.output = w.output
  size : w.heap.size ≤ w'.heap.size
  block : ∀ k, k < w.heap.size → ¬ S k → w'.heap[k]? = w.heap[k]?
theorem Fp.refl (S : Nat → Prop) (w : World) : Fp S w w := ⟨rfl, rfl, rfl, Nat.le_refl _, fun _ _ _ => rfl⟩
theorem Fp.trans {S S' : Nat → Prop} {w w1 w2 : World} (h : Fp S w w1) (h' : Fp S' w1 w2) (hs : ∀ k, k < w.heap.size → S' k → S k) : Fp S w w2 :=
  ⟨h'.os.trans h.os, h'.tape.trans h.tape, h'.output.trans h.output, Nat.le_trans h.size h'.size, fun k hk hn => (h'.block k (Nat.lt_of_lt_of_le hk h.size) (fun hm => hn (hs k hk hm))).trans (h.block k hk hn)⟩
theorem Fp.of_below {S : Nat → Prop} {w w' : World} (h : Below w.heap.size w w') : Fp S w w' := ⟨h.os, h.tape, h.output, h.size, fun k hk _ => h.block k hk⟩
theorem Fp.then_below {S : Nat → Prop} {w w1 w2 : World} (h : Fp S w w1) (h' : Below w1.heap.size w1 w2) : Fp S w w2 := h.trans (S' := fun _ => False) (Fp.of_below h') (fun _ _ hk => hk.elim)
theorem Fp.mono {S S' : Nat → Prop} {w w' : World} (h : Fp S w w') (hs : ∀ k, S k → S' k) : Fp S' w w' := ⟨h.os, h.tape, h.output, h.size, fun k hk hn => h.block k hk (fun hm => hn (hs k hm))⟩
theorem Fp.below {S : Nat → Prop} {B : Nat} {w w' : World} (h : Fp S w w') (hB : B ≤ w.heap.size) (hS : ∀ k, k < B → ¬ S k) : Below B w w' :=
  ⟨h.os, h.tape, h.output, h.size, fun k hk => h.block k (by omega) (hS k hk)⟩
theorem Fp.drew {S : Nat → Prop} {w w' : World} (h : Fp S w w') : Fp S w w'.drew := ⟨h.os, h.tape, h.output, h.size, h.block⟩
theorem Fp.alloc {S : Nat → Prop} {w w' : World} (h : Fp S w w') (o : Obj) : Fp S w (w'.alloc o) := h.then_below box_below
theorem Fp.setCell {S : Nat → Prop} {w w' : World} (h : Fp S w w') {p : Addr} (hp : p.block < w.heap.size → S p.block) (u : Value) : Fp S w (w'.setCell p u) :=
  h.trans (S' := fun k => k = p.block) ⟨rfl, rfl, rfl, by simp [World.setCell], fun k _ hn => Below.heap_setCell _ _ _ _ (fun e => hn e)⟩ (fun k hk e => by subst e; exact hp hk)
theorem Fp.row {w : World} {g : Nat} {cells : Array Value} : Fp (fun k => k = g) w (w.setRow g cells) := ⟨rfl, rfl, rfl, by simp, fun k _ hn => setRow_other w g k _ hn⟩
theorem Fp.setRow {S : Nat → Prop} {w w' : World} (h : Fp S w w') {g : Nat} {cells : Array Value} (hg : g < w.heap.size → S g) : Fp S w (w'.setRow g cells) := h.trans Fp.row (fun k hk e => by subst e; exact hg hk)
theorem Fp.grown {S : Nat → Prop} {w w1 w2 : World} {row : Option Nat} (h : Fp S w w1) (hg : w1.grownBy w2 row) (hr : ∀ k, k < w.heap.size → row = some k → S k) : Fp S w w2 :=
  h.trans (S' := fun k => row = some k) ⟨hg.os, hg.tape, hg.output, hg.size, fun k hk hn => hg.block k hk (fun e => hn e.symm)⟩ hr
theorem Fp.heap {S : Nat → Prop} {w w' : World} (h : Fp S w w') {k : Nat} {o : Obj} (hc : w.heap[k]? = some o) (hS : ¬ S k) : w'.heap[k]? = some o :=
  (h.block k (Array.getElem?_eq_some_iff.1 hc).1 hS).trans hc
theorem Fp.cell {S : Nat → Prop} {w w' : World} (h : Fp S w w') {a : Addr} {v : Value} (hc : w.cell? a = some v) (hS : ¬ S a.block) : w'.cell? a = some v := by
  rw [World.cell?_of_block (w := w) (h.block a.block (World.block_lt_of_cell? w a hc) hS)]
  exact hc
theorem fp_lt_of_heap {w : World} {k : Nat} {o : Obj} (h : w.heap[k]? = some o) : k < w.heap.size := (Array.getElem?_eq_some_iff.1 h).1
end Go.Proofs.YtjmlimogmmikoaaGreatDoor
