/-
  Workers, and calls of a book, that came in.
-/
import Derived.Test.YtmijmfgclmaodaaGreatDoorOpenE
import Derived.Test.YtmijmfgclmaodaaGreatDoorWk7
namespace Go.Proofs.YtmijmfgclmaodaaGreatDoor
open Go.ChangeShapes Go.WideShapes Go.ChangeAt Go.RowKit Go.Deep

theorem wk_cells : Tryz.prog.cellsOf 33 = 7 := by kernel_rfl
theorem ac_cells : Tryz.prog.cellsOf 35 = 8 := by kernel_rfl
theorem o_int : Tryz.prog.cellsOf 3 = 1 := by kernel_rfl
theorem o_str : Tryz.prog.cellsOf 9 = 1 := by kernel_rfl
theorem o_bool : Tryz.prog.cellsOf 4 = 1 := by kernel_rfl
theorem o_u64 : Tryz.prog.cellsOf 31 = 1 := by kernel_rfl
theorem wk_fields : ∃ fs, Tryz.prog.underlying 33 = some (.struct fs) ∧ fs.size = 7 ∧ fs.toList.map (fun f => (f.type, f.offset)) = [(3, 0), (3, 1), (3, 2), (9, 3), (9, 4), (4, 5), (31, 6)] := ⟨_, Tryz.underlying33, by kernel_rfl, by kernel_rfl⟩
theorem ac_fields : ∃ fs, Tryz.prog.underlying 35 = some (.struct fs) ∧ fs.size = 2 ∧ fs.toList.map (fun f => (f.type, f.offset)) = [(3, 0), (33, 1)] := ⟨_, Tryz.underlying35, by kernel_rfl, by kernel_rfl⟩
theorem field_of {fs : Array Field} {l : List (TypeId × Nat)} (h : fs.toList.map (fun f => (f.type, f.offset)) = l) {j : Nat} {t : TypeId} {o : Nat} (ht : l[j]? = some (t, o)) : ∃ f, fs[j]? = some f ∧ f.type = t ∧ f.offset = o := by
  rw [← h, List.getElem?_map] at ht
  cases hj : fs.toList[j]? with
  | none => rw [hj] at ht; cases ht
  | some f =>
    rw [hj] at ht
    simp at ht
    exact ⟨f, by simpa using hj, ht.1, ht.2⟩

section
variable {H : Type} {enc : TypeId × Value → H} {W : World} {base : Nat} {sp : Nat → Bool} {hd : Bool}

theorem dec_int {n : Nat} {cs : List Value} {y : Option (DataW H × List MemPlace)} {ys : DataW H × List MemPlace} (h : DataW.trod enc Tryz.prog W base sp hd n 3 cs = y) (hy : y = some ys) : ∃ k : Int, cs = [.int .i64 k] := by
  subst hy
  obtain ⟨k, e, _, _⟩ := DataW.trod_int Tryz.underlying3 h
  exact ⟨k, e⟩
theorem dec_u64 {n : Nat} {cs : List Value} {y : Option (DataW H × List MemPlace)} {ys : DataW H × List MemPlace} (h : DataW.trod enc Tryz.prog W base sp hd n 31 cs = y) (hy : y = some ys) : ∃ k : Int, cs = [.int .u64 k] := by
  subst hy
  obtain ⟨k, e, _, _⟩ := DataW.trod_int Tryz.underlying31 h
  exact ⟨k, e⟩
theorem dec_string {n : Nat} {cs : List Value} {y : Option (DataW H × List MemPlace)} {ys : DataW H × List MemPlace} (h : DataW.trod enc Tryz.prog W base sp hd n 9 cs = y) (hy : y = some ys) : ∃ s : ByteArray, cs = [.string s] ∧ ys.1 = .lit (.string s.data.toList) := by
  subst hy
  obtain ⟨s, e, rfl, _⟩ := DataW.trod_string Tryz.underlying9 h
  exact ⟨s, e, rfl⟩
theorem dec_bool {n : Nat} {cs : List Value} {y : Option (DataW H × List MemPlace)} {ys : DataW H × List MemPlace} (h : DataW.trod enc Tryz.prog W base sp hd n 4 cs = y) (hy : y = some ys) : ∃ b : Bool, cs = [.bool b] := by
  subst hy
  obtain ⟨b, e, _⟩ := DataW.trod_bool Tryz.underlying4 h
  exact ⟨b, e⟩

set_option maxRecDepth 100000 in
theorem dec_worker {n : Nat} {cs : List Value} {y : DataW H × List MemPlace} (h : DataW.trod enc Tryz.prog W base sp hd n 33 cs = some y) (hz : ∀ z ∈ y.1.weights Tryz.prog 33, z ≤ 140737488351232) :
    ∃ x : Wk, cs = encW x ∧ (x.name.size ≤ 140737488351232 ∧ x.plat.size ≤ 140737488351232) := by
  obtain ⟨fs, hu, hsz, hfs⟩ := wk_fields
  obtain ⟨ys, m, _, hy, hlen, hyl, hf⟩ := DataW.trod_struct hu h
  rw [wk_cells] at hlen
  have hys (j : Nat) (hj : j < 7) : ys[j]? = some (ys[j]'(by omega)) := List.getElem?_eq_getElem (by omega)
  obtain ⟨u0, u1, u2, u3, u4, u5, u6, rfl⟩ : ∃ u0 u1 u2 u3 u4 u5 u6, cs = [u0, u1, u2, u3, u4, u5, u6] := by
    match cs, hlen with
    | [u0, u1, u2, u3, u4, u5, u6], _ => exact ⟨_, _, _, _, _, _, _, rfl⟩
  have key (j : Nat) (t : TypeId) (o : Nat) (ht : ([(3, 0), (3, 1), (3, 2), (9, 3), (9, 4), (4, 5), (31, 6)] : List (TypeId × Nat))[j]? = some (t, o)) (h1 : Tryz.prog.cellsOf t = 1) : DataW.trod enc Tryz.prog W base sp hd m t (([u0, u1, u2, u3, u4, u5, u6].drop o).take 1) = ys[j]? := by
    obtain ⟨f, hj, rfl, rfl⟩ := field_of hfs ht
    have := hf j f hj
    rw [h1] at this
    exact this
  obtain ⟨k0, e0⟩ := dec_int (key 0 _ _ rfl o_int) (hys 0 (by omega))
  obtain ⟨k1, e1⟩ := dec_int (key 1 _ _ rfl o_int) (hys 1 (by omega))
  obtain ⟨k2, e2⟩ := dec_int (key 2 _ _ rfl o_int) (hys 2 (by omega))
  obtain ⟨k3, e3, f3⟩ := dec_string (key 3 _ _ rfl o_str) (hys 3 (by omega))
  obtain ⟨k4, e4, f4⟩ := dec_string (key 4 _ _ rfl o_str) (hys 4 (by omega))
  obtain ⟨k5, e5⟩ := dec_bool (key 5 _ _ rfl o_bool) (hys 5 (by omega))
  obtain ⟨k6, e6⟩ := dec_u64 (key 6 _ _ rfl o_u64) (hys 6 (by omega))
  simp at e0 e1 e2 e3 e4 e5 e6
  subst e0 e1 e2 e3 e4 e5 e6
  refine ⟨⟨k0, k1, k2, k3, k4, k5, k6⟩, rfl, ?_, ?_⟩
  · refine hz k3.size ?_
    rw [hy]
    obtain ⟨f, hj, ht, _⟩ := field_of hfs (j := 3) rfl
    refine weights_struct_mem hu (j := 3) hj (d := ys[3].1) (by simp [hys 3 (by omega)]) ?_
    rw [ht, f3]
    simpa using weights_string (H := H) (P := Tryz.prog) 9 k3.data.toList
  · refine hz k4.size ?_
    rw [hy]
    obtain ⟨f, hj, ht, _⟩ := field_of hfs (j := 4) rfl
    refine weights_struct_mem hu (j := 4) hj (d := ys[4].1) (by simp [hys 4 (by omega)]) ?_
    rw [ht, f4]
    simpa using weights_string (H := H) (P := Tryz.prog) 9 k4.data.toList
set_option maxRecDepth 100000 in
theorem dec_act {n : Nat} {cs : List Value} {y : DataW H × List MemPlace} (h : DataW.trod enc Tryz.prog W base sp hd n 35 cs = some y) (hz : ∀ z ∈ y.1.weights Tryz.prog 35, z ≤ 140737488351232) :
    ∃ a : Ac, cs = encA a ∧ (a.x.name.size ≤ 140737488351232 ∧ a.x.plat.size ≤ 140737488351232) := by
  obtain ⟨fs, hu, hsz, hfs⟩ := ac_fields
  obtain ⟨ys, m, _, hy, hlen, hyl, hf⟩ := DataW.trod_struct hu h
  rw [ac_cells] at hlen
  have hys (j : Nat) (hj : j < 2) : ys[j]? = some (ys[j]'(by omega)) := List.getElem?_eq_getElem (by omega)
  obtain ⟨u0, u1, u2, u3, u4, u5, u6, u7, rfl⟩ : ∃ u0 u1 u2 u3 u4 u5 u6 u7, cs = [u0, u1, u2, u3, u4, u5, u6, u7] := by
    match cs, hlen with
    | [u0, u1, u2, u3, u4, u5, u6, u7], _ => exact ⟨_, _, _, _, _, _, _, _, rfl⟩
  obtain ⟨f0, hj0, ht0, ho0⟩ := field_of hfs (j := 0) rfl
  obtain ⟨f1, hj1, ht1, ho1⟩ := field_of hfs (j := 1) rfl
  have g0 := hf 0 f0 hj0
  have g1 := hf 1 f1 hj1
  rw [ht0, ho0, o_int] at g0
  rw [ht1, ho1, wk_cells, hys 1 (by omega)] at g1
  obtain ⟨k0, e0⟩ := dec_int g0 (hys 0 (by omega))
  obtain ⟨x, e1, hx⟩ := dec_worker g1 (fun z hzz => hz z (by
    rw [hy]
    exact weights_struct_mem hu (j := 1) hj1 (d := ys[1].1) (by simp [hys 1 (by omega)]) (by rw [ht1]; exact hzz)))
  simp at e0 e1
  subst e0
  exact ⟨⟨k0, x⟩, by rw [encA, ← e1], hx⟩
theorem open_acts {n : Nat} {u : Value} {y : DataW H × List MemPlace} (h : DataW.trod enc Tryz.prog W base sp hd n 22 [u] = some y) (hz : ∀ x ∈ y.1.weights Tryz.prog 22, x ≤ 140737488351232) : ∃ l, ActsAt W u l := by
  obtain ⟨l, a, cap, rfl, hl, hb, hq, hc⟩ := open_enc encA 8 encA_len (by omega) (fun a => a.x.name.size ≤ 140737488351232 ∧ a.x.plat.size ≤ 140737488351232) Tryz.underlying22 ac_cells (fun n cs y h hz => dec_act h hz) hz h
  refine ⟨l, ⟨a, cap, rfl, ?_, hc⟩, hq⟩
  rcases hb with hb | hb
  · omega
  · rw [show Tryz.prog.bytesOf 35 = 80 by kernel_rfl] at hb
    omega
theorem open_workers {n : Nat} {u : Value} {y : DataW H × List MemPlace} (h : DataW.trod enc Tryz.prog W base sp hd n 27 [u] = some y) (hz : ∀ x ∈ y.1.weights Tryz.prog 27, x ≤ 140737488351232) : ∃ l, RowsW W u l ∧ ∀ x ∈ l, x.name.size ≤ 140737488351232 ∧ x.plat.size ≤ 140737488351232 := by
  obtain ⟨l, a, cap, rfl, hl, hb, hq, hc⟩ := open_enc encW 7 encW_len (by omega) (fun x => x.name.size ≤ 140737488351232 ∧ x.plat.size ≤ 140737488351232) Tryz.underlying27 wk_cells (fun n cs y h hz => dec_worker h hz) hz h
  refine ⟨l, ⟨a, cap, rfl, ?_, hc⟩, hq⟩
  rcases hb with hb | hb
  · omega
  · rw [show Tryz.prog.bytesOf 33 = 72 by kernel_rfl] at hb
    omega
end
end Go.Proofs.YtmijmfgclmaodaaGreatDoor
