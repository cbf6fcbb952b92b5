/-
  An operation, and what becomes of it, that came in.
-/
import Derived.Test.YtmijmfgclmaodaaGreatDoorOpenE
import Derived.Test.YtmijmfgclmaodaaGreatDoorOp3
namespace Go.Proofs.YtmijmfgclmaodaaGreatDoor
open Go.ChangeShapes Go.WideShapes Go.ChangeAt Go.RowKit Go.Deep

theorem op_cellsN : Tryz.prog.cellsOf 46 = 18 := by kernel_rfl
theorem ract_cells : Tryz.prog.cellsOf 50 = 4 := by kernel_rfl
theorem oaction_cells : Tryz.prog.cellsOf 44 = 3 := by kernel_rfl
theorem oo_int : Tryz.prog.cellsOf 3 = 1 := by kernel_rfl
theorem oo_str : Tryz.prog.cellsOf 9 = 1 := by kernel_rfl
theorem oo_u64 : Tryz.prog.cellsOf 31 = 1 := by kernel_rfl
theorem op_fieldsN : ∃ fs, Tryz.prog.underlying 46 = some (.struct fs) ∧ fs.toList.map (fun f => (f.type, f.offset)) = [(3, 0), (3, 1), (3, 2), (44, 3), (3, 6), (3, 7), (3, 8), (3, 9), (3, 10), (3, 11), (3, 12), (3, 13), (3, 14), (31, 15), (31, 16), (31, 17)] := ⟨_, Tryz.underlying46, by kernel_rfl⟩
theorem oaction_fields : ∃ fs, Tryz.prog.underlying 44 = some (.struct fs) ∧ fs.toList.map (fun f => (f.type, f.offset)) = [(9, 0), (9, 1), (9, 2)] := ⟨_, Tryz.underlying44, by kernel_rfl⟩
theorem ract_fields : ∃ fs, Tryz.prog.underlying 50 = some (.struct fs) ∧ fs.toList.map (fun f => (f.type, f.offset)) = [(3, 0), (3, 1), (3, 2), (31, 3)] := ⟨_, Tryz.underlying50, by kernel_rfl⟩
theorem ofield_of {fs : Array Field} {l : List (TypeId × Nat)} (h : fs.toList.map (fun f => (f.type, f.offset)) = l) {j : Nat} {t : TypeId} {o : Nat} (ht : l[j]? = some (t, o)) : ∃ f, fs[j]? = some f ∧ f.type = t ∧ f.offset = o := by
  rw [← h, List.getElem?_map] at ht
  cases hj : fs.toList[j]? with
  | none => rw [hj] at ht; cases ht
  | some f =>
    rw [hj] at ht
    simp at ht
    exact ⟨f, by simpa using hj, ht.1, ht.2⟩

section
variable {H : Type} {enc : TypeId × Value → H} {W : World} {base : Nat} {sp : Nat → Bool} {hd : Bool}

theorem odec_int {n : Nat} {cs : List Value} {y : Option (DataW H × List MemPlace)} {ys : DataW H × List MemPlace} (h : DataW.trod enc Tryz.prog W base sp hd n 3 cs = y) (hy : y = some ys) : ∃ k : Int, cs = [.int .i64 k] := by
  subst hy
  obtain ⟨k, e, _, _⟩ := DataW.trod_int Tryz.underlying3 h
  exact ⟨k, e⟩
set_option maxRecDepth 100000 in
theorem odec_u64 {n : Nat} {cs : List Value} {y : Option (DataW H × List MemPlace)} {ys : DataW H × List MemPlace} (h : DataW.trod enc Tryz.prog W base sp hd n 31 cs = y) (hy : y = some ys) : ∃ k : Int, cs = [.int .u64 k] ∧ 0 ≤ k ∧ k ≤ 18446744073709551615 := by
  subst hy
  obtain ⟨k, e, _, hw⟩ := DataW.trod_int Tryz.underlying31 h
  have b := bounds_u64 hw
  exact ⟨k, e, b.1, b.2⟩
theorem odec_string {n : Nat} {cs : List Value} {y : Option (DataW H × List MemPlace)} {ys : DataW H × List MemPlace} (h : DataW.trod enc Tryz.prog W base sp hd n 9 cs = y) (hy : y = some ys) : ∃ s : ByteArray, cs = [.string s] := by
  subst hy
  obtain ⟨s, e, rfl, _⟩ := DataW.trod_string Tryz.underlying9 h
  exact ⟨s, e⟩
set_option maxRecDepth 100000 in
theorem odec_action {n : Nat} {cs : List Value} {y : Option (DataW H × List MemPlace)} {ys : DataW H × List MemPlace} (h : DataW.trod enc Tryz.prog W base sp hd n 44 cs = y) (hy : y = some ys) : ∃ k c m : ByteArray, cs = [.string k, .string c, .string m] := by
  subst hy
  obtain ⟨fs, hu, hfs⟩ := oaction_fields
  obtain ⟨zs, m, _, hy, hlen, hyl, hf⟩ := DataW.trod_struct hu h
  have hsz : fs.size = 3 := by have := congrArg List.length hfs; simpa using this
  rw [oaction_cells] at hlen
  have hzs (j : Nat) (hj : j < 3) : zs[j]? = some (zs[j]'(by omega)) := List.getElem?_eq_getElem (by omega)
  obtain ⟨u0, u1, u2, rfl⟩ : ∃ u0 u1 u2, cs = [u0, u1, u2] := by
    match cs, hlen with
    | [u0, u1, u2], _ => exact ⟨_, _, _, rfl⟩
  have key (j : Nat) (t : TypeId) (o : Nat) (ht : ([(9, 0), (9, 1), (9, 2)] : List (TypeId × Nat))[j]? = some (t, o)) (h1 : Tryz.prog.cellsOf t = 1) : DataW.trod enc Tryz.prog W base sp hd m t (([u0, u1, u2].drop o).take 1) = zs[j]? := by
    obtain ⟨f, hj, rfl, rfl⟩ := ofield_of hfs ht
    have := hf j f hj
    rw [h1] at this
    exact this
  obtain ⟨k0, e0⟩ := odec_string (key 0 _ _ rfl oo_str) (hzs 0 (by omega))
  obtain ⟨k1, e1⟩ := odec_string (key 1 _ _ rfl oo_str) (hzs 1 (by omega))
  obtain ⟨k2, e2⟩ := odec_string (key 2 _ _ rfl oo_str) (hzs 2 (by omega))
  simp at e0 e1 e2
  subst e0 e1 e2
  exact ⟨_, _, _, rfl⟩
set_option maxRecDepth 100000 in
theorem odec_op {n : Nat} {cs : List Value} {y : DataW H × List MemPlace} (h : DataW.trod enc Tryz.prog W base sp hd n 46 cs = some y) : ∃ x : Opr, cs = (opA x).toList := by
  obtain ⟨fs, hu, hfs⟩ := op_fieldsN
  obtain ⟨ys, m, _, hy, hlen, hyl, hf⟩ := DataW.trod_struct hu h
  have hsz : fs.size = 16 := by have := congrArg List.length hfs; simpa using this
  rw [op_cellsN] at hlen
  have hys (j : Nat) (hj : j < 16) : ys[j]? = some (ys[j]'(by omega)) := List.getElem?_eq_getElem (by omega)
  obtain ⟨u0, u1, u2, u3, u4, u5, u6, u7, u8, u9, u10, u11, u12, u13, u14, u15, u16, u17, rfl⟩ : ∃ u0 u1 u2 u3 u4 u5 u6 u7 u8 u9 u10 u11 u12 u13 u14 u15 u16 u17, cs = [u0, u1, u2, u3, u4, u5, u6, u7, u8, u9, u10, u11, u12, u13, u14, u15, u16, u17] := by
    match cs, hlen with
    | [u0, u1, u2, u3, u4, u5, u6, u7, u8, u9, u10, u11, u12, u13, u14, u15, u16, u17], _ => exact ⟨_, _, _, _, _, _, _, _, _, _, _, _, _, _, _, _, _, _, rfl⟩
  have key (j : Nat) (t : TypeId) (o : Nat) (k : Nat) (ht : ([(3, 0), (3, 1), (3, 2), (44, 3), (3, 6), (3, 7), (3, 8), (3, 9), (3, 10), (3, 11), (3, 12), (3, 13), (3, 14), (31, 15), (31, 16), (31, 17)] : List (TypeId × Nat))[j]? = some (t, o)) (h1 : Tryz.prog.cellsOf t = k) : DataW.trod enc Tryz.prog W base sp hd m t (([u0, u1, u2, u3, u4, u5, u6, u7, u8, u9, u10, u11, u12, u13, u14, u15, u16, u17].drop o).take k) = ys[j]? := by
    obtain ⟨f, hj, rfl, rfl⟩ := ofield_of hfs ht
    have := hf j f hj
    rw [h1] at this
    exact this
  obtain ⟨k0, e0⟩ := odec_int (key 0 _ _ 1 rfl oo_int) (hys 0 (by omega))
  obtain ⟨k1, e1⟩ := odec_int (key 1 _ _ 1 rfl oo_int) (hys 1 (by omega))
  obtain ⟨k2, e2⟩ := odec_int (key 2 _ _ 1 rfl oo_int) (hys 2 (by omega))
  obtain ⟨ka, kb, kc, e3⟩ := odec_action (key 3 _ _ 3 rfl oaction_cells) (hys 3 (by omega))
  obtain ⟨k4, e4⟩ := odec_int (key 4 _ _ 1 rfl oo_int) (hys 4 (by omega))
  obtain ⟨k5, e5⟩ := odec_int (key 5 _ _ 1 rfl oo_int) (hys 5 (by omega))
  obtain ⟨k6, e6⟩ := odec_int (key 6 _ _ 1 rfl oo_int) (hys 6 (by omega))
  obtain ⟨k7, e7⟩ := odec_int (key 7 _ _ 1 rfl oo_int) (hys 7 (by omega))
  obtain ⟨k8, e8⟩ := odec_int (key 8 _ _ 1 rfl oo_int) (hys 8 (by omega))
  obtain ⟨k9, e9⟩ := odec_int (key 9 _ _ 1 rfl oo_int) (hys 9 (by omega))
  obtain ⟨k10, e10⟩ := odec_int (key 10 _ _ 1 rfl oo_int) (hys 10 (by omega))
  obtain ⟨k11, e11⟩ := odec_int (key 11 _ _ 1 rfl oo_int) (hys 11 (by omega))
  obtain ⟨k12, e12⟩ := odec_int (key 12 _ _ 1 rfl oo_int) (hys 12 (by omega))
  obtain ⟨k13, e13, _⟩ := odec_u64 (key 13 _ _ 1 rfl oo_u64) (hys 13 (by omega))
  obtain ⟨k14, e14, _⟩ := odec_u64 (key 14 _ _ 1 rfl oo_u64) (hys 14 (by omega))
  obtain ⟨k15, e15, _⟩ := odec_u64 (key 15 _ _ 1 rfl oo_u64) (hys 15 (by omega))
  simp only [List.drop_succ_cons, List.drop_zero, List.take_succ_cons, List.take_zero, List.cons.injEq, and_true] at e0 e1 e2 e4 e5 e6 e7 e8 e9 e10 e11 e12 e13 e14 e15 e3
  obtain ⟨ea, eb, ec⟩ := e3
  subst e0 e1 e2 e4 e5 e6 e7 e8 e9 e10 e11 e12 e13 e14 e15 ea eb ec
  exact ⟨⟨k0, k1, k2, ka, kb, kc, k4, k5, k6, k7, k8, k9, k10, k11, k12, k13, k14, k15⟩, rfl⟩
set_option maxRecDepth 100000 in
theorem open_op {r : Reach} {b0 : Nat} {v : Value} {d : DataW H} {p : List MemPlace} (hv : Value.okWide Tryz.prog W r b0 46 v) (h : DataW.Trod enc Tryz.prog W base sp hd 46 v d p) : ∃ x : Opr, v = .agg (opA x) := by
  obtain ⟨fs, hu, hfs⟩ := op_fieldsN
  obtain ⟨cs, rfl, hsz⟩ := okWide_struct hu hv
  obtain ⟨fuel, hf⟩ := h
  obtain ⟨x, hx⟩ := odec_op hf
  refine ⟨x, ?_⟩
  have : cs.toList = (opA x).toList := hx
  rw [show cs = opA x from Array.toList_inj.1 this]
end
end Go.Proofs.YtmijmfgclmaodaaGreatDoor
