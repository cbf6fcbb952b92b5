/-
  A request that came in.
-/
import Derived.Test.YtjfcjpbolokfcaaGreatDoorOpenB
import Derived.Test.YtjfcjpbolokfcaaGreatDoorMnRun
namespace Go.Proofs.YtjfcjpbolokfcaaGreatDoor
open Go.WideShapes Go.RowKit Go.Deep

theorem rq_cellsN : Tryz.prog.cellsOf 24 = 17 := by kernel_rfl
theorem rq_fieldsN : ∃ fs, Tryz.prog.underlying 24 = some (.struct fs) ∧ fs.toList.map (fun f => (f.type, f.offset)) = [(3, 0), (9, 1), (9, 2), (9, 3), (9, 4), (9, 5), (9, 6), (3, 7), (3, 8), (3, 9), (3, 10), (3, 11), (3, 12), (3, 13), (3, 14), (3, 15), (4, 16)] := ⟨_, Tryz.underlying24, by kernel_rfl⟩
section
variable {H : Type} {enc : TypeId × Value → H} {W : World} {base : Nat} {sp : Nat → Bool} {hd : Bool}
set_option maxRecDepth 100000 in
theorem odec_rq {n : Nat} {cs : List Value} {y : DataW H × List MemPlace} (h : DataW.trod enc Tryz.prog W base sp hd n 24 cs = some y) : ∃ k a b c d e g h i j l m n o p q on, cs = (Ev.rqV k a b c d e g h i j l m n o p q on).toList := by
  obtain ⟨fs, hu, hfs⟩ := rq_fieldsN
  obtain ⟨ys, m, _, hy, hlen, hyl, hf⟩ := DataW.trod_struct hu h
  have hsz : fs.size = 17 := by have := congrArg List.length hfs; simpa using this
  rw [rq_cellsN] at hlen
  have hys (j : Nat) (hj : j < 17) : ys[j]? = some (ys[j]'(by omega)) := List.getElem?_eq_getElem (by omega)
  obtain ⟨u0, u1, u2, u3, u4, u5, u6, u7, u8, u9, u10, u11, u12, u13, u14, u15, u16, rfl⟩ : ∃ u0 u1 u2 u3 u4 u5 u6 u7 u8 u9 u10 u11 u12 u13 u14 u15 u16, cs = [u0, u1, u2, u3, u4, u5, u6, u7, u8, u9, u10, u11, u12, u13, u14, u15, u16] := by
    match cs, hlen with
    | [u0, u1, u2, u3, u4, u5, u6, u7, u8, u9, u10, u11, u12, u13, u14, u15, u16], _ => exact ⟨_, _, _, _, _, _, _, _, _, _, _, _, _, _, _, _, _, rfl⟩
  have key (j : Nat) (t : TypeId) (o : Nat) (ht : ([(3, 0), (9, 1), (9, 2), (9, 3), (9, 4), (9, 5), (9, 6), (3, 7), (3, 8), (3, 9), (3, 10), (3, 11), (3, 12), (3, 13), (3, 14), (3, 15), (4, 16)] : List (TypeId × Nat))[j]? = some (t, o)) (h1 : Tryz.prog.cellsOf t = 1) : DataW.trod enc Tryz.prog W base sp hd m t (([u0, u1, u2, u3, u4, u5, u6, u7, u8, u9, u10, u11, u12, u13, u14, u15, u16].drop o).take 1) = ys[j]? := by
    obtain ⟨f, hj, rfl, rfl⟩ := ofield_of hfs ht
    have := hf j f hj
    rw [h1] at this
    exact this
  obtain ⟨k0, e0⟩ := odec_int (key 0 _ _ rfl oo_int) (hys 0 (by omega))
  obtain ⟨k1, e1⟩ := odec_string (key 1 _ _ rfl oo_str) (hys 1 (by omega))
  obtain ⟨k2, e2⟩ := odec_string (key 2 _ _ rfl oo_str) (hys 2 (by omega))
  obtain ⟨k3, e3⟩ := odec_string (key 3 _ _ rfl oo_str) (hys 3 (by omega))
  obtain ⟨k4, e4⟩ := odec_string (key 4 _ _ rfl oo_str) (hys 4 (by omega))
  obtain ⟨k5, e5⟩ := odec_string (key 5 _ _ rfl oo_str) (hys 5 (by omega))
  obtain ⟨k6, e6⟩ := odec_string (key 6 _ _ rfl oo_str) (hys 6 (by omega))
  obtain ⟨k7, e7⟩ := odec_int (key 7 _ _ rfl oo_int) (hys 7 (by omega))
  obtain ⟨k8, e8⟩ := odec_int (key 8 _ _ rfl oo_int) (hys 8 (by omega))
  obtain ⟨k9, e9⟩ := odec_int (key 9 _ _ rfl oo_int) (hys 9 (by omega))
  obtain ⟨k10, e10⟩ := odec_int (key 10 _ _ rfl oo_int) (hys 10 (by omega))
  obtain ⟨k11, e11⟩ := odec_int (key 11 _ _ rfl oo_int) (hys 11 (by omega))
  obtain ⟨k12, e12⟩ := odec_int (key 12 _ _ rfl oo_int) (hys 12 (by omega))
  obtain ⟨k13, e13⟩ := odec_int (key 13 _ _ rfl oo_int) (hys 13 (by omega))
  obtain ⟨k14, e14⟩ := odec_int (key 14 _ _ rfl oo_int) (hys 14 (by omega))
  obtain ⟨k15, e15⟩ := odec_int (key 15 _ _ rfl oo_int) (hys 15 (by omega))
  obtain ⟨k16, e16⟩ := odec_bool (key 16 _ _ rfl oo_bool) (hys 16 (by omega))
  simp only [List.drop_succ_cons, List.drop_zero, List.take_succ_cons, List.take_zero, List.cons.injEq, and_true] at e0 e1 e2 e3 e4 e5 e6 e7 e8 e9 e10 e11 e12 e13 e14 e15 e16
  subst e0 e1 e2 e3 e4 e5 e6 e7 e8 e9 e10 e11 e12 e13 e14 e15 e16
  exact ⟨k0, k1, k2, k3, k4, k5, k6, k7, k8, k9, k10, k11, k12, k13, k14, k15, k16, rfl⟩
set_option maxRecDepth 100000 in
theorem open_rq {r : Reach} {b0 : Nat} {v : Value} {d : DataW H} {p : List MemPlace} (hv : Value.okWide Tryz.prog W r b0 24 v) (h : DataW.Trod enc Tryz.prog W base sp hd 24 v d p) : ∃ k a b c d e g h i j l m n o p q on, v = .agg (Ev.rqV k a b c d e g h i j l m n o p q on) := by
  obtain ⟨fs, hu, hfs⟩ := rq_fieldsN
  obtain ⟨cs, rfl, hsz⟩ := okWide_struct hu hv
  obtain ⟨fuel, hf⟩ := h
  obtain ⟨k, a, b, c, d, e, g, h, i, j, l, m, n, o, p, q, on, hx⟩ := odec_rq hf
  refine ⟨k, a, b, c, d, e, g, h, i, j, l, m, n, o, p, q, on, ?_⟩
  have : cs.toList = (Ev.rqV k a b c d e g h i j l m n o p q on).toList := hx
  rw [show cs = _ from Array.toList_inj.1 this]
end
end Go.Proofs.YtjfcjpbolokfcaaGreatDoor
