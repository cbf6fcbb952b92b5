/-
  What becomes of an operation, call by call, that came in.
-/
import Derived.Test.YtmijmfgclmaodaaGreatDoorOpenOp
import Derived.Test.YtmijmfgclmaodaaGreatDoorOp16
namespace Go.Proofs.YtmijmfgclmaodaaGreatDoor
open Go.ChangeShapes Go.WideShapes Go.ChangeAt Go.RowKit Go.Deep

section
variable {H : Type} {enc : TypeId × Value → H} {W : World} {base : Nat} {sp : Nat → Bool} {hd : Bool}

set_option maxRecDepth 100000 in
theorem dec_ra {n : Nat} {cs : List Value} {y : DataW H × List MemPlace} (h : DataW.trod enc Tryz.prog W base sp hd n 50 cs = some y) : ∃ x : Ra, cs = encR x ∧ (0 ≤ x.now ∧ x.now ≤ 18446744073709551615) := by
  obtain ⟨fs, hu, hfs⟩ := ract_fields
  obtain ⟨zs, m, _, hy, hlen, hyl, hf⟩ := DataW.trod_struct hu h
  have hsz : fs.size = 4 := by have := congrArg List.length hfs; simpa using this
  rw [ract_cells] at hlen
  have hzs (j : Nat) (hj : j < 4) : zs[j]? = some (zs[j]'(by omega)) := List.getElem?_eq_getElem (by omega)
  obtain ⟨u0, u1, u2, u3, rfl⟩ : ∃ u0 u1 u2 u3, cs = [u0, u1, u2, u3] := by
    match cs, hlen with
    | [u0, u1, u2, u3], _ => exact ⟨_, _, _, _, rfl⟩
  have key (j : Nat) (t : TypeId) (o : Nat) (ht : ([(3, 0), (3, 1), (3, 2), (31, 3)] : List (TypeId × Nat))[j]? = some (t, o)) (h1 : Tryz.prog.cellsOf t = 1) : DataW.trod enc Tryz.prog W base sp hd m t (([u0, u1, u2, u3].drop o).take 1) = zs[j]? := by
    obtain ⟨f, hj, rfl, rfl⟩ := ofield_of hfs ht
    have := hf j f hj
    rw [h1] at this
    exact this
  obtain ⟨k0, e0⟩ := odec_int (key 0 _ _ rfl oo_int) (hzs 0 (by omega))
  obtain ⟨k1, e1⟩ := odec_int (key 1 _ _ rfl oo_int) (hzs 1 (by omega))
  obtain ⟨k2, e2⟩ := odec_int (key 2 _ _ rfl oo_int) (hzs 2 (by omega))
  obtain ⟨k3, e3, b0, b1⟩ := odec_u64 (key 3 _ _ rfl oo_u64) (hzs 3 (by omega))
  simp only [List.drop_succ_cons, List.drop_zero, List.take_succ_cons, List.take_zero, List.cons.injEq, and_true] at e0 e1 e2 e3
  subst e0 e1 e2 e3
  exact ⟨⟨k0, k1, k2, k3⟩, rfl, b0, b1⟩
theorem open_ras {n : Nat} {u : Value} {y : DataW H × List MemPlace} (h : DataW.trod enc Tryz.prog W base sp hd n 47 [u] = some y) (hz : ∀ x ∈ y.1.weights Tryz.prog 47, x ≤ 140737488351232) : ∃ l, RasAt W u l := by
  obtain ⟨l, a, cap, rfl, hl, hb, hq, hc⟩ := open_enc encR 4 encR_len (by omega) (fun a => 0 ≤ a.now ∧ a.now ≤ 18446744073709551615) Tryz.underlying47 ract_cells (fun n cs y h _ => dec_ra h) hz h
  refine ⟨l, ⟨a, cap, rfl, ?_, hc⟩, hq⟩
  rcases hb with hb | hb
  · omega
  · rw [show Tryz.prog.bytesOf 50 = 32 by kernel_rfl] at hb
    omega
end
end Go.Proofs.YtmijmfgclmaodaaGreatDoor
