/-
  Weights of three tenants and their invocations that came in.
-/
import Derived.Test.YtohkchilogmneaaSFair1
import Derived.Test.YtohkchilogmneaaLaw
namespace Go.Proofs.Ytohkchilogmneaa
open Go.ChangeShapes Go.WideShapes Go.ChangeAt Go.RowKit Go.Deep

theorem w3_cells : Try.prog.cellsOf 61 = 12 := by kernel_rfl
theorem w3_cells4 : Try.prog.cellsOf 22 = 4 := by kernel_rfl
theorem w3_cells1 : Try.prog.cellsOf 3 = 1 := by kernel_rfl
set_option maxRecDepth 100000 in
theorem open_w3 {H : Type} {enc : TypeId × Value → H} {W : World} {r : Reach} {b0 base : Nat} {v : Value} {d : DataW H} {p : List MemPlace} {sp : Nat → Bool} {hd : Bool}
    (hv : Value.okWide Try.prog W r b0 61 v) (h : DataW.Trod enc Try.prog W base sp hd 61 v d p) :
    ∃ a0 a1 a2 a3 b0 b1 b2 b3 c0 c1 c2 c3 : Int, v = .agg (w3C (w3Of (w4Of a0 a1 a2 a3) (w4Of b0 b1 b2 b3) (w4Of c0 c1 c2 c3))) := by
  obtain ⟨cs, rfl, hsz⟩ := okWide_array Try.underlying61 hv
  obtain ⟨fuel, hf⟩ := h
  obtain ⟨ys, m, rfl, hx, hcs, hys, hel⟩ := DataW.trod_array Try.underlying61 hf
  have hlen : cs.toList.length = 12 := by simpa [w3_cells] using hsz
  rw [w3_cells4] at hel
  have cell : ∀ i j, i < 3 → j < 4 → ∃ x : Int, cs.toList[i * 4 + j]? = some (.int .i64 x) := by
    intro i j hi hj
    have h1 := hel i hi
    rw [List.getElem?_eq_getElem (show i < ys.length by omega)] at h1
    obtain ⟨zs, m', _, _, hcs2, hzs, hel2⟩ := DataW.trod_array Try.underlying22 h1
    have h2 := hel2 j hj
    rw [List.getElem?_eq_getElem (show j < zs.length by omega)] at h2
    obtain ⟨x, hx1, _, hw⟩ := DataW.trod_int Try.underlying3 h2
    refine ⟨x, ?_⟩
    rw [w3_cells1] at hx1
    have h3 := congrArg (fun l : List Value => l[0]?) hx1
    simp only [Value.cells, Nat.mul_one, List.getElem?_take, List.getElem?_drop] at h3
    simpa [hj] using h3
  obtain ⟨u0, u1, u2, u3, u4, u5, u6, u7, u8, u9, u10, u11, hcl⟩ : ∃ u0 u1 u2 u3 u4 u5 u6 u7 u8 u9 u10 u11, cs.toList = [u0, u1, u2, u3, u4, u5, u6, u7, u8, u9, u10, u11] := by
    match cs.toList, hlen with
    | [u0, u1, u2, u3, u4, u5, u6, u7, u8, u9, u10, u11], _ => exact ⟨_, _, _, _, _, _, _, _, _, _, _, _, rfl⟩
  rw [hcl] at cell
  obtain ⟨a0, e0⟩ := cell 0 0 (by decide) (by decide)
  obtain ⟨a1, e1⟩ := cell 0 1 (by decide) (by decide)
  obtain ⟨a2, e2⟩ := cell 0 2 (by decide) (by decide)
  obtain ⟨a3, e3⟩ := cell 0 3 (by decide) (by decide)
  obtain ⟨b0, f0⟩ := cell 1 0 (by decide) (by decide)
  obtain ⟨b1, f1⟩ := cell 1 1 (by decide) (by decide)
  obtain ⟨b2, f2⟩ := cell 1 2 (by decide) (by decide)
  obtain ⟨b3, f3⟩ := cell 1 3 (by decide) (by decide)
  obtain ⟨c0, g0⟩ := cell 2 0 (by decide) (by decide)
  obtain ⟨c1, g1⟩ := cell 2 1 (by decide) (by decide)
  obtain ⟨c2, g2⟩ := cell 2 2 (by decide) (by decide)
  obtain ⟨c3, g3⟩ := cell 2 3 (by decide) (by decide)
  simp at e0 e1 e2 e3 f0 f1 f2 f3 g0 g1 g2 g3
  subst e0 e1 e2 e3 f0 f1 f2 f3 g0 g1 g2 g3
  refine ⟨a0, a1, a2, a3, b0, b1, b2, b3, c0, c1, c2, c3, ?_⟩
  rw [w3Of_C]
  congr 1
  exact Array.toList_inj.1 hcl
end Go.Proofs.Ytohkchilogmneaa
