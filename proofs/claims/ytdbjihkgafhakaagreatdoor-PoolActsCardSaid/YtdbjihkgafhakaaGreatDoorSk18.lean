/-
  ref15 (flows): Same of two lists that are the same: the walk.
-/
import Derived.Test.YtdbjihkgafhakaaGreatDoorSk07
import Derived.Lib.QuietBelow
import Derived.BigQuiet
namespace Go.Proofs.YtdbjihkgafhakaaGreatDoor
open Go.RowKit Go.Sort
set_option maxRecDepth 100000 in
set_option maxHeartbeats 4000000 in
theorem r15Same_eq (u v : Value) (l m : List (FRow × Value)) (w : World) (h : RowsAt w u l) (h' : RowsAt w v m) (hlm : l.map Prod.fst = m.map Prod.fst) (hf : l.length ≤ 1000000) (hfs : ∀ p ∈ l, p.1.its.length ≤ 1000000) : Calls Tryz.prog 107 #[u, v] w fun e w' => e = .returned (.bool true) ∧ Below w.heap.size w w' := by
  have hl : m.length = l.length := by
    have := congrArg List.length hlm
    simpa using this.symm
  have HI := Lib.hid h
  have HJ := Lib.hid h'
  obtain ⟨a, cap, rfl, -⟩ := h.form
  obtain ⟨b, cap2, rfl, -⟩ := h'.form
  have HLM := Lib.hid hlm
  have HF := Lib.hid hf
  have HFS := Lib.hid hfs
  rw [hl] at HJ ⊢
  have HL := Lib.hid hl
  clear h h' hlm hf hfs hl
  have hle : ((l.length : Int) != (l.length : Int)) = false := by simp
  go_enter Tryz.func107, Tryz.ntmps107
  go_wp2_with fail
  go_loopg [5] l.length (fun g i wr => ∃ k : Nat, g = l.length - k ∧ i = .int .i64 k ∧ k ≤ l.length ∧ Below w.heap.size w wr)
  case atStart => exact ⟨0, rfl, rfl, Nat.zero_le _, Below.refl _ _⟩
  case round =>
    obtain ⟨k, hg, rfl, hk, hb⟩ := hrel
    have HG := Lib.hid hg
    have HB := Lib.hid hb
    clear hg hb
    by_cases hlt : k < l.length
    · obtain ⟨⟨x, vi⟩, hx⟩ : ∃ p, l[k]? = some p := ⟨_, List.getElem?_eq_getElem hlt⟩
      obtain ⟨⟨x', vj⟩, hy⟩ : ∃ p, m[k]? = some p := ⟨_, List.getElem?_eq_getElem (by have := HL.out; omega)⟩
      have hxx : x' = x := by
        have h := congrArg (fun z => z[k]?) HLM.out
        simp only [List.getElem?_map, hx, hy, Option.map_some, Option.some.injEq] at h
        exact h.symm
      subst hxx
      have HXI := Lib.hid (HI.out.its _ (List.mem_of_getElem? hx))
      have HXJ := Lib.hid (HJ.out.its _ (List.mem_of_getElem? hy))
      have HXF := Lib.hid (HFS.out _ (List.mem_of_getElem? hx))
      obtain ⟨g, off, cap', hv, _, c0, c1, c2, c3⟩ := (HI.out.below HB.out).at hx
      cases hv
      obtain ⟨g', off', cap', hv, _, d0, d1, d2, d3⟩ := (HJ.out.below HB.out).at hy
      rw [HL.out] at hv
      cases hv
      simp only at c0 c1 c2 c3 d0 d1 d2 d3
      have hkl : (k : Int) < (l.length : Int) := by omega
      have c0 := cell_regrown c0
      have c1 := cell_regrown c1
      have c2 := cell_regrown c2
      have c3 := cell_regrown c3
      have d0 := cell_regrown d0
      have d1 := cell_regrown d1
      have d2 := cell_regrown d2
      have d3 := cell_regrown d3
      have e0 : (x'.id != x'.id) = false := by simp
      have e1 : (x'.wt != x'.wt) = false := by simp
      have e2 : (x'.df != x'.df) = false := by simp
      have hsame : ∀ (d : Nat) (os : Array Obj), Calls Tryz.prog 129 #[vi, vj] (grow (redrawn wr d) os) fun e w' => e = .returned (.bool true) ∧ Below (grow (redrawn wr d) os).heap.size (grow (redrawn wr d) os) w' := fun d os => by
        have hb := below_of_regrown (d := d) (os := os) HB.out HB.out.size
        have h := r14Same_any vi vj x'.its x'.its _ (HXI.out.below hb) (HXJ.out.below hb) HXF.out HXF.out
        simpa using h
      have HSAME := Lib.hid hsame
      clear hx hy hsame
      go_upto_region 6 with fail
      refine wp_region_quiet_below (by kernel_rfl) (by kernel_rfl) ?_
      repeat (go_big_quiet_step (exact Calls.regrown_of (HSAME.out _ _)))
      refine wpQuiet_nil ?_
      rintro _ ⟨⟨dq, osq⟩, rfl⟩
      clear c0 c1 c2 c3 d0 d1 d2 d3
      go_wp2_with fail
      go_roundg (l.length - (k + 1))
      case rel =>
        have hf := HF.out
        exact ⟨k + 1, rfl, by rw [show wrap64 ((k : Int) + 1) = ((k + 1 : Nat) : Int) by unfold wrap64; omega], by omega, below_of_regrown HB.out HB.out.size⟩
      case measure => have := HG.out; omega
    · go_wp2_with fail
      go_ret
      exact ⟨rfl, HB.out⟩
end Go.Proofs.YtdbjihkgafhakaaGreatDoor
