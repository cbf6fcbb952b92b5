/-
  slices.Equal of integers and of truths: the walks.
  ref15.Same, ref16.Same, ref35.needs of any rows: the walks.
  An operation, and what becomes of it, that came in.
  An invocation that came in.
-/
import Derived.Test.YtjmlimogmmikoaaGreatDoorSx08
import Derived.Test.YtjmlimogmmikoaaGreatDoorSx07
import Derived.Deep.Cut
import Derived.Deep.LoopGhost
import Derived.Lib.QuietBelow
import Derived.BigQuiet
import Derived.StillTailTactics
import Derived.BigRegion
import Derived.Test.YtjmlimogmmikoaaGreatDoorSx04
import Derived.Test.YtjmlimogmmikoaaGreatDoorSx06
namespace Go.Proofs.YtjmlimogmmikoaaGreatDoor
open Go.RowKit
def eqZ (x y : Int) : Bool := x == y
theorem eqZ_self (x : Int) : eqZ x x = true := by simp [eqZ]
set_option maxRecDepth 100000 in
set_option maxHeartbeats 2000000 in
theorem sleqZ (v1 v2 : Value) (l m : List Int) (w : World) (h1 : SlAt w v1 l.length (l.flatMap encZ)) (h2 : SlAt w v2 m.length (m.flatMap encZ)) (hn : l.length ≤ 1000000) : Calls Tryz.prog 121 #[v1, v2] w (BoolPost (eqL eqZ l m) w) := by
  obtain ⟨a1, c1, hv1, hc1⟩ := h1.form
  obtain ⟨a2, c2, hv2, hc2⟩ := h2.form
  have H1 := Lib.hid h1
  have H2 := Lib.hid h2
  clear h1 h2
  by_cases hl : l.length = m.length
  · rw [hv1, hv2] at *
    rw [← hl]
    have HLL := Lib.hid hl
    clear hl
    go_enter Tryz.func121, Tryz.ntmps121
    go_wp2
    go_loopw [13] (fun i wr => EqRel eqZ l m w i wr) (fun i _ => l.length - (intOf i).toNat)
    case atStart => exact ⟨0, rfl, Nat.zero_le _, (fun j x y hj => by omega), Below.refl _ _⟩
    case round =>
      obtain ⟨k, rfl, hk, hall, hb⟩ := hrel
      have HB := Lib.hid hb
      have HA := Lib.hid hall
      clear hb hall
      by_cases hlt : k < l.length
      · obtain ⟨x, hx⟩ : ∃ x, l[k]? = some x := ⟨_, List.getElem?_eq_getElem hlt⟩
        obtain ⟨y, hy⟩ : ∃ y, m[k]? = some y := ⟨_, List.getElem?_eq_getElem (by have := HLL.out; omega)⟩
        obtain ⟨g, off, cp, hs1, -, r1⟩ := SlAt.at H1.out encZ_len (by decide) hx
        obtain ⟨g2, off2, cp2, hs2, -, r2⟩ := SlAt.at H2.out encZ_len (by decide) hy
        cases hs1
        cases hs2
        have HR1 := Lib.hid (show wr.drew.cell? ⟨g, off + k, none⟩ = some (Value.int .i64 x) from cell_below HB.out (by have := r1 0 _ rfl; simpa using this))
        have HR2 := Lib.hid (show wr.drew.cell? ⟨g2, off2 + k, none⟩ = some (Value.int .i64 y) from cell_below HB.out (by have := r2 0 _ rfl; simpa using this))
        have HX := Lib.hid hx
        have HY := Lib.hid hy
        have e0 : (k : Int) < l.length := by omega
        clear r1 r2 hx hy
        go_upto_region 6 with fail
        refine wp_region_noPanic ?_
        refine wp_region_any (by kernel_rfl) ?_
        change wpAny _ _ _ _ _ _ _ (World.drew _)
        refine wpAny_of_held (S := (fun w2 => w2.cell? ⟨g, off + k, none⟩ = some (Value.int .i64 x) ∧ w2.cell? ⟨g2, off2 + k, none⟩ = some (Value.int .i64 y))) _ _ _ _ ?_
        have hHeld : (fun w2 => w2.cell? ⟨g, off + k, none⟩ = some (Value.int .i64 x) ∧ w2.cell? ⟨g2, off2 + k, none⟩ = some (Value.int .i64 y)) wr.drew := ⟨HR1.out, HR2.out⟩
        refine wpAnyH_take (i := 0) (oi := ⟨some 16, _, _, _, _, _⟩) (v := ?_) rfl (by kernel_rfl) (by kernel_rfl) (by kernel_rfl) (fun _ _ _ h => h) (Or.inl ⟨by rfl, ?_⟩) (by assumption) ?_
        rotate_left 1
        · intro w hSw
          try dsimp only at hSw
          go_simp
          try with_reducible rfl
        try simp only [Act.put, List.setIfInBounds_toArray, List.set_cons_zero, List.set_cons_succ]
        refine wpAnyH_take (i := 1) (oi := ⟨some 17, _, _, _, _, _⟩) (v := ?_) rfl (by kernel_rfl) (by kernel_rfl) (by kernel_rfl) (fun _ _ _ h => h) (Or.inl ⟨by rfl, ?_⟩) (by assumption) ?_
        rotate_left 1
        · intro w hSw
          try dsimp only at hSw
          go_simp
          try with_reducible rfl
        try simp only [Act.put, List.setIfInBounds_toArray, List.set_cons_zero, List.set_cons_succ]
        refine wpAnyH_take (i := 2) (oi := ⟨some 18, _, _, _, _, _⟩) (v := ?_) rfl (by kernel_rfl) (by kernel_rfl) (by kernel_rfl) (fun _ _ _ h => h) (Or.inl ⟨by rfl, ?_⟩) (by assumption) ?_
        rotate_left 1
        · intro w hSw
          try dsimp only at hSw
          go_simp
          try with_reducible rfl
        try simp only [Act.put, List.setIfInBounds_toArray, List.set_cons_zero, List.set_cons_succ]
        refine wpAnyH_take (i := 3) (oi := ⟨some 19, _, _, _, _, _⟩) (v := ?_) rfl (by kernel_rfl) (by kernel_rfl) (by kernel_rfl) (fun _ _ _ h => h) (Or.inl ⟨by rfl, ?_⟩) (by assumption) ?_
        rotate_left 1
        · intro w hSw
          try dsimp only at hSw
          go_simp
          try with_reducible rfl
        try simp only [Act.put, List.setIfInBounds_toArray, List.set_cons_zero, List.set_cons_succ]
        refine wpAnyH_take (i := 4) (oi := ⟨some 20, _, _, _, _, _⟩) (v := ?_) rfl (by kernel_rfl) (by kernel_rfl) (by kernel_rfl) (fun _ _ _ h => h) (Or.inl ⟨by rfl, ?_⟩) (by assumption) ?_
        rotate_left 1
        · intro w hSw
          try dsimp only at hSw
          go_simp
          try with_reducible rfl
        try simp only [Act.put, List.setIfInBounds_toArray, List.set_cons_zero, List.set_cons_succ]
        refine wpAnyH_take (i := 5) (oi := ⟨some 21, _, _, _, _, _⟩) (v := ?_) rfl (by kernel_rfl) (by kernel_rfl) (by kernel_rfl) (fun _ _ _ h => h) (Or.inl ⟨by rfl, ?_⟩) (by assumption) ?_
        rotate_left 1
        · intro w hSw
          try dsimp only at hSw
          go_simp
          try with_reducible rfl
        try simp only [Act.put, List.setIfInBounds_toArray, List.set_cons_zero, List.set_cons_succ]
        refine wpAnyH_take (i := 6) (oi := ⟨some 22, _, _, _, _, _⟩) (v := ?_) rfl (by kernel_rfl) (by kernel_rfl) (by kernel_rfl) (fun _ _ _ h => h) (Or.inl ⟨by rfl, ?_⟩) (by assumption) ?_
        rotate_left 1
        · intro w hSw
          try dsimp only at hSw
          go_simp
          try with_reducible rfl
        try simp only [Act.put, List.setIfInBounds_toArray, List.set_cons_zero, List.set_cons_succ]
        refine wpAnyH_take (i := 7) (oi := ⟨some 23, _, _, _, _, _⟩) (v := ?_) rfl (by kernel_rfl) (by kernel_rfl) (by kernel_rfl) (fun _ _ _ h => h) (Or.inl ⟨by rfl, ?_⟩) (by assumption) ?_
        rotate_left 1
        · intro w hSw
          try dsimp only at hSw
          go_simp
          try with_reducible rfl
        try simp only [Act.put, List.setIfInBounds_toArray, List.set_cons_zero, List.set_cons_succ]
        refine wpAnyH_take (i := 8) (oi := ⟨some 24, _, _, _, _, _⟩) (v := ?_) rfl (by kernel_rfl) (by kernel_rfl) (by kernel_rfl) (fun _ _ _ h => h) (Or.inl ⟨by rfl, ?_⟩) (by assumption) ?_
        rotate_left 1
        · intro w hSw
          try dsimp only at hSw
          go_simp
          try with_reducible rfl
        try simp only [Act.put, List.setIfInBounds_toArray, List.set_cons_zero, List.set_cons_succ]
        refine wpAnyH_done (by kernel_rfl) ?_ _
        refine NoPanic.normal ?_
        clear hHeld
        rcases he : eqZ x y with _ | _
        · have HN := Lib.hid (eqL_at HX.out HY.out he)
          have he2 : (x != y) = true := by simpa [eqZ, bne] using he
          clear he
          go_wp2_with fail
          go_ret
          exact ⟨ret_bool HN.out.symm, HB.out.drew⟩
        · have HS := Lib.hid (eqRel_snoc HA.out HX.out HY.out he)
          have he2 : (x != y) = false := by simpa [eqZ, bne] using he
          clear he
          go_wp2_with fail
          go_roundw
          case rel => exact ⟨k + 1, by go_num, by omega, HS.out, HB.out.drew⟩
          case measure => simp [intOf]; omega
      · have HN := Lib.hid (eqL_all HLL.out (e := eqZ) (fun j x y a b => HA.out j x y (by have := (List.getElem?_eq_some_iff.1 a).1; omega) a b))
        go_wp2
        go_ret
        exact ⟨ret_bool HN.out.symm, HB.out⟩
  · have HN := Lib.hid (eqL_len (e := eqZ) hl)
    rw [hv1, hv2]
    go_enter Tryz.func121, Tryz.ntmps121
    go_wp2
    go_ret
    exact ⟨ret_bool HN.out.symm, Below.refl _ _⟩
def eqB (x y : Bool) : Bool := x == y
def encB (x : Bool) : List Value := [Value.bool x]
theorem encB_len (x : Bool) : (encB x).length = 1 := rfl
set_option maxRecDepth 100000 in
set_option maxHeartbeats 2000000 in
theorem sleqB (v1 v2 : Value) (l m : List Bool) (w : World) (h1 : SlAt w v1 l.length (l.flatMap encB)) (h2 : SlAt w v2 m.length (m.flatMap encB)) (hn : l.length ≤ 1000000) : Calls Tryz.prog 122 #[v1, v2] w (BoolPost (eqL eqB l m) w) := by
  obtain ⟨a1, c1, hv1, hc1⟩ := h1.form
  obtain ⟨a2, c2, hv2, hc2⟩ := h2.form
  have H1 := Lib.hid h1
  have H2 := Lib.hid h2
  clear h1 h2
  by_cases hl : l.length = m.length
  · rw [hv1, hv2] at *
    rw [← hl]
    have HLL := Lib.hid hl
    clear hl
    go_enter Tryz.func122, Tryz.ntmps122
    go_wp2
    go_loopw [13] (fun i wr => EqRel eqB l m w i wr) (fun i _ => l.length - (intOf i).toNat)
    case atStart => exact ⟨0, rfl, Nat.zero_le _, (fun j x y hj => by omega), Below.refl _ _⟩
    case round =>
      obtain ⟨k, rfl, hk, hall, hb⟩ := hrel
      have HB := Lib.hid hb
      have HA := Lib.hid hall
      clear hb hall
      by_cases hlt : k < l.length
      · obtain ⟨x, hx⟩ : ∃ x, l[k]? = some x := ⟨_, List.getElem?_eq_getElem hlt⟩
        obtain ⟨y, hy⟩ : ∃ y, m[k]? = some y := ⟨_, List.getElem?_eq_getElem (by have := HLL.out; omega)⟩
        obtain ⟨g, off, cp, hs1, -, r1⟩ := SlAt.at H1.out encB_len (by decide) hx
        obtain ⟨g2, off2, cp2, hs2, -, r2⟩ := SlAt.at H2.out encB_len (by decide) hy
        cases hs1
        cases hs2
        have HR1 := Lib.hid (show wr.drew.cell? ⟨g, off + k, none⟩ = some (Value.bool x) from cell_below HB.out (by have := r1 0 _ rfl; simpa using this))
        have HR2 := Lib.hid (show wr.drew.cell? ⟨g2, off2 + k, none⟩ = some (Value.bool y) from cell_below HB.out (by have := r2 0 _ rfl; simpa using this))
        have HX := Lib.hid hx
        have HY := Lib.hid hy
        have e0 : (k : Int) < l.length := by omega
        clear r1 r2 hx hy
        go_upto_region 6 with fail
        refine wp_region_noPanic ?_
        refine wp_region_any (by kernel_rfl) ?_
        change wpAny _ _ _ _ _ _ _ (World.drew _)
        refine wpAny_of_held (S := (fun w2 => w2.cell? ⟨g, off + k, none⟩ = some (Value.bool x) ∧ w2.cell? ⟨g2, off2 + k, none⟩ = some (Value.bool y))) _ _ _ _ ?_
        have hHeld : (fun w2 => w2.cell? ⟨g, off + k, none⟩ = some (Value.bool x) ∧ w2.cell? ⟨g2, off2 + k, none⟩ = some (Value.bool y)) wr.drew := ⟨HR1.out, HR2.out⟩
        refine wpAnyH_take (i := 0) (oi := ⟨some 16, _, _, _, _, _⟩) (v := ?_) rfl (by kernel_rfl) (by kernel_rfl) (by kernel_rfl) (fun _ _ _ h => h) (Or.inl ⟨by rfl, ?_⟩) (by assumption) ?_
        rotate_left 1
        · intro w hSw
          try dsimp only at hSw
          go_simp
          try with_reducible rfl
        try simp only [Act.put, List.setIfInBounds_toArray, List.set_cons_zero, List.set_cons_succ]
        refine wpAnyH_take (i := 1) (oi := ⟨some 17, _, _, _, _, _⟩) (v := ?_) rfl (by kernel_rfl) (by kernel_rfl) (by kernel_rfl) (fun _ _ _ h => h) (Or.inl ⟨by rfl, ?_⟩) (by assumption) ?_
        rotate_left 1
        · intro w hSw
          try dsimp only at hSw
          go_simp
          try with_reducible rfl
        try simp only [Act.put, List.setIfInBounds_toArray, List.set_cons_zero, List.set_cons_succ]
        refine wpAnyH_take (i := 2) (oi := ⟨some 18, _, _, _, _, _⟩) (v := ?_) rfl (by kernel_rfl) (by kernel_rfl) (by kernel_rfl) (fun _ _ _ h => h) (Or.inl ⟨by rfl, ?_⟩) (by assumption) ?_
        rotate_left 1
        · intro w hSw
          try dsimp only at hSw
          go_simp
          try with_reducible rfl
        try simp only [Act.put, List.setIfInBounds_toArray, List.set_cons_zero, List.set_cons_succ]
        refine wpAnyH_take (i := 3) (oi := ⟨some 19, _, _, _, _, _⟩) (v := ?_) rfl (by kernel_rfl) (by kernel_rfl) (by kernel_rfl) (fun _ _ _ h => h) (Or.inl ⟨by rfl, ?_⟩) (by assumption) ?_
        rotate_left 1
        · intro w hSw
          try dsimp only at hSw
          go_simp
          try with_reducible rfl
        try simp only [Act.put, List.setIfInBounds_toArray, List.set_cons_zero, List.set_cons_succ]
        refine wpAnyH_take (i := 4) (oi := ⟨some 20, _, _, _, _, _⟩) (v := ?_) rfl (by kernel_rfl) (by kernel_rfl) (by kernel_rfl) (fun _ _ _ h => h) (Or.inl ⟨by rfl, ?_⟩) (by assumption) ?_
        rotate_left 1
        · intro w hSw
          try dsimp only at hSw
          go_simp
          try with_reducible rfl
        try simp only [Act.put, List.setIfInBounds_toArray, List.set_cons_zero, List.set_cons_succ]
        refine wpAnyH_take (i := 5) (oi := ⟨some 21, _, _, _, _, _⟩) (v := ?_) rfl (by kernel_rfl) (by kernel_rfl) (by kernel_rfl) (fun _ _ _ h => h) (Or.inl ⟨by rfl, ?_⟩) (by assumption) ?_
        rotate_left 1
        · intro w hSw
          try dsimp only at hSw
          go_simp
          try with_reducible rfl
        try simp only [Act.put, List.setIfInBounds_toArray, List.set_cons_zero, List.set_cons_succ]
        refine wpAnyH_take (i := 6) (oi := ⟨some 22, _, _, _, _, _⟩) (v := ?_) rfl (by kernel_rfl) (by kernel_rfl) (by kernel_rfl) (fun _ _ _ h => h) (Or.inl ⟨by rfl, ?_⟩) (by assumption) ?_
        rotate_left 1
        · intro w hSw
          try dsimp only at hSw
          go_simp
          try with_reducible rfl
        try simp only [Act.put, List.setIfInBounds_toArray, List.set_cons_zero, List.set_cons_succ]
        refine wpAnyH_take (i := 7) (oi := ⟨some 23, _, _, _, _, _⟩) (v := ?_) rfl (by kernel_rfl) (by kernel_rfl) (by kernel_rfl) (fun _ _ _ h => h) (Or.inl ⟨by rfl, ?_⟩) (by assumption) ?_
        rotate_left 1
        · intro w hSw
          try dsimp only at hSw
          go_simp
          try with_reducible rfl
        try simp only [Act.put, List.setIfInBounds_toArray, List.set_cons_zero, List.set_cons_succ]
        refine wpAnyH_take (i := 8) (oi := ⟨some 24, _, _, _, _, _⟩) (v := ?_) rfl (by kernel_rfl) (by kernel_rfl) (by kernel_rfl) (fun _ _ _ h => h) (Or.inl ⟨by rfl, ?_⟩) (by assumption) ?_
        rotate_left 1
        · intro w hSw
          try dsimp only at hSw
          go_simp
          try with_reducible rfl
        try simp only [Act.put, List.setIfInBounds_toArray, List.set_cons_zero, List.set_cons_succ]
        refine wpAnyH_done (by kernel_rfl) ?_ _
        refine NoPanic.normal ?_
        clear hHeld
        rcases he : eqB x y with _ | _
        · rw [show (!(x == y)) = true by rw [show (x == y) = false from he]; rfl]
          have HN := Lib.hid (eqL_at HX.out HY.out he)
          have he2 : (!(x == y)) = true := by rw [show (x == y) = false from he]; rfl
          clear he
          go_wp2_with fail
          go_ret
          exact ⟨ret_bool HN.out.symm, HB.out.drew⟩
        · rw [show (!(x == y)) = false by rw [show (x == y) = true from he]; rfl]
          have HS := Lib.hid (eqRel_snoc HA.out HX.out HY.out he)
          have he2 : (!(x == y)) = false := by rw [show (x == y) = true from he]; rfl
          clear he
          go_wp2_with fail
          go_roundw
          case rel => exact ⟨k + 1, by go_num, by omega, HS.out, HB.out.drew⟩
          case measure => simp [intOf]; omega
      · have HN := Lib.hid (eqL_all HLL.out (e := eqB) (fun j x y a b => HA.out j x y (by have := (List.getElem?_eq_some_iff.1 a).1; omega) a b))
        go_wp2
        go_ret
        exact ⟨ret_bool HN.out.symm, HB.out⟩
  · have HN := Lib.hid (eqL_len (e := eqB) hl)
    rw [hv1, hv2]
    go_enter Tryz.func122, Tryz.ntmps122
    go_wp2
    go_ret
    exact ⟨ret_bool HN.out.symm, Below.refl _ _⟩
end Go.Proofs.YtjmlimogmmikoaaGreatDoor
namespace Go.Proofs.YtjmlimogmmikoaaGreatDoor
open Go.RowKit Go.Sort
def eqFV (p q : FRow × Value) : Bool := (p.1.id == q.1.id) && (p.1.wt == q.1.wt) && (p.1.df == q.1.df) && eqL eqIt p.1.its q.1.its
def eqDV (p q : DV) : Bool := (p.1.id == q.1.id) && (p.1.wt == q.1.wt) && (p.1.df == q.1.df) && (p.1.gv == q.1.gv) && eqL eqFV p.2.2.2 q.2.2.2
set_option maxRecDepth 100000 in
set_option maxHeartbeats 8000000 in
theorem r15SameB (u v : Value) (l m : List (FRow × Value)) (w : World) (h : RowsAt w u l) (h' : RowsAt w v m) (hf : l.length ≤ 1000000) (hfs : ∀ p ∈ l, p.1.its.length ≤ 1000000) : Calls Tryz.prog 179 #[u, v] w (BoolPost (eqL eqFV l m) w) := by
  have HI := Lib.hid h
  have HJ := Lib.hid h'
  obtain ⟨a, cap, rfl, -⟩ := h.form
  obtain ⟨b, cap2, rfl, -⟩ := h'.form
  have HF := Lib.hid hf
  have HFS := Lib.hid hfs
  clear h h' hf hfs
  by_cases hl : m.length = l.length
  · rw [hl] at HJ ⊢
    have HL := Lib.hid hl
    clear hl
    have hle : ((l.length : Int) != (l.length : Int)) = false := by simp
    go_enter Tryz.func179, Tryz.ntmps179
    go_wp2_with fail
    go_loopg [5] l.length (fun g i wr => ∃ k : Nat, g = l.length - k ∧ i = .int .i64 k ∧ k ≤ l.length ∧ (∀ (j : Nat) x y, j < k → l[j]? = some x → m[j]? = some y → eqFV x y = true) ∧ Below w.heap.size w wr)
    case atStart => exact ⟨0, rfl, rfl, Nat.zero_le _, (fun j x y hj => by omega), Below.refl _ _⟩
    case round =>
      obtain ⟨k, hg, rfl, hk, hall, hb⟩ := hrel
      have HG := Lib.hid hg
      have HB := Lib.hid hb
      have HA := Lib.hid hall
      clear hg hb hall
      by_cases hlt : k < l.length
      · obtain ⟨⟨⟨xi, xw, xd, xr⟩, vi⟩, hx⟩ : ∃ p, l[k]? = some p := ⟨_, List.getElem?_eq_getElem hlt⟩
        obtain ⟨⟨⟨yi, yw, yd, yr⟩, vj⟩, hy⟩ : ∃ p, m[k]? = some p := ⟨_, List.getElem?_eq_getElem (by have := HL.out; omega)⟩
        have HX := Lib.hid hx
        have HY := Lib.hid hy
        have HXI := Lib.hid (HI.out.its _ (List.mem_of_getElem? hx))
        have HXJ := Lib.hid (HJ.out.its _ (List.mem_of_getElem? hy))
        have HXF := Lib.hid (HFS.out _ (List.mem_of_getElem? hx))
        obtain ⟨g, off, cap', hv, _, c0, c1, c2, c3⟩ := (HI.out.below HB.out).at hx
        cases hv
        obtain ⟨g', off', cap', hv, _, d0, d1, d2, d3⟩ := (HJ.out.below HB.out).at hy
        rw [HL.out] at hv
        cases hv
        simp only at c0 c1 c2 c3 d0 d1 d2 d3
        have hkl : (k : Int) < (l.length : Int) := by omega
        clear hx hy
        have c0 := cell_regrown c0
        have c1 := cell_regrown c1
        have c2 := cell_regrown c2
        have c3 := cell_regrown c3
        have d0 := cell_regrown d0
        have d1 := cell_regrown d1
        have d2 := cell_regrown d2
        have d3 := cell_regrown d3
        have hsame : ∀ (d : Nat) (os : Array Obj), Calls Tryz.prog 211 #[vi, vj] (grow (redrawn wr d) os) fun e w' => e = .returned (.bool (eqL eqIt xr yr)) ∧ Below (grow (redrawn wr d) os).heap.size (grow (redrawn wr d) os) w' := fun d os => by
          have hb := below_of_regrown (d := d) (os := os) HB.out HB.out.size
          exact doeqIt vi vj xr yr _ (HXI.out.below hb) (HXJ.out.below hb) HXF.out
        by_cases z0 : (xi != yi) = true
        · clear hsame
          have HN := Lib.hid (eqL_at (e := eqFV) HX.out HY.out (by unfold eqFV; simp [show (xi == yi) = false by simpa using z0]))
          go_upto_region 6 with fail
          refine wp_region_quiet_below (by kernel_rfl) (by kernel_rfl) ?_
          repeat (go_big_quiet_step (fail))
          refine wpQuiet_nil ?_
          rintro _ ⟨⟨dq, osq⟩, rfl⟩
          clear c0 d0 c1 d1 c2 d2 c3 d3
          go_wp2_with fail
          go_ret
          exact ⟨ret_bool HN.out.symm, below_of_regrown HB.out HB.out.size⟩
        have z0 : (xi != yi) = false := by simpa using z0
        by_cases z1 : (xw != yw) = true
        · clear hsame
          have HN := Lib.hid (eqL_at (e := eqFV) HX.out HY.out (by unfold eqFV; simp [show (xw == yw) = false by simpa using z1]))
          go_upto_region 6 with fail
          refine wp_region_quiet_below (by kernel_rfl) (by kernel_rfl) ?_
          repeat (go_big_quiet_step (fail))
          refine wpQuiet_nil ?_
          rintro _ ⟨⟨dq, osq⟩, rfl⟩
          clear c0 d0 c1 d1 c2 d2 c3 d3
          go_wp2_with fail
          go_ret
          exact ⟨ret_bool HN.out.symm, below_of_regrown HB.out HB.out.size⟩
        have z1 : (xw != yw) = false := by simpa using z1
        by_cases z2 : (xd != yd) = true
        · clear hsame
          have HN := Lib.hid (eqL_at (e := eqFV) HX.out HY.out (by unfold eqFV; simp [show (xd == yd) = false by simpa using z2]))
          go_upto_region 6 with fail
          refine wp_region_quiet_below (by kernel_rfl) (by kernel_rfl) ?_
          repeat (go_big_quiet_step (fail))
          refine wpQuiet_nil ?_
          rintro _ ⟨⟨dq, osq⟩, rfl⟩
          clear c0 d0 c1 d1 c2 d2 c3 d3
          go_wp2_with fail
          go_ret
          exact ⟨ret_bool HN.out.symm, below_of_regrown HB.out HB.out.size⟩
        have z2 : (xd != yd) = false := by simpa using z2
        rcases hq : eqL eqIt xr yr with _ | _
        · rw [hq] at hsame
          have HSAME := Lib.hid hsame
          clear hsame
          have HN := Lib.hid (eqL_at (e := eqFV) HX.out HY.out (by unfold eqFV; simp [hq]))
          go_upto_region 6 with fail
          refine wp_region_quiet_below (by kernel_rfl) (by kernel_rfl) ?_
          repeat (go_big_quiet_step (exact Calls.regrown_of (HSAME.out _ _)))
          refine wpQuiet_nil ?_
          rintro _ ⟨⟨dq, osq⟩, rfl⟩
          clear c0 d0 c1 d1 c2 d2 c3 d3
          go_wp2_with fail
          go_ret
          exact ⟨ret_bool HN.out.symm, below_of_regrown HB.out HB.out.size⟩
        · rw [hq] at hsame
          have HSAME := Lib.hid hsame
          clear hsame
          have HS := Lib.hid (eqRel_snoc (e := eqFV) HA.out HX.out HY.out (by unfold eqFV; simp [hq, show xi = yi by simpa using z0, show xw = yw by simpa using z1, show xd = yd by simpa using z2]))
          go_upto_region 6 with fail
          refine wp_region_quiet_below (by kernel_rfl) (by kernel_rfl) ?_
          repeat (go_big_quiet_step (exact Calls.regrown_of (HSAME.out _ _)))
          refine wpQuiet_nil ?_
          rintro _ ⟨⟨dq, osq⟩, rfl⟩
          clear c0 d0 c1 d1 c2 d2 c3 d3
          go_wp2_with fail
          go_roundg (l.length - (k + 1))
          case rel => exact ⟨k + 1, rfl, by have hf := HF.out; rw [show wrap64 ((k : Int) + 1) = ((k + 1 : Nat) : Int) by unfold wrap64; omega], by omega, HS.out, below_of_regrown HB.out HB.out.size⟩
          case measure => have := HG.out; omega
      · have HN := Lib.hid (eqL_all (by have := HL.out; omega) (e := eqFV) (fun j x y a b => HA.out j x y (by have := (List.getElem?_eq_some_iff.1 a).1; omega) a b))
        go_wp2_with fail
        go_ret
        exact ⟨ret_bool HN.out.symm, HB.out⟩
  · have HN := Lib.hid (eqL_len (e := eqFV) (l := l) (m := m) (fun h => hl h.symm))
    have hne : ((l.length : Int) != (m.length : Int)) = true := by simp; omega
    clear hl
    go_enter Tryz.func179, Tryz.ntmps179
    go_wp2_with fail
    go_ret
    exact ⟨ret_bool HN.out.symm, Below.refl _ _⟩
set_option maxRecDepth 100000 in
set_option maxHeartbeats 8000000 in
theorem r16SameB (u v : Value) (l m : List DV) (w : World) (h : DRowsAt w u l) (h' : DRowsAt w v m) (hf : l.length ≤ 1000000) (hfs : ∀ p ∈ l, p.2.2.2.length ≤ 1000000 ∧ ∀ r ∈ p.2.2.2, r.1.its.length ≤ 1000000) : Calls Tryz.prog 124 #[u, v] w (BoolPost (eqL eqDV l m) w) := by
  have HI := Lib.hid h
  have HJ := Lib.hid h'
  obtain ⟨a, cap, rfl, -⟩ := h.form
  obtain ⟨b, cap2, rfl, -⟩ := h'.form
  have HF := Lib.hid hf
  have HFS := Lib.hid hfs
  clear h h' hf hfs
  by_cases hl : m.length = l.length
  · rw [hl] at HJ ⊢
    have HL := Lib.hid hl
    clear hl
    have hle : ((l.length : Int) != (l.length : Int)) = false := by simp
    go_enter Tryz.func124, Tryz.ntmps124
    go_wp2_with fail
    go_loopg [5] l.length (fun g i wr => ∃ k : Nat, g = l.length - k ∧ i = .int .i64 k ∧ k ≤ l.length ∧ (∀ (j : Nat) x y, j < k → l[j]? = some x → m[j]? = some y → eqDV x y = true) ∧ Below w.heap.size w wr)
    case atStart => exact ⟨0, rfl, rfl, Nat.zero_le _, (fun j x y hj => by omega), Below.refl _ _⟩
    case round =>
      obtain ⟨k, hg, rfl, hk, hall, hb⟩ := hrel
      have HG := Lib.hid hg
      have HB := Lib.hid hb
      have HA := Lib.hid hall
      clear hg hb hall
      by_cases hlt : k < l.length
      · obtain ⟨⟨⟨xi, xw, xd, xg, xr⟩, q1, vi, li⟩, hx⟩ : ∃ p, l[k]? = some p := ⟨_, List.getElem?_eq_getElem hlt⟩
        obtain ⟨⟨⟨yi, yw, yd, yg, yr⟩, q2, vj, lj⟩, hy⟩ : ∃ p, m[k]? = some p := ⟨_, List.getElem?_eq_getElem (by have := HL.out; omega)⟩
        have HX := Lib.hid hx
        have HY := Lib.hid hy
        have HXI := Lib.hid (HI.out.inv _ (List.mem_of_getElem? hx))
        have HXJ := Lib.hid (HJ.out.inv _ (List.mem_of_getElem? hy))
        have HXF := Lib.hid (HFS.out _ (List.mem_of_getElem? hx))
        obtain ⟨g, off, cap', hv, _, c0, c1, c2, c3, c4, c5⟩ := (HI.out.below HB.out).at hx
        cases hv
        obtain ⟨g', off', cap', hv, _, d0, d1, d2, d3, d4, d5⟩ := (HJ.out.below HB.out).at hy
        rw [HL.out] at hv
        cases hv
        simp only at c0 c1 c2 c3 c4 c5 d0 d1 d2 d3 d4 d5
        have hkl : (k : Int) < (l.length : Int) := by omega
        clear hx hy
        have c0 := cell_regrown c0
        have c1 := cell_regrown c1
        have c2 := cell_regrown c2
        have c4 := cell_regrown c4
        have c5 := cell_regrown c5
        have d0 := cell_regrown d0
        have d1 := cell_regrown d1
        have d2 := cell_regrown d2
        have d4 := cell_regrown d4
        have d5 := cell_regrown d5
        clear c3 d3
        have hsame : ∀ (d : Nat) (os : Array Obj), Calls Tryz.prog 179 #[vi, vj] (grow (redrawn wr d) os) fun e w' => e = .returned (.bool (eqL eqFV li lj)) ∧ Below (grow (redrawn wr d) os).heap.size (grow (redrawn wr d) os) w' := fun d os => by
          have hb := below_of_regrown (d := d) (os := os) HB.out HB.out.size
          exact r15SameB vi vj li lj _ (HXI.out.rows.below hb) (HXJ.out.rows.below hb) HXF.out.1 HXF.out.2
        by_cases z0 : (xi != yi) = true
        · clear hsame
          have HN := Lib.hid (eqL_at (e := eqDV) HX.out HY.out (by unfold eqDV; simp [show (xi == yi) = false by simpa using z0]))
          go_upto_region 6 with fail
          refine wp_region_quiet_below (by kernel_rfl) (by kernel_rfl) ?_
          dsimp only [List.append]
          repeat (go_big_quiet_step (fail))
          refine wpQuiet_nil ?_
          rintro _ ⟨⟨dq, osq⟩, rfl⟩
          clear c0 d0 c1 d1 c2 d2 c4 d4 c5 d5
          go_wp2_with fail
          go_ret
          exact ⟨ret_bool HN.out.symm, below_of_regrown HB.out HB.out.size⟩
        have z0 : (xi != yi) = false := by simpa using z0
        by_cases z1 : (xw != yw) = true
        · clear hsame
          have HN := Lib.hid (eqL_at (e := eqDV) HX.out HY.out (by unfold eqDV; simp [show (xw == yw) = false by simpa using z1]))
          go_upto_region 6 with fail
          refine wp_region_quiet_below (by kernel_rfl) (by kernel_rfl) ?_
          dsimp only [List.append]
          repeat (go_big_quiet_step (fail))
          refine wpQuiet_nil ?_
          rintro _ ⟨⟨dq, osq⟩, rfl⟩
          clear c0 d0 c1 d1 c2 d2 c4 d4 c5 d5
          go_wp2_with fail
          go_ret
          exact ⟨ret_bool HN.out.symm, below_of_regrown HB.out HB.out.size⟩
        have z1 : (xw != yw) = false := by simpa using z1
        by_cases z2 : (xd != yd) = true
        · clear hsame
          have HN := Lib.hid (eqL_at (e := eqDV) HX.out HY.out (by unfold eqDV; simp [show (xd == yd) = false by simpa using z2]))
          go_upto_region 6 with fail
          refine wp_region_quiet_below (by kernel_rfl) (by kernel_rfl) ?_
          dsimp only [List.append]
          repeat (go_big_quiet_step (fail))
          refine wpQuiet_nil ?_
          rintro _ ⟨⟨dq, osq⟩, rfl⟩
          clear c0 d0 c1 d1 c2 d2 c4 d4 c5 d5
          go_wp2_with fail
          go_ret
          exact ⟨ret_bool HN.out.symm, below_of_regrown HB.out HB.out.size⟩
        have z2 : (xd != yd) = false := by simpa using z2
        rcases xg with _ | _ <;> rcases yg with _ | _
        · skip
          rcases hq : eqL eqFV li lj with _ | _
          · rw [hq] at hsame
            have HSAME := Lib.hid hsame
            clear hsame
            have HN := Lib.hid (eqL_at (e := eqDV) HX.out HY.out (by unfold eqDV; simp [hq]))
            go_upto_region 6 with fail
            refine wp_region_quiet_below (by kernel_rfl) (by kernel_rfl) ?_
            dsimp only [List.append]
            repeat (go_big_quiet_step (exact Calls.regrown_of (HSAME.out _ _)))
            refine wpQuiet_nil ?_
            rintro _ ⟨⟨dq, osq⟩, rfl⟩
            clear c0 d0 c1 d1 c2 d2 c4 d4 c5 d5
            go_wp2_with fail
            go_ret
            exact ⟨ret_bool HN.out.symm, below_of_regrown HB.out HB.out.size⟩
          · rw [hq] at hsame
            have HSAME := Lib.hid hsame
            clear hsame
            have HS := Lib.hid (eqRel_snoc (e := eqDV) HA.out HX.out HY.out (by unfold eqDV; simp [hq, show xi = yi by simpa using z0, show xw = yw by simpa using z1, show xd = yd by simpa using z2]))
            go_upto_region 6 with fail
            refine wp_region_quiet_below (by kernel_rfl) (by kernel_rfl) ?_
            dsimp only [List.append]
            repeat (go_big_quiet_step (exact Calls.regrown_of (HSAME.out _ _)))
            refine wpQuiet_nil ?_
            rintro _ ⟨⟨dq, osq⟩, rfl⟩
            clear c0 d0 c1 d1 c2 d2 c4 d4 c5 d5
            go_wp2_with fail
            go_roundg (l.length - (k + 1))
            case rel => exact ⟨k + 1, rfl, by have hf := HF.out; rw [show wrap64 ((k : Int) + 1) = ((k + 1 : Nat) : Int) by unfold wrap64; omega], by omega, HS.out, below_of_regrown HB.out HB.out.size⟩
            case measure => have := HG.out; omega
        · skip
          clear hsame
          have HN := Lib.hid (eqL_at (e := eqDV) HX.out HY.out (by unfold eqDV; simp))
          go_upto_region 6 with fail
          refine wp_region_quiet_below (by kernel_rfl) (by kernel_rfl) ?_
          dsimp only [List.append]
          repeat (go_big_quiet_step (fail))
          refine wpQuiet_nil ?_
          rintro _ ⟨⟨dq, osq⟩, rfl⟩
          clear c0 d0 c1 d1 c2 d2 c4 d4 c5 d5
          go_wp2_with fail
          go_ret
          exact ⟨ret_bool HN.out.symm, below_of_regrown HB.out HB.out.size⟩
        · skip
          clear hsame
          have HN := Lib.hid (eqL_at (e := eqDV) HX.out HY.out (by unfold eqDV; simp))
          go_upto_region 6 with fail
          refine wp_region_quiet_below (by kernel_rfl) (by kernel_rfl) ?_
          dsimp only [List.append]
          repeat (go_big_quiet_step (fail))
          refine wpQuiet_nil ?_
          rintro _ ⟨⟨dq, osq⟩, rfl⟩
          clear c0 d0 c1 d1 c2 d2 c4 d4 c5 d5
          go_wp2_with fail
          go_ret
          exact ⟨ret_bool HN.out.symm, below_of_regrown HB.out HB.out.size⟩
        · skip
          rcases hq : eqL eqFV li lj with _ | _
          · rw [hq] at hsame
            have HSAME := Lib.hid hsame
            clear hsame
            have HN := Lib.hid (eqL_at (e := eqDV) HX.out HY.out (by unfold eqDV; simp [hq]))
            go_upto_region 6 with fail
            refine wp_region_quiet_below (by kernel_rfl) (by kernel_rfl) ?_
            dsimp only [List.append]
            repeat (go_big_quiet_step (exact Calls.regrown_of (HSAME.out _ _)))
            refine wpQuiet_nil ?_
            rintro _ ⟨⟨dq, osq⟩, rfl⟩
            clear c0 d0 c1 d1 c2 d2 c4 d4 c5 d5
            go_wp2_with fail
            go_ret
            exact ⟨ret_bool HN.out.symm, below_of_regrown HB.out HB.out.size⟩
          · rw [hq] at hsame
            have HSAME := Lib.hid hsame
            clear hsame
            have HS := Lib.hid (eqRel_snoc (e := eqDV) HA.out HX.out HY.out (by unfold eqDV; simp [hq, show xi = yi by simpa using z0, show xw = yw by simpa using z1, show xd = yd by simpa using z2]))
            go_upto_region 6 with fail
            refine wp_region_quiet_below (by kernel_rfl) (by kernel_rfl) ?_
            dsimp only [List.append]
            repeat (go_big_quiet_step (exact Calls.regrown_of (HSAME.out _ _)))
            refine wpQuiet_nil ?_
            rintro _ ⟨⟨dq, osq⟩, rfl⟩
            clear c0 d0 c1 d1 c2 d2 c4 d4 c5 d5
            go_wp2_with fail
            go_roundg (l.length - (k + 1))
            case rel => exact ⟨k + 1, rfl, by have hf := HF.out; rw [show wrap64 ((k : Int) + 1) = ((k + 1 : Nat) : Int) by unfold wrap64; omega], by omega, HS.out, below_of_regrown HB.out HB.out.size⟩
            case measure => have := HG.out; omega
      · have HN := Lib.hid (eqL_all (by have := HL.out; omega) (e := eqDV) (fun j x y a b => HA.out j x y (by have := (List.getElem?_eq_some_iff.1 a).1; omega) a b))
        go_wp2_with fail
        go_ret
        exact ⟨ret_bool HN.out.symm, HB.out⟩
  · have HN := Lib.hid (eqL_len (e := eqDV) (l := l) (m := m) (fun h => hl h.symm))
    have hne : ((l.length : Int) != (m.length : Int)) = true := by simp; omega
    clear hl
    go_enter Tryz.func124, Tryz.ntmps124
    go_wp2_with fail
    go_ret
    exact ⟨ret_bool HN.out.symm, Below.refl _ _⟩
end Go.Proofs.YtjmlimogmmikoaaGreatDoor
namespace Go.Proofs.YtjmlimogmmikoaaGreatDoor
open Go.ChangeShapes Go.WideShapes Go.ChangeAt Go.RowKit Go.Deep
theorem op_cellsN : Tryz.prog.cellsOf 53 = 18 := by kernel_rfl
theorem oaction_cells : Tryz.prog.cellsOf 51 = 3 := by kernel_rfl
theorem oo_int : Tryz.prog.cellsOf 3 = 1 := by kernel_rfl
theorem oo_str : Tryz.prog.cellsOf 9 = 1 := by kernel_rfl
theorem oo_u64 : Tryz.prog.cellsOf 26 = 1 := by kernel_rfl
theorem op_fieldsN : ∃ fs, Tryz.prog.underlying 53 = some (.struct fs) ∧ fs.toList.map (fun f => (f.type, f.offset)) = [(3, 0), (3, 1), (3, 2), (51, 3), (3, 6), (3, 7), (3, 8), (3, 9), (3, 10), (3, 11), (3, 12), (3, 13), (3, 14), (26, 15), (26, 16), (26, 17)] := ⟨_, Tryz.underlying53, by kernel_rfl⟩
theorem oaction_fields : ∃ fs, Tryz.prog.underlying 51 = some (.struct fs) ∧ fs.toList.map (fun f => (f.type, f.offset)) = [(9, 0), (9, 1), (9, 2)] := ⟨_, Tryz.underlying51, by kernel_rfl⟩
theorem ofield_of {fs : Array Field} {l : List (TypeId × Nat)} (h : fs.toList.map (fun f => (f.type, f.offset)) = l) {j : Nat} {t : TypeId} {o : Nat} (ht : l[j]? = some (t, o)) : ∃ f, fs[j]? = some f ∧ f.type = t ∧ f.offset = o := by
  rw [← h, List.getElem?_map] at ht
  cases hj : fs.toList[j]? with
  | none => rw [hj] at ht; cases ht
  | some f =>
    rw [hj] at ht
    simp at ht
    exact ⟨f, by simpa using hj, ht.1, ht.2⟩
section
variable {H : Type} {enc : TypeId × Value → H} {W : World} {base : Nat} {sp : Nat → Bool} {hd : Bool}
theorem odec_int {n : Nat} {cs : List Value} {y : Option (DataW H × List MemPlace)} {ys : DataW H × List MemPlace} (h : DataW.trod enc Tryz.prog W base sp hd n 3 cs = y) (hy : y = some ys) : ∃ k : Int, cs = [.int .i64 k] := by
  subst hy
  obtain ⟨k, e, _, _⟩ := DataW.trod_int Tryz.underlying3 h
  exact ⟨k, e⟩
set_option maxRecDepth 100000 in
theorem odec_u64 {n : Nat} {cs : List Value} {y : Option (DataW H × List MemPlace)} {ys : DataW H × List MemPlace} (h : DataW.trod enc Tryz.prog W base sp hd n 26 cs = y) (hy : y = some ys) : ∃ k : Int, cs = [.int .u64 k] ∧ 0 ≤ k ∧ k ≤ 18446744073709551615 := by
  subst hy
  obtain ⟨k, e, _, hw⟩ := DataW.trod_int Tryz.underlying26 h
  have b := bounds_u64 hw
  exact ⟨k, e, b.1, b.2⟩
theorem odec_string {n : Nat} {cs : List Value} {y : Option (DataW H × List MemPlace)} {ys : DataW H × List MemPlace} (h : DataW.trod enc Tryz.prog W base sp hd n 9 cs = y) (hy : y = some ys) : ∃ s : ByteArray, cs = [.string s] := by
  subst hy
  obtain ⟨s, e, rfl, _⟩ := DataW.trod_string Tryz.underlying9 h
  exact ⟨s, e⟩
set_option maxRecDepth 100000 in
theorem odec_action {n : Nat} {cs : List Value} {y : Option (DataW H × List MemPlace)} {ys : DataW H × List MemPlace} (h : DataW.trod enc Tryz.prog W base sp hd n 51 cs = y) (hy : y = some ys) : ∃ k c m : ByteArray, cs = [.string k, .string c, .string m] := by
  subst hy
  obtain ⟨fs, hu, hfs⟩ := oaction_fields
  obtain ⟨zs, m, _, hy, hlen, hyl, hf⟩ := DataW.trod_struct hu h
  have hsz : fs.size = 3 := by have := congrArg List.length hfs; simpa using this
  rw [oaction_cells] at hlen
  have hzs (j : Nat) (hj : j < 3) : zs[j]? = some (zs[j]'(by omega)) := List.getElem?_eq_getElem (by omega)
  obtain ⟨u0, u1, u2, rfl⟩ : ∃ u0 u1 u2, cs = [u0, u1, u2] := by
    match cs, hlen with
    | [u0, u1, u2], _ => exact ⟨_, _, _, rfl⟩
  have key (j : Nat) (t : TypeId) (o : Nat) (ht : ([(9, 0), (9, 1), (9, 2)] : List (TypeId × Nat))[j]? = some (t, o)) (h1 : Tryz.prog.cellsOf t = 1) : DataW.trod enc Tryz.prog W base sp hd m t (([u0, u1, u2].drop o).take 1) = zs[j]? := by
    obtain ⟨f, hj, rfl, rfl⟩ := ofield_of hfs ht
    have := hf j f hj
    rw [h1] at this
    exact this
  obtain ⟨k0, e0⟩ := odec_string (key 0 _ _ rfl oo_str) (hzs 0 (by omega))
  obtain ⟨k1, e1⟩ := odec_string (key 1 _ _ rfl oo_str) (hzs 1 (by omega))
  obtain ⟨k2, e2⟩ := odec_string (key 2 _ _ rfl oo_str) (hzs 2 (by omega))
  simp at e0 e1 e2
  subst e0 e1 e2
  exact ⟨_, _, _, rfl⟩
set_option maxRecDepth 100000 in
theorem odec_op {n : Nat} {cs : List Value} {y : DataW H × List MemPlace} (h : DataW.trod enc Tryz.prog W base sp hd n 53 cs = some y) : ∃ x : Opr, cs = (opA x).toList := by
  obtain ⟨fs, hu, hfs⟩ := op_fieldsN
  obtain ⟨ys, m, _, hy, hlen, hyl, hf⟩ := DataW.trod_struct hu h
  have hsz : fs.size = 16 := by have := congrArg List.length hfs; simpa using this
  rw [op_cellsN] at hlen
  have hys (j : Nat) (hj : j < 16) : ys[j]? = some (ys[j]'(by omega)) := List.getElem?_eq_getElem (by omega)
  obtain ⟨u0, u1, u2, u3, u4, u5, u6, u7, u8, u9, u10, u11, u12, u13, u14, u15, u16, u17, rfl⟩ : ∃ u0 u1 u2 u3 u4 u5 u6 u7 u8 u9 u10 u11 u12 u13 u14 u15 u16 u17, cs = [u0, u1, u2, u3, u4, u5, u6, u7, u8, u9, u10, u11, u12, u13, u14, u15, u16, u17] := by
    match cs, hlen with
    | [u0, u1, u2, u3, u4, u5, u6, u7, u8, u9, u10, u11, u12, u13, u14, u15, u16, u17], _ => exact ⟨_, _, _, _, _, _, _, _, _, _, _, _, _, _, _, _, _, _, rfl⟩
  have key (j : Nat) (t : TypeId) (o : Nat) (k : Nat) (ht : ([(3, 0), (3, 1), (3, 2), (51, 3), (3, 6), (3, 7), (3, 8), (3, 9), (3, 10), (3, 11), (3, 12), (3, 13), (3, 14), (26, 15), (26, 16), (26, 17)] : List (TypeId × Nat))[j]? = some (t, o)) (h1 : Tryz.prog.cellsOf t = k) : DataW.trod enc Tryz.prog W base sp hd m t (([u0, u1, u2, u3, u4, u5, u6, u7, u8, u9, u10, u11, u12, u13, u14, u15, u16, u17].drop o).take k) = ys[j]? := by
    obtain ⟨f, hj, rfl, rfl⟩ := ofield_of hfs ht
    have := hf j f hj
    rw [h1] at this
    exact this
  obtain ⟨k0, e0⟩ := odec_int (key 0 _ _ 1 rfl oo_int) (hys 0 (by omega))
  obtain ⟨k1, e1⟩ := odec_int (key 1 _ _ 1 rfl oo_int) (hys 1 (by omega))
  obtain ⟨k2, e2⟩ := odec_int (key 2 _ _ 1 rfl oo_int) (hys 2 (by omega))
  obtain ⟨ka, kb, kc, e3⟩ := odec_action (key 3 _ _ 3 rfl oaction_cells) (hys 3 (by omega))
  obtain ⟨k4, e4⟩ := odec_int (key 4 _ _ 1 rfl oo_int) (hys 4 (by omega))
  obtain ⟨k5, e5⟩ := odec_int (key 5 _ _ 1 rfl oo_int) (hys 5 (by omega))
  obtain ⟨k6, e6⟩ := odec_int (key 6 _ _ 1 rfl oo_int) (hys 6 (by omega))
  obtain ⟨k7, e7⟩ := odec_int (key 7 _ _ 1 rfl oo_int) (hys 7 (by omega))
  obtain ⟨k8, e8⟩ := odec_int (key 8 _ _ 1 rfl oo_int) (hys 8 (by omega))
  obtain ⟨k9, e9⟩ := odec_int (key 9 _ _ 1 rfl oo_int) (hys 9 (by omega))
  obtain ⟨k10, e10⟩ := odec_int (key 10 _ _ 1 rfl oo_int) (hys 10 (by omega))
  obtain ⟨k11, e11⟩ := odec_int (key 11 _ _ 1 rfl oo_int) (hys 11 (by omega))
  obtain ⟨k12, e12⟩ := odec_int (key 12 _ _ 1 rfl oo_int) (hys 12 (by omega))
  obtain ⟨k13, e13, _⟩ := odec_u64 (key 13 _ _ 1 rfl oo_u64) (hys 13 (by omega))
  obtain ⟨k14, e14, _⟩ := odec_u64 (key 14 _ _ 1 rfl oo_u64) (hys 14 (by omega))
  obtain ⟨k15, e15, _⟩ := odec_u64 (key 15 _ _ 1 rfl oo_u64) (hys 15 (by omega))
  simp only [List.drop_succ_cons, List.drop_zero, List.take_succ_cons, List.take_zero, List.cons.injEq, and_true] at e0 e1 e2 e4 e5 e6 e7 e8 e9 e10 e11 e12 e13 e14 e15 e3
  obtain ⟨ea, eb, ec⟩ := e3
  subst e0 e1 e2 e4 e5 e6 e7 e8 e9 e10 e11 e12 e13 e14 e15 ea eb ec
  exact ⟨⟨k0, k1, k2, ka, kb, kc, k4, k5, k6, k7, k8, k9, k10, k11, k12, k13, k14, k15⟩, rfl⟩
end
end Go.Proofs.YtjmlimogmmikoaaGreatDoor
namespace Go.Proofs.YtjmlimogmmikoaaGreatDoor
open Go.WideShapes Go.RowKit
theorem iv_cellsN : Tryz.prog.cellsOf 49 = 5 := by kernel_rfl
theorem iv_fieldsN : ∃ fs, Tryz.prog.underlying 49 = some (.struct fs) ∧ fs.toList.map (fun f => (f.type, f.offset)) = [(3, 0), (3, 1), (9, 2), (3, 3), (3, 4)] := ⟨_, Tryz.underlying49, by kernel_rfl⟩
section
variable {H : Type} {enc : TypeId × Value → H} {W : World} {base : Nat} {sp : Nat → Bool} {hd : Bool}
set_option maxRecDepth 100000 in
theorem odec_iv {n : Nat} {cs : List Value} {y : DataW H × List MemPlace} (h : DataW.trod enc Tryz.prog W base sp hd n 49 cs = some y) : ∃ x : Ivn, cs = (ivC x).toList := by
  obtain ⟨fs, hu, hfs⟩ := iv_fieldsN
  obtain ⟨ys, m, _, hy, hlen, hyl, hf⟩ := DataW.trod_struct hu h
  have hsz : fs.size = 5 := by have := congrArg List.length hfs; simpa using this
  rw [iv_cellsN] at hlen
  have hys (j : Nat) (hj : j < 5) : ys[j]? = some (ys[j]'(by omega)) := List.getElem?_eq_getElem (by omega)
  obtain ⟨u0, u1, u2, u3, u4, rfl⟩ : ∃ u0 u1 u2 u3 u4, cs = [u0, u1, u2, u3, u4] := by
    match cs, hlen with
    | [u0, u1, u2, u3, u4], _ => exact ⟨_, _, _, _, _, rfl⟩
  have key (j : Nat) (t : TypeId) (o : Nat) (ht : ([(3, 0), (3, 1), (9, 2), (3, 3), (3, 4)] : List (TypeId × Nat))[j]? = some (t, o)) (h1 : Tryz.prog.cellsOf t = 1) : DataW.trod enc Tryz.prog W base sp hd m t (([u0, u1, u2, u3, u4].drop o).take 1) = ys[j]? := by
    obtain ⟨f, hj, rfl, rfl⟩ := ofield_of hfs ht
    have := hf j f hj
    rw [h1] at this
    exact this
  obtain ⟨k0, e0⟩ := odec_int (key 0 _ _ rfl oo_int) (hys 0 (by omega))
  obtain ⟨k1, e1⟩ := odec_int (key 1 _ _ rfl oo_int) (hys 1 (by omega))
  obtain ⟨k2, e2⟩ := odec_string (key 2 _ _ rfl oo_str) (hys 2 (by omega))
  obtain ⟨k3, e3⟩ := odec_int (key 3 _ _ rfl oo_int) (hys 3 (by omega))
  obtain ⟨k4, e4⟩ := odec_int (key 4 _ _ rfl oo_int) (hys 4 (by omega))
  simp only [List.drop_succ_cons, List.drop_zero, List.take_succ_cons, List.take_zero, List.cons.injEq, and_true] at e0 e1 e2 e3 e4
  subst e0 e1 e2 e3 e4
  exact ⟨⟨k0, k1, k2, k3, k4⟩, rfl⟩
end
end Go.Proofs.YtjmlimogmmikoaaGreatDoor
