/-
  slices.EqualFunc of slices of structs, whatever tells it of two elements: the walks.
  state.samePool, and its function on shares: the walks.
  state.sameFlow: the walk, whatever tells it of the items.
  Rows of the pools, by value: how they lie in memory.
  '==' of items; slices.Equal, and the document's Same, of items: the walks.
-/
import Derived.Test.YtjmlimogmmikoaaGreatDoorSx07
import Derived.Test.YtjmlimogmmikoaaGreatDoorSx06
namespace Go.Proofs.YtjmlimogmmikoaaGreatDoor
open Go.RowKit
theorem infoFlow : (Tryz.prog.info? 237).map (·.size) = some 4 := by kernel_rfl
set_option maxRecDepth 100000 in
set_option maxHeartbeats 2000000 in
theorem eqfFlow {α : Type} (en : α → Array Value) (hK : ∀ x, (en x).size = 4) (e : α → α → Bool) (l m : List α) (hO : ∀ x, x ∈ l ∨ x ∈ m → (en x).all (·.oneCell') = true) (v1 v2 : Value) (w : World) (h1 : SlAt w v1 l.length (l.flatMap fun x => (en x).toList)) (h2 : SlAt w v2 m.length (m.flatMap fun x => (en x).toList)) (hn : l.length ≤ 1000000)
    (hf : ∀ x ∈ l, ∀ y ∈ m, ∀ w', Below w.heap.size w w' → Calls Tryz.prog 178 #[.agg (en x), .agg (en y)] w' (BoolPost (e x y) w')) : Calls Tryz.prog 177 #[v1, v2, .func (.func 178) #[] #[]] w (BoolPost (eqL e l m) w) := by
  obtain ⟨a1, c1, hv1, hc1⟩ := h1.form
  obtain ⟨a2, c2, hv2, hc2⟩ := h2.form
  have H1 := Lib.hid h1
  have H2 := Lib.hid h2
  have HF := Lib.hid hf
  have HI := Lib.hid (show ∀ x, (Tryz.prog.info? 237).map (·.size) = some (en x).toList.length from fun x => by rw [infoFlow, Array.length_toList, hK])
  have HI2 := Lib.hid (show ∀ x, (Tryz.prog.info? 237).map (·.size) = some (en x).size from fun x => by rw [infoFlow, hK])
  have HS := Lib.hid (show ∀ x, 4 = (en x).size from fun x => (hK x).symm)
  have HO := Lib.hid hO
  have HL := Lib.hid (show ∀ x, (en x).toList.length = 4 from fun x => by rw [Array.length_toList, hK])
  clear h1 h2 hf hK hO
  by_cases hl : l.length = m.length
  · rw [hv1, hv2] at *
    rw [← hl]
    have HLL := Lib.hid hl
    clear hl
    go_enter Tryz.func177, Tryz.ntmps177
    go_wp2
    go_loopw [17] (fun i wr => EqRel e l m w i wr) (fun i _ => l.length - (intOf i).toNat)
    case atStart => exact ⟨0, rfl, Nat.zero_le _, (fun j x y hj => by omega), Below.refl _ _⟩
    case round =>
      obtain ⟨k, rfl, hk, hall, hb⟩ := hrel
      have HB := Lib.hid hb
      have HA := Lib.hid hall
      clear hb hall
      by_cases hlt : k < l.length
      · obtain ⟨x, hx⟩ : ∃ x, l[k]? = some x := ⟨_, List.getElem?_eq_getElem hlt⟩
        obtain ⟨y, hy⟩ : ∃ y, m[k]? = some y := ⟨_, List.getElem?_eq_getElem (by have := HLL.out; omega)⟩
        obtain ⟨g, off, cp, hs1, -, r1⟩ := SlAt.at H1.out HL.out (by decide) hx
        obtain ⟨g2, off2, cp2, hs2, -, r2⟩ := SlAt.at H2.out HL.out (by decide) hy
        cases hs1
        cases hs2
        have HB1 := Lib.hid (HB.out.alloc HB.out.size (.cells (en x) 237))
        have HB2 := Lib.hid (HB1.out.alloc HB1.out.size (.cells (en y) 237))
        have HR1 := Lib.hid (show wr.rangeAt g (off + k * 4) (en x).toList from fun j u hj => cell_below HB.out (r1 j u hj))
        have HR2 := Lib.hid (show (wr.alloc (.cells (en x) 237)).rangeAt g2 (off2 + k * 4) (en y).toList from fun j u hj => cell_below HB1.out (r2 j u hj))
        have HG1 := Lib.hid (fr_alloc_old (o := .cells (en y) 237) (heap_alloc_new wr (.cells (en x) 237)))
        have HG2 := Lib.hid (heap_alloc_two wr (.cells (en x) 237) (.cells (en y) 237))
        have HX := Lib.hid hx
        have HY := Lib.hid hy
        have e0 : (k : Int) < l.length := by omega
        clear r1 r2 hx hy
        go_upto_region 7 with (first
          | (refine wpList_load_mid rfl 237 _ rfl g (off + k * 4) rfl (en x).toList _ HR1.out Tryz.underlying237 rfl (HI.out x) ?_)
          | (refine wpList_load_mid rfl 237 _ rfl g2 (off2 + k * 4) rfl (en y).toList _ HR2.out Tryz.underlying237 rfl (HI.out y) ?_)
          | (refine wpList_store_new rfl 237 _ _ rfl wr.heap.size ?a1 _ rfl rfl ?a2 ?a3 ?a4 ?_; (case a1 => simp); (case a2 => exact HI2.out x); (case a3 => exact HS.out x); (case a4 => exact HO.out x (.inl (List.mem_of_getElem? HX.out))))
          | (refine wpList_store_new rfl 237 _ _ rfl (wr.heap.size + 1) ?a1 _ rfl rfl ?a2 ?a3 ?a4 ?_; (case a1 => simp); (case a2 => exact HI2.out y); (case a3 => exact HS.out y); (case a4 => exact HO.out y (.inr (List.mem_of_getElem? HY.out)))))
        generalize (wr.alloc (.cells (en x) 237)).alloc (.cells (en y) 237) = W2 at HB2 HG1 HG2 ⊢
        go_wp2_with (first
          | refine wpList_load_agg 237 HG1.out Tryz.underlying237 rfl (HI2.out x) rfl _ rfl rfl ?_
          | refine wpList_load_agg 237 HG2.out Tryz.underlying237 rfl (HI2.out y) rfl _ rfl rfl ?_)
        refine (HF.out x (List.mem_of_getElem? HX.out) y (List.mem_of_getElem? HY.out) _ HB2.out).mono ?_
        rintro r w3 ⟨rfl, hb3⟩
        have HB3 := Lib.hid (HB2.out.trans (hb3.mono HB2.out.size))
        clear hb3 HR1 HR2 HG1 HG2
        rcases he : e x y with _ | _
        · have HN := Lib.hid (eqL_at HX.out HY.out he)
          clear he
          go_wp2_with fail
          go_ret
          exact ⟨ret_bool HN.out.symm, HB3.out⟩
        · have HSN := Lib.hid (eqRel_snoc HA.out HX.out HY.out he)
          clear he
          go_wp2_with fail
          go_roundw
          case rel => exact ⟨k + 1, by go_num, by omega, HSN.out, HB3.out⟩
          case measure => simp [intOf]; omega
      · have HN := Lib.hid (eqL_all HLL.out (e := e) (fun j x y a b => HA.out j x y (by have := (List.getElem?_eq_some_iff.1 a).1; omega) a b))
        go_wp2
        go_ret
        exact ⟨ret_bool HN.out.symm, HB.out⟩
  · have HN := Lib.hid (eqL_len (e := e) hl)
    rw [hv1, hv2]
    go_enter Tryz.func177, Tryz.ntmps177
    go_wp2
    go_ret
    exact ⟨ret_bool HN.out.symm, Below.refl _ _⟩
theorem infoShare : (Tryz.prog.info? 191).map (·.size) = some 5 := by kernel_rfl
set_option maxRecDepth 100000 in
set_option maxHeartbeats 2000000 in
theorem eqfShare {α : Type} (en : α → Array Value) (hK : ∀ x, (en x).size = 5) (e : α → α → Bool) (l m : List α) (hO : ∀ x, x ∈ l ∨ x ∈ m → (en x).all (·.oneCell') = true) (v1 v2 : Value) (w : World) (h1 : SlAt w v1 l.length (l.flatMap fun x => (en x).toList)) (h2 : SlAt w v2 m.length (m.flatMap fun x => (en x).toList)) (hn : l.length ≤ 1000000)
    (hf : ∀ x ∈ l, ∀ y ∈ m, ∀ w', Below w.heap.size w w' → Calls Tryz.prog 120 #[.agg (en x), .agg (en y)] w' (BoolPost (e x y) w')) : Calls Tryz.prog 119 #[v1, v2, .func (.func 120) #[] #[]] w (BoolPost (eqL e l m) w) := by
  obtain ⟨a1, c1, hv1, hc1⟩ := h1.form
  obtain ⟨a2, c2, hv2, hc2⟩ := h2.form
  have H1 := Lib.hid h1
  have H2 := Lib.hid h2
  have HF := Lib.hid hf
  have HI := Lib.hid (show ∀ x, (Tryz.prog.info? 191).map (·.size) = some (en x).toList.length from fun x => by rw [infoShare, Array.length_toList, hK])
  have HI2 := Lib.hid (show ∀ x, (Tryz.prog.info? 191).map (·.size) = some (en x).size from fun x => by rw [infoShare, hK])
  have HS := Lib.hid (show ∀ x, 5 = (en x).size from fun x => (hK x).symm)
  have HO := Lib.hid hO
  have HL := Lib.hid (show ∀ x, (en x).toList.length = 5 from fun x => by rw [Array.length_toList, hK])
  clear h1 h2 hf hK hO
  by_cases hl : l.length = m.length
  · rw [hv1, hv2] at *
    rw [← hl]
    have HLL := Lib.hid hl
    clear hl
    go_enter Tryz.func119, Tryz.ntmps119
    go_wp2
    go_loopw [17] (fun i wr => EqRel e l m w i wr) (fun i _ => l.length - (intOf i).toNat)
    case atStart => exact ⟨0, rfl, Nat.zero_le _, (fun j x y hj => by omega), Below.refl _ _⟩
    case round =>
      obtain ⟨k, rfl, hk, hall, hb⟩ := hrel
      have HB := Lib.hid hb
      have HA := Lib.hid hall
      clear hb hall
      by_cases hlt : k < l.length
      · obtain ⟨x, hx⟩ : ∃ x, l[k]? = some x := ⟨_, List.getElem?_eq_getElem hlt⟩
        obtain ⟨y, hy⟩ : ∃ y, m[k]? = some y := ⟨_, List.getElem?_eq_getElem (by have := HLL.out; omega)⟩
        obtain ⟨g, off, cp, hs1, -, r1⟩ := SlAt.at H1.out HL.out (by decide) hx
        obtain ⟨g2, off2, cp2, hs2, -, r2⟩ := SlAt.at H2.out HL.out (by decide) hy
        cases hs1
        cases hs2
        have HB1 := Lib.hid (HB.out.alloc HB.out.size (.cells (en x) 191))
        have HB2 := Lib.hid (HB1.out.alloc HB1.out.size (.cells (en y) 191))
        have HR1 := Lib.hid (show wr.rangeAt g (off + k * 5) (en x).toList from fun j u hj => cell_below HB.out (r1 j u hj))
        have HR2 := Lib.hid (show (wr.alloc (.cells (en x) 191)).rangeAt g2 (off2 + k * 5) (en y).toList from fun j u hj => cell_below HB1.out (r2 j u hj))
        have HG1 := Lib.hid (fr_alloc_old (o := .cells (en y) 191) (heap_alloc_new wr (.cells (en x) 191)))
        have HG2 := Lib.hid (heap_alloc_two wr (.cells (en x) 191) (.cells (en y) 191))
        have HX := Lib.hid hx
        have HY := Lib.hid hy
        have e0 : (k : Int) < l.length := by omega
        clear r1 r2 hx hy
        go_upto_region 7 with (first
          | (refine wpList_load_mid rfl 191 _ rfl g (off + k * 5) rfl (en x).toList _ HR1.out Tryz.underlying191 rfl (HI.out x) ?_)
          | (refine wpList_load_mid rfl 191 _ rfl g2 (off2 + k * 5) rfl (en y).toList _ HR2.out Tryz.underlying191 rfl (HI.out y) ?_)
          | (refine wpList_store_new rfl 191 _ _ rfl wr.heap.size ?a1 _ rfl rfl ?a2 ?a3 ?a4 ?_; (case a1 => simp); (case a2 => exact HI2.out x); (case a3 => exact HS.out x); (case a4 => exact HO.out x (.inl (List.mem_of_getElem? HX.out))))
          | (refine wpList_store_new rfl 191 _ _ rfl (wr.heap.size + 1) ?a1 _ rfl rfl ?a2 ?a3 ?a4 ?_; (case a1 => simp); (case a2 => exact HI2.out y); (case a3 => exact HS.out y); (case a4 => exact HO.out y (.inr (List.mem_of_getElem? HY.out)))))
        generalize (wr.alloc (.cells (en x) 191)).alloc (.cells (en y) 191) = W2 at HB2 HG1 HG2 ⊢
        go_wp2_with (first
          | refine wpList_load_agg 191 HG1.out Tryz.underlying191 rfl (HI2.out x) rfl _ rfl rfl ?_
          | refine wpList_load_agg 191 HG2.out Tryz.underlying191 rfl (HI2.out y) rfl _ rfl rfl ?_)
        refine (HF.out x (List.mem_of_getElem? HX.out) y (List.mem_of_getElem? HY.out) _ HB2.out).mono ?_
        rintro r w3 ⟨rfl, hb3⟩
        have HB3 := Lib.hid (HB2.out.trans (hb3.mono HB2.out.size))
        clear hb3 HR1 HR2 HG1 HG2
        rcases he : e x y with _ | _
        · have HN := Lib.hid (eqL_at HX.out HY.out he)
          clear he
          go_wp2_with fail
          go_ret
          exact ⟨ret_bool HN.out.symm, HB3.out⟩
        · have HSN := Lib.hid (eqRel_snoc HA.out HX.out HY.out he)
          clear he
          go_wp2_with fail
          go_roundw
          case rel => exact ⟨k + 1, by go_num, by omega, HSN.out, HB3.out⟩
          case measure => simp [intOf]; omega
      · have HN := Lib.hid (eqL_all HLL.out (e := e) (fun j x y a b => HA.out j x y (by have := (List.getElem?_eq_some_iff.1 a).1; omega) a b))
        go_wp2
        go_ret
        exact ⟨ret_bool HN.out.symm, HB.out⟩
  · have HN := Lib.hid (eqL_len (e := e) hl)
    rw [hv1, hv2]
    go_enter Tryz.func119, Tryz.ntmps119
    go_wp2
    go_ret
    exact ⟨ret_bool HN.out.symm, Below.refl _ _⟩
theorem infoPool : (Tryz.prog.info? 98).map (·.size) = some 5 := by kernel_rfl
set_option maxRecDepth 100000 in
set_option maxHeartbeats 2000000 in
theorem eqfPool {α : Type} (en : α → Array Value) (hK : ∀ x, (en x).size = 5) (e : α → α → Bool) (l m : List α) (hO : ∀ x, x ∈ l ∨ x ∈ m → (en x).all (·.oneCell') = true) (v1 v2 : Value) (w : World) (h1 : SlAt w v1 l.length (l.flatMap fun x => (en x).toList)) (h2 : SlAt w v2 m.length (m.flatMap fun x => (en x).toList)) (hn : l.length ≤ 1000000)
    (hf : ∀ x ∈ l, ∀ y ∈ m, ∀ w', Below w.heap.size w w' → Calls Tryz.prog 53 #[.agg (en x), .agg (en y)] w' (BoolPost (e x y) w')) : Calls Tryz.prog 52 #[v1, v2, .func (.func 53) #[] #[]] w (BoolPost (eqL e l m) w) := by
  obtain ⟨a1, c1, hv1, hc1⟩ := h1.form
  obtain ⟨a2, c2, hv2, hc2⟩ := h2.form
  have H1 := Lib.hid h1
  have H2 := Lib.hid h2
  have HF := Lib.hid hf
  have HI := Lib.hid (show ∀ x, (Tryz.prog.info? 98).map (·.size) = some (en x).toList.length from fun x => by rw [infoPool, Array.length_toList, hK])
  have HI2 := Lib.hid (show ∀ x, (Tryz.prog.info? 98).map (·.size) = some (en x).size from fun x => by rw [infoPool, hK])
  have HS := Lib.hid (show ∀ x, 5 = (en x).size from fun x => (hK x).symm)
  have HO := Lib.hid hO
  have HL := Lib.hid (show ∀ x, (en x).toList.length = 5 from fun x => by rw [Array.length_toList, hK])
  clear h1 h2 hf hK hO
  by_cases hl : l.length = m.length
  · rw [hv1, hv2] at *
    rw [← hl]
    have HLL := Lib.hid hl
    clear hl
    go_enter Tryz.func52, Tryz.ntmps52
    go_wp2
    go_loopw [17] (fun i wr => EqRel e l m w i wr) (fun i _ => l.length - (intOf i).toNat)
    case atStart => exact ⟨0, rfl, Nat.zero_le _, (fun j x y hj => by omega), Below.refl _ _⟩
    case round =>
      obtain ⟨k, rfl, hk, hall, hb⟩ := hrel
      have HB := Lib.hid hb
      have HA := Lib.hid hall
      clear hb hall
      by_cases hlt : k < l.length
      · obtain ⟨x, hx⟩ : ∃ x, l[k]? = some x := ⟨_, List.getElem?_eq_getElem hlt⟩
        obtain ⟨y, hy⟩ : ∃ y, m[k]? = some y := ⟨_, List.getElem?_eq_getElem (by have := HLL.out; omega)⟩
        obtain ⟨g, off, cp, hs1, -, r1⟩ := SlAt.at H1.out HL.out (by decide) hx
        obtain ⟨g2, off2, cp2, hs2, -, r2⟩ := SlAt.at H2.out HL.out (by decide) hy
        cases hs1
        cases hs2
        have HB1 := Lib.hid (HB.out.alloc HB.out.size (.cells (en x) 98))
        have HB2 := Lib.hid (HB1.out.alloc HB1.out.size (.cells (en y) 98))
        have HR1 := Lib.hid (show wr.rangeAt g (off + k * 5) (en x).toList from fun j u hj => cell_below HB.out (r1 j u hj))
        have HR2 := Lib.hid (show (wr.alloc (.cells (en x) 98)).rangeAt g2 (off2 + k * 5) (en y).toList from fun j u hj => cell_below HB1.out (r2 j u hj))
        have HG1 := Lib.hid (fr_alloc_old (o := .cells (en y) 98) (heap_alloc_new wr (.cells (en x) 98)))
        have HG2 := Lib.hid (heap_alloc_two wr (.cells (en x) 98) (.cells (en y) 98))
        have HX := Lib.hid hx
        have HY := Lib.hid hy
        have e0 : (k : Int) < l.length := by omega
        clear r1 r2 hx hy
        go_upto_region 7 with (first
          | (refine wpList_load_mid rfl 98 _ rfl g (off + k * 5) rfl (en x).toList _ HR1.out Tryz.underlying98 rfl (HI.out x) ?_)
          | (refine wpList_load_mid rfl 98 _ rfl g2 (off2 + k * 5) rfl (en y).toList _ HR2.out Tryz.underlying98 rfl (HI.out y) ?_)
          | (refine wpList_store_new rfl 98 _ _ rfl wr.heap.size ?a1 _ rfl rfl ?a2 ?a3 ?a4 ?_; (case a1 => simp); (case a2 => exact HI2.out x); (case a3 => exact HS.out x); (case a4 => exact HO.out x (.inl (List.mem_of_getElem? HX.out))))
          | (refine wpList_store_new rfl 98 _ _ rfl (wr.heap.size + 1) ?a1 _ rfl rfl ?a2 ?a3 ?a4 ?_; (case a1 => simp); (case a2 => exact HI2.out y); (case a3 => exact HS.out y); (case a4 => exact HO.out y (.inr (List.mem_of_getElem? HY.out)))))
        generalize (wr.alloc (.cells (en x) 98)).alloc (.cells (en y) 98) = W2 at HB2 HG1 HG2 ⊢
        go_wp2_with (first
          | refine wpList_load_agg 98 HG1.out Tryz.underlying98 rfl (HI2.out x) rfl _ rfl rfl ?_
          | refine wpList_load_agg 98 HG2.out Tryz.underlying98 rfl (HI2.out y) rfl _ rfl rfl ?_)
        refine (HF.out x (List.mem_of_getElem? HX.out) y (List.mem_of_getElem? HY.out) _ HB2.out).mono ?_
        rintro r w3 ⟨rfl, hb3⟩
        have HB3 := Lib.hid (HB2.out.trans (hb3.mono HB2.out.size))
        clear hb3 HR1 HR2 HG1 HG2
        rcases he : e x y with _ | _
        · have HN := Lib.hid (eqL_at HX.out HY.out he)
          clear he
          go_wp2_with fail
          go_ret
          exact ⟨ret_bool HN.out.symm, HB3.out⟩
        · have HSN := Lib.hid (eqRel_snoc HA.out HX.out HY.out he)
          clear he
          go_wp2_with fail
          go_roundw
          case rel => exact ⟨k + 1, by go_num, by omega, HSN.out, HB3.out⟩
          case measure => simp [intOf]; omega
      · have HN := Lib.hid (eqL_all HLL.out (e := e) (fun j x y a b => HA.out j x y (by have := (List.getElem?_eq_some_iff.1 a).1; omega) a b))
        go_wp2
        go_ret
        exact ⟨ret_bool HN.out.symm, HB.out⟩
  · have HN := Lib.hid (eqL_len (e := e) hl)
    rw [hv1, hv2]
    go_enter Tryz.func52, Tryz.ntmps52
    go_wp2
    go_ret
    exact ⟨ret_bool HN.out.symm, Below.refl _ _⟩
set_option maxRecDepth 100000 in
set_option maxHeartbeats 2000000 in
theorem eqfSlices {α : Type} (vl : α → Value) (e : α → α → Bool) (l m : List α) (v1 v2 : Value) (w : World) (h1 : SlAt w v1 l.length (l.flatMap fun x => [vl x])) (h2 : SlAt w v2 m.length (m.flatMap fun x => [vl x])) (hn : l.length ≤ 1000000)
    (hf : ∀ x ∈ l, ∀ y ∈ m, ∀ w', Below w.heap.size w w' → Calls Tryz.prog 118 #[vl x, vl y] w' (BoolPost (e x y) w')) : Calls Tryz.prog 123 #[v1, v2, .func (.func 118) #[] #[]] w (BoolPost (eqL e l m) w) := by
  obtain ⟨a1, c1, hv1, hc1⟩ := h1.form
  obtain ⟨a2, c2, hv2, hc2⟩ := h2.form
  have H1 := Lib.hid h1
  have H2 := Lib.hid h2
  have HF := Lib.hid hf
  clear h1 h2 hf
  by_cases hl : l.length = m.length
  · rw [hv1, hv2] at *
    rw [← hl]
    have HLL := Lib.hid hl
    clear hl
    go_enter Tryz.func123, Tryz.ntmps123
    go_wp2
    go_loopw [17] (fun i wr => EqRel e l m w i wr) (fun i _ => l.length - (intOf i).toNat)
    case atStart => exact ⟨0, rfl, Nat.zero_le _, (fun j x y hj => by omega), Below.refl _ _⟩
    case round =>
      obtain ⟨k, rfl, hk, hall, hb⟩ := hrel
      have HB := Lib.hid hb
      have HA := Lib.hid hall
      clear hb hall
      by_cases hlt : k < l.length
      · obtain ⟨x, hx⟩ : ∃ x, l[k]? = some x := ⟨_, List.getElem?_eq_getElem hlt⟩
        obtain ⟨y, hy⟩ : ∃ y, m[k]? = some y := ⟨_, List.getElem?_eq_getElem (by have := HLL.out; omega)⟩
        obtain ⟨g, off, cp, hs1, -, r1⟩ := SlAt.at H1.out (fun _ => rfl) (by decide) hx
        obtain ⟨g2, off2, cp2, hs2, -, r2⟩ := SlAt.at H2.out (fun _ => rfl) (by decide) hy
        cases hs1
        cases hs2
        have q1 : wr.cell? ⟨g, off + k, none⟩ = some (vl x) := cell_below HB.out (by have := r1 0 _ rfl; simpa using this)
        have q2 : wr.cell? ⟨g2, off2 + k, none⟩ = some (vl y) := cell_below HB.out (by have := r2 0 _ rfl; simpa using this)
        have HX := Lib.hid hx
        have HY := Lib.hid hy
        have e0 : (k : Int) < l.length := by omega
        clear r1 r2 hx hy
        go_wp2_with fail
        refine (HF.out x (List.mem_of_getElem? HX.out) y (List.mem_of_getElem? HY.out) _ HB.out).mono ?_
        rintro r w3 ⟨rfl, hb3⟩
        have HB3 := Lib.hid (HB.out.trans (hb3.mono HB.out.size))
        clear hb3 q1 q2
        rcases he : e x y with _ | _
        · have HN := Lib.hid (eqL_at HX.out HY.out he)
          clear he
          go_wp2_with fail
          go_ret
          exact ⟨ret_bool HN.out.symm, HB3.out⟩
        · have HSN := Lib.hid (eqRel_snoc HA.out HX.out HY.out he)
          clear he
          go_wp2_with fail
          go_roundw
          case rel => exact ⟨k + 1, by go_num, by omega, HSN.out, HB3.out⟩
          case measure => simp [intOf]; omega
      · have HN := Lib.hid (eqL_all HLL.out (e := e) (fun j x y a b => HA.out j x y (by have := (List.getElem?_eq_some_iff.1 a).1; omega) a b))
        go_wp2
        go_ret
        exact ⟨ret_bool HN.out.symm, HB.out⟩
  · have HN := Lib.hid (eqL_len (e := e) hl)
    rw [hv1, hv2]
    go_enter Tryz.func123, Tryz.ntmps123
    go_wp2
    go_ret
    exact ⟨ret_bool HN.out.symm, Below.refl _ _⟩
end Go.Proofs.YtjmlimogmmikoaaGreatDoor
namespace Go.Proofs.YtjmlimogmmikoaaGreatDoor
open Go.RowKit
set_option maxRecDepth 100000 in
set_option maxHeartbeats 1000000 in
theorem sameshares_any (v1 v2 : Value) (q : Bool) (w : World) (hI : ∀ w', Below w.heap.size w w' → Calls Tryz.prog 119 #[v1, v2, .func (.func 120) #[] #[]] w' (BoolPost q w')) :
    Calls Tryz.prog 118 #[v1, v2] w (BoolPost q w) := by
  go_enter Tryz.func118, Tryz.ntmps118
  go_wp2_with fail
  refine (hI _ (Below.refl _ _)).mono ?_
  rintro e w3 ⟨rfl, hb3⟩
  go_wp2_with fail
  go_ret
  exact ⟨rfl, hb3⟩
set_option maxRecDepth 100000 in
set_option maxHeartbeats 2000000 in
theorem samepool_any (s1 s2 : ByteArray) (b1 b2 : Int) (v1 v2 x1 x2 y1 y2 : Value) (q1 q2 q3 : Bool) (w : World)
    (h1 : ∀ w', Below w.heap.size w w' → Calls Tryz.prog 121 #[v1, v2] w' (BoolPost q1 w'))
    (h2 : ∀ w', Below w.heap.size w w' → Calls Tryz.prog 122 #[y1, y2] w' (BoolPost q2 w'))
    (h3 : ∀ w', Below w.heap.size w w' → Calls Tryz.prog 123 #[x1, x2, .func (.func 118) #[] #[]] w' (BoolPost q3 w')) :
    Calls Tryz.prog 53 #[.agg #[.string s1, .int .i64 b1, v1, x1, y1], .agg #[.string s2, .int .i64 b2, v2, x2, y2]] w (BoolPost ((s1.toList == s2.toList) && (b1 == b2) && q1 && q2 && q3) w) := by
  have H1 := Lib.hid h1
  have H2 := Lib.hid h2
  have H3 := Lib.hid h3
  have HB := Lib.hid ((box_below (w := w) (o := .cells #[.string s1, .int .i64 b1, v1, x1, y1] 98)).alloc (by simp) (.cells #[.string s2, .int .i64 b2, v2, x2, y2] 98))
  clear h1 h2 h3
  rcases k1 : (s1.toList == s2.toList) with _ | _
  · go_enter Tryz.func53, Tryz.ntmps53
    go_wp2_with fail
    go_ret
    exact ⟨rfl, HB.out⟩
  · rcases k2 : (b1 == b2) with _ | _
    · go_enter Tryz.func53, Tryz.ntmps53
      go_wp2_with fail
      go_ret
      exact ⟨rfl, HB.out⟩
    · go_enter Tryz.func53, Tryz.ntmps53
      have a1 : ∀ w2, Below ((w.alloc (.cells #[.string s1, .int .i64 b1, v1, x1, y1] 98)).alloc (.cells #[.string s2, .int .i64 b2, v2, x2, y2] 98)).heap.size ((w.alloc (.cells #[.string s1, .int .i64 b1, v1, x1, y1] 98)).alloc (.cells #[.string s2, .int .i64 b2, v2, x2, y2] 98)) w2 →
          w2.cell? ⟨w.heap.size, 3, none⟩ = some x1 ∧ w2.cell? ⟨w.heap.size, 4, none⟩ = some y1 ∧ w2.cell? ⟨w.heap.size + 1, 3, none⟩ = some x2 ∧ w2.cell? ⟨w.heap.size + 1, 4, none⟩ = some y2 := fun w2 hb =>
        ⟨cell_below hb (cell_below box_below (cell_alloc_at rfl)), cell_below hb (cell_below box_below (cell_alloc_at rfl)), cell_below hb (fr_cell_of_heap (heap_alloc_two _ _ _) rfl), cell_below hb (fr_cell_of_heap (heap_alloc_two _ _ _) rfl)⟩
      have HA := Lib.hid a1
      clear a1
      go_wp2_with fail
      refine (H1.out _ HB.out).mono ?_
      rintro e w3 ⟨rfl, hb3⟩
      obtain ⟨p1, p2, p3, p4⟩ := HA.out w3 hb3
      have HB3 := Lib.hid (HB.out.trans (hb3.mono HB.out.size))
      clear hb3
      rcases q1 with _ | _
      · go_wp2_with fail
        go_ret
        exact ⟨rfl, HB3.out⟩
      · go_wp2_with fail
        refine (H2.out _ HB3.out).mono ?_
        rintro e w4 ⟨rfl, hb4⟩
        have p1 := cell_below hb4 p1
        have p3 := cell_below hb4 p3
        have HB4 := Lib.hid (HB3.out.trans (hb4.mono HB3.out.size))
        clear hb4
        rcases q2 with _ | _
        · go_wp2_with fail
          go_ret
          exact ⟨rfl, HB4.out⟩
        · go_wp2_with fail
          refine (H3.out _ HB4.out).mono ?_
          rintro e w5 ⟨rfl, hb5⟩
          have HB5 := Lib.hid (HB4.out.trans (hb5.mono HB4.out.size))
          clear hb5
          rcases q3 with _ | _
          · go_wp2_with fail
            go_ret
            exact ⟨rfl, HB5.out⟩
          · go_wp2_with fail
            go_ret
            exact ⟨rfl, HB5.out⟩
end Go.Proofs.YtjmlimogmmikoaaGreatDoor
namespace Go.Proofs.YtjmlimogmmikoaaGreatDoor
open Go.RowKit
set_option maxRecDepth 100000 in
set_option maxHeartbeats 2000000 in
theorem sameflow_any (a1 b1 c1 a2 b2 c2 : Int) (v1 v2 : Value) (q : Bool) (w : World) (hI : ∀ w', Below w.heap.size w w' → Calls Tryz.prog 210 #[v1, v2] w' (BoolPost q w')) :
    Calls Tryz.prog 178 #[.agg #[.int .i64 a1, .int .i64 b1, .int .i64 c1, v1], .agg #[.int .i64 a2, .int .i64 b2, .int .i64 c2, v2]] w (BoolPost ((a1 == a2) && (b1 == b2) && (c1 == c2) && q) w) := by
  have HI := Lib.hid hI
  have HB := Lib.hid ((box_below (w := w) (o := .cells #[.int .i64 a1, .int .i64 b1, .int .i64 c1, v1] 237)).alloc (by simp) (.cells #[.int .i64 a2, .int .i64 b2, .int .i64 c2, v2] 237))
  clear hI
  rcases h1 : (a1 == a2) with _ | _
  · go_enter Tryz.func178, Tryz.ntmps178
    go_wp2_with fail
    go_ret
    exact ⟨rfl, HB.out⟩
  · rcases h2 : (b1 == b2) with _ | _
    · go_enter Tryz.func178, Tryz.ntmps178
      go_wp2_with fail
      go_ret
      exact ⟨rfl, HB.out⟩
    · rcases h3 : (c1 == c2) with _ | _
      · go_enter Tryz.func178, Tryz.ntmps178
        go_wp2_with fail
        go_ret
        exact ⟨rfl, HB.out⟩
      · go_enter Tryz.func178, Tryz.ntmps178
        go_wp2_with fail
        refine (HI.out _ HB.out).mono ?_
        rintro e w3 ⟨rfl, hb3⟩
        have HB3 := Lib.hid (HB.out.trans (hb3.mono HB.out.size))
        clear hb3
        rcases q with _ | _
        · go_wp2_with fail
          go_ret
          exact ⟨rfl, HB3.out⟩
        · go_wp2_with fail
          go_ret
          exact ⟨rfl, HB3.out⟩
theorem bool_other {a b : Bool} (h : (a == b) = false) : b = !a := by cases a <;> cases b <;> simp_all
set_option maxRecDepth 100000 in
set_option maxHeartbeats 2000000 in
theorem sameshare_any (a1 b1 c1 a2 b2 c2 : Int) (d1 d2 : Bool) (v1 v2 : Value) (q : Bool) (w : World) (hI : ∀ w', Below w.heap.size w w' → Calls Tryz.prog 177 #[v1, v2, .func (.func 178) #[] #[]] w' (BoolPost q w')) :
    Calls Tryz.prog 120 #[.agg #[.int .i64 a1, .int .i64 b1, .int .i64 c1, v1, .bool d1], .agg #[.int .i64 a2, .int .i64 b2, .int .i64 c2, v2, .bool d2]] w (BoolPost ((a1 == a2) && (b1 == b2) && (c1 == c2) && (d1 == d2) && q) w) := by
  have HI := Lib.hid hI
  have HB := Lib.hid ((box_below (w := w) (o := .cells #[.int .i64 a1, .int .i64 b1, .int .i64 c1, v1, .bool d1] 191)).alloc (by simp) (.cells #[.int .i64 a2, .int .i64 b2, .int .i64 c2, v2, .bool d2] 191))
  clear hI
  rcases h0 : (a1 == a2) with _ | _
  · go_enter Tryz.func120, Tryz.ntmps120
    go_wp2_with fail
    go_ret
    exact ⟨rfl, HB.out⟩
  · skip
    rcases h1 : (b1 == b2) with _ | _
    · go_enter Tryz.func120, Tryz.ntmps120
      go_wp2_with fail
      go_ret
      exact ⟨rfl, HB.out⟩
    · skip
      rcases h2 : (c1 == c2) with _ | _
      · go_enter Tryz.func120, Tryz.ntmps120
        go_wp2_with fail
        go_ret
        exact ⟨rfl, HB.out⟩
      · skip
        rcases hd : (d1 == d2) with _ | _
        · obtain rfl := bool_other hd
          clear hd
          rcases d1 with _ | _ <;>
          · go_enter Tryz.func120, Tryz.ntmps120
            go_wp2_with fail
            go_ret
            exact ⟨rfl, HB.out⟩
        · obtain rfl : d1 = d2 := beq_iff_eq.1 hd
          clear hd
          rcases d1 with _ | _ <;>
          · go_enter Tryz.func120, Tryz.ntmps120
            go_wp2_with fail
            refine (HI.out _ HB.out).mono ?_
            rintro e w3 ⟨rfl, hb3⟩
            have HB3 := Lib.hid (HB.out.trans (hb3.mono HB.out.size))
            clear hb3
            rcases q with _ | _
            · go_wp2_with fail
              go_ret
              exact ⟨rfl, HB3.out⟩
            · go_wp2_with fail
              go_ret
              exact ⟨rfl, HB3.out⟩
end Go.Proofs.YtjmlimogmmikoaaGreatDoor
namespace Go.Proofs.YtjmlimogmmikoaaGreatDoor
open Go.RowKit
structure It where
  id : Int
  cost : Int
deriving DecidableEq
def encI (x : It) : List Value := [.int .i64 x.id, .int .i64 x.cost]
theorem encI_len (x : It) : (encI x).length = 2 := rfl
def flatI (l : List It) : List Value := l.flatMap encI
def ItsAt (w : World) (v : Value) (l : List It) : Prop :=
  ∃ a cap, v = .slice a l.length cap ∧ ∀ (j : Nat) u, (flatI l)[j]? = some u → ∃ g off, a = some ⟨g, off, none⟩ ∧ w.cell? ⟨g, off + j, none⟩ = some u
theorem ItsAt.below {w w' : World} {v : Value} {l : List It} (h : ItsAt w v l) (hb : Below w.heap.size w w') : ItsAt w' v l := by
  obtain ⟨a, cap, rfl, hc⟩ := h
  exact ⟨a, cap, rfl, fun j u hu => by obtain ⟨g, off, ha, h0⟩ := hc j u hu; exact ⟨g, off, ha, cell_below hb h0⟩⟩
theorem ItsAt.own {w : World} {base : Nat} {v : Value} {l : List It} (h : w.ownsRow base 239 2 v l.length (flatI l)) : ItsAt w v l := by
  obtain ⟨a, cap, rfl, _, _, _, hc⟩ := own_cells h
  exact ⟨a, cap, rfl, fun j u hu => by obtain ⟨g, ha, _, _, h0, _⟩ := hc j u hu; exact ⟨g, 0, ha, by rw [Nat.zero_add]; exact h0⟩⟩
structure FRow where
  id : Int
  wt : Int
  df : Int
  its : List It
def encRV (p : FRow × Value) : List Value := [.int .i64 p.1.id, .int .i64 p.1.wt, .int .i64 p.1.df, p.2]
theorem encRV_len (p : FRow × Value) : (encRV p).length = 4 := rfl
def flatRV (l : List (FRow × Value)) : List Value := l.flatMap encRV
theorem flatRV_snoc (l : List (FRow × Value)) (p : FRow × Value) : flatRV (l ++ [p]) = flatRV l ++ encRV p := by simp [flatRV]
theorem frow_info : (Tryz.prog.info? 237).map (fun i => (i.zero, i.size, i.bytes)) = some (some (.agg #[.int .i64 0, .int .i64 0, .int .i64 0, .slice none 0 0]), 4, 48) := by kernel_rfl
structure RowsAt (w : World) (v : Value) (l : List (FRow × Value)) : Prop where
  rows : ∃ a cap, v = .slice a l.length cap ∧ l.length ≤ cap ∧ ∀ (j : Nat) u, (flatRV l)[j]? = some u → ∃ g off, a = some ⟨g, off, none⟩ ∧ w.cell? ⟨g, off + j, none⟩ = some u
  its : ∀ p ∈ l, ItsAt w p.2 p.1.its
theorem RowsAt.below {w w' : World} {v : Value} {l : List (FRow × Value)} (h : RowsAt w v l) (hb : Below w.heap.size w w') : RowsAt w' v l := by
  obtain ⟨⟨a, cap, rfl, hle, hc⟩, hi⟩ := h
  exact ⟨⟨a, cap, rfl, hle, fun j u hu => by obtain ⟨g, off, ha, h0⟩ := hc j u hu; exact ⟨g, off, ha, cell_below hb h0⟩⟩, fun p hp => (hi p hp).below hb⟩
theorem RowsAt.form {w : World} {v : Value} {l : List (FRow × Value)} (h : RowsAt w v l) : ∃ a cap, v = .slice a l.length cap ∧ l.length ≤ cap := by
  obtain ⟨⟨a, cap, hv, hle, _⟩, _⟩ := h
  exact ⟨a, cap, hv, hle⟩
theorem RowsAt.at {w : World} {v : Value} {l : List (FRow × Value)} (h : RowsAt w v l) {k : Nat} {p : FRow × Value} (hp : l[k]? = some p) : ∃ g off cap, v = .slice (some ⟨g, off, none⟩) l.length cap ∧ l.length ≤ cap ∧ w.cell? ⟨g, off + k * 4, none⟩ = some (.int .i64 p.1.id) ∧ w.cell? ⟨g, off + k * 4 + 1, none⟩ = some (.int .i64 p.1.wt) ∧
    w.cell? ⟨g, off + k * 4 + 2, none⟩ = some (.int .i64 p.1.df) ∧ w.cell? ⟨g, off + k * 4 + 3, none⟩ = some p.2 := by
  obtain ⟨⟨a, cap, rfl, hle, hc⟩, _⟩ := h
  have key : ∀ i u, (encRV p)[i]? = some u → (flatRV l)[k * 4 + i]? = some u := fun i u hu => by
    have hi : i < 4 := (List.getElem?_eq_some_iff.1 hu).1
    unfold flatRV
    rw [flat_at encRV 4 encRV_len i hp hi]
    exact hu
  obtain ⟨g, off, rfl, h0⟩ := hc _ _ (key 0 _ rfl)
  have get : ∀ i u, (encRV p)[i]? = some u → w.cell? ⟨g, off + k * 4 + i, none⟩ = some u := fun i u hu => by
    obtain ⟨g', off', he, h1⟩ := hc _ _ (key i u hu)
    cases he
    rw [Nat.add_assoc]
    exact h1
  exact ⟨g, off, cap, rfl, hle, get 0 _ rfl, get 1 _ rfl, get 2 _ rfl, get 3 _ rfl⟩
theorem rows_own {T : TypeId} {w : World} {base : Nat} {v : Value} {l : List (FRow × Value)} (h : w.ownsRow base T 4 v l.length (flatRV l)) (hi : ∀ p ∈ l, ItsAt w p.2 p.1.its) : RowsAt w v l := by
  obtain ⟨a, cap, rfl, hle, _, _, hc⟩ := own_cells h
  exact ⟨⟨a, cap, rfl, hle, fun j u hu => by obtain ⟨g, ha, _, _, h0, _⟩ := hc j u hu; exact ⟨g, 0, ha, by rw [Nat.zero_add]; exact h0⟩⟩, hi⟩
structure TRow where
  id : Int
  wt : Int
  df : Int
  gv : Bool
  rows : List FRow
abbrev TV := TRow × Value × List (FRow × Value)
def encTV (p : TV) : List Value := [.int .i64 p.1.id, .int .i64 p.1.wt, .int .i64 p.1.df, p.2.1, .bool p.1.gv]
def flatTV (l : List TV) : List Value := l.flatMap encTV
theorem flatTV_snoc (l : List TV) (p : TV) : flatTV (l ++ [p]) = flatTV l ++ encTV p := by simp [flatTV]
theorem trow_info : (Tryz.prog.info? 191).map (fun i => (i.zero, i.size, i.bytes)) = some (some (.agg #[.int .i64 0, .int .i64 0, .int .i64 0, .slice none 0 0, .bool false]), 5, 56) := by kernel_rfl
theorem below_chain2 {w1 w2 w3 : World} (h1 : Below w1.heap.size w1 w2) (h2 : Below w2.heap.size w2 w3) : Below w1.heap.size w1 w3 := h1.trans (h2.mono h1.size)
theorem encTV_len5 (p : TV) : (encTV p).length = 5 := rfl
structure TRowsAt (w : World) (v : Value) (l : List TV) : Prop where
  rows : ∃ a cap, v = .slice a l.length cap ∧ l.length ≤ cap ∧ ∀ (j : Nat) u, (flatTV l)[j]? = some u → ∃ g off, a = some ⟨g, off, none⟩ ∧ w.cell? ⟨g, off + j, none⟩ = some u
  inv : ∀ p ∈ l, RowsAt w p.2.1 p.2.2 ∧ p.2.2.map Prod.fst = p.1.rows
theorem TRowsAt.form {w : World} {v : Value} {l : List TV} (h : TRowsAt w v l) : ∃ a cap, v = .slice a l.length cap ∧ l.length ≤ cap := by
  obtain ⟨⟨a, cap, hv, hle, _⟩, _⟩ := h
  exact ⟨a, cap, hv, hle⟩
theorem TRowsAt.below {w w' : World} {v : Value} {l : List TV} (h : TRowsAt w v l) (hb : Below w.heap.size w w') : TRowsAt w' v l := by
  obtain ⟨⟨a, cap, rfl, hle, hc⟩, hi⟩ := h
  exact ⟨⟨a, cap, rfl, hle, fun j u hu => by obtain ⟨g, off, ha, h0⟩ := hc j u hu; exact ⟨g, off, ha, cell_below hb h0⟩⟩, fun p hp => ⟨(hi p hp).1.below hb, (hi p hp).2⟩⟩
theorem TRowsAt.at {w : World} {v : Value} {l : List TV} (h : TRowsAt w v l) {k : Nat} {p : TV} (hp : l[k]? = some p) : ∃ g off cap, v = .slice (some ⟨g, off, none⟩) l.length cap ∧ l.length ≤ cap ∧ w.cell? ⟨g, off + k * 5, none⟩ = some (.int .i64 p.1.id) ∧ w.cell? ⟨g, off + k * 5 + 1, none⟩ = some (.int .i64 p.1.wt) ∧
    w.cell? ⟨g, off + k * 5 + 2, none⟩ = some (.int .i64 p.1.df) ∧ w.cell? ⟨g, off + k * 5 + 3, none⟩ = some p.2.1 ∧ w.cell? ⟨g, off + k * 5 + 4, none⟩ = some (.bool p.1.gv) := by
  obtain ⟨⟨a, cap, rfl, hle, hc⟩, _⟩ := h
  have key : ∀ i u, (encTV p)[i]? = some u → (flatTV l)[k * 5 + i]? = some u := fun i u hu => by
    have hi : i < 5 := (List.getElem?_eq_some_iff.1 hu).1
    unfold flatTV
    rw [flat_at encTV 5 encTV_len5 i hp hi]
    exact hu
  obtain ⟨g, off, rfl, h0⟩ := hc _ _ (key 0 _ rfl)
  have get : ∀ i u, (encTV p)[i]? = some u → w.cell? ⟨g, off + k * 5 + i, none⟩ = some u := fun i u hu => by
    obtain ⟨g', off', he, h1⟩ := hc _ _ (key i u hu)
    cases he
    rw [Nat.add_assoc]
    exact h1
  exact ⟨g, off, cap, rfl, hle, get 0 _ rfl, get 1 _ rfl, get 2 _ rfl, get 3 _ rfl, get 4 _ rfl⟩
abbrev DV := TRow × Int × Value × List (FRow × Value)
def encDV (p : DV) : List Value := [.int .i64 p.1.id, .int .i64 p.1.wt, .int .i64 p.1.df, .int .i64 p.2.1, p.2.2.1, .bool p.1.gv]
theorem encDV_len (p : DV) : (encDV p).length = 6 := rfl
def flatDV (l : List DV) : List Value := l.flatMap encDV
structure InvAt (w : World) (p : DV) : Prop where
  rows : RowsAt w p.2.2.1 p.2.2.2
  same : p.2.2.2.map Prod.fst = p.1.rows
theorem InvAt.below {w w' : World} {p : DV} (h : InvAt w p) (hb : Below w.heap.size w w') : InvAt w' p := ⟨h.rows.below hb, h.same⟩
structure DRowsAt (w : World) (v : Value) (l : List DV) : Prop where
  rows : ∃ a cap, v = .slice a l.length cap ∧ l.length ≤ cap ∧ ∀ (j : Nat) u, (flatDV l)[j]? = some u → ∃ g off, a = some ⟨g, off, none⟩ ∧ w.cell? ⟨g, off + j, none⟩ = some u
  inv : ∀ p ∈ l, InvAt w p
theorem DRowsAt.form {w : World} {v : Value} {l : List DV} (h : DRowsAt w v l) : ∃ a cap, v = .slice a l.length cap ∧ l.length ≤ cap := by
  obtain ⟨⟨a, cap, hv, hle, _⟩, _⟩ := h
  exact ⟨a, cap, hv, hle⟩
theorem DRowsAt.below {w w' : World} {v : Value} {l : List DV} (h : DRowsAt w v l) (hb : Below w.heap.size w w') : DRowsAt w' v l := by
  obtain ⟨⟨a, cap, rfl, hle, hc⟩, hi⟩ := h
  exact ⟨⟨a, cap, rfl, hle, fun j u hu => by obtain ⟨g, off, ha, h0⟩ := hc j u hu; exact ⟨g, off, ha, cell_below hb h0⟩⟩, fun p hp => (hi p hp).below hb⟩
theorem DRowsAt.at {w : World} {v : Value} {l : List DV} (h : DRowsAt w v l) {k : Nat} {p : DV} (hp : l[k]? = some p) : ∃ g off cap, v = .slice (some ⟨g, off, none⟩) l.length cap ∧ l.length ≤ cap ∧ w.cell? ⟨g, off + k * 6, none⟩ = some (.int .i64 p.1.id) ∧ w.cell? ⟨g, off + k * 6 + 1, none⟩ = some (.int .i64 p.1.wt) ∧
    w.cell? ⟨g, off + k * 6 + 2, none⟩ = some (.int .i64 p.1.df) ∧ w.cell? ⟨g, off + k * 6 + 3, none⟩ = some (.int .i64 p.2.1) ∧ w.cell? ⟨g, off + k * 6 + 4, none⟩ = some p.2.2.1 ∧ w.cell? ⟨g, off + k * 6 + 5, none⟩ = some (.bool p.1.gv) := by
  obtain ⟨⟨a, cap, rfl, hle, hc⟩, _⟩ := h
  have key : ∀ i u, (encDV p)[i]? = some u → (flatDV l)[k * 6 + i]? = some u := fun i u hu => by
    have hi : i < 6 := (List.getElem?_eq_some_iff.1 hu).1
    unfold flatDV
    rw [flat_at encDV 6 encDV_len i hp hi]
    exact hu
  obtain ⟨g, off, rfl, h0⟩ := hc _ _ (key 0 _ rfl)
  have get : ∀ i u, (encDV p)[i]? = some u → w.cell? ⟨g, off + k * 6 + i, none⟩ = some u := fun i u hu => by
    obtain ⟨g', off', he, h1⟩ := hc _ _ (key i u hu)
    cases he
    rw [Nat.add_assoc]
    exact h1
  exact ⟨g, off, cap, rfl, hle, get 0 _ rfl, get 1 _ rfl, get 2 _ rfl, get 3 _ rfl, get 4 _ rfl, get 5 _ rfl⟩
structure QS where
  gv : Bool
  v : Value
  l : List DV
def encQS (q : Int) (s : QS) : List Value := [.int .i64 q, s.v, .bool s.gv]
def encZ (n : Int) : List Value := [.int .i64 n]
theorem encZ_len (n : Int) : (encZ n).length = 1 := rfl
structure QX where
  name : ByteArray
  uses : Int
  served : List Int
  sh : List (Int × QS)
  sv : Value
  hv : Value
def encQX (p : QX) : List Value := [.string p.name, .int .i64 p.uses, p.sv, p.hv]
theorem encQX_len (p : QX) : (encQX p).length = 4 := rfl
def encXS (s : Int × QS) : List Value := encQS s.1 s.2
theorem encXS_len (s : Int × QS) : (encXS s).length = 3 := rfl
structure QXAt (w : World) (p : QX) : Prop where
  sv : SlAt w p.sv p.served.length (p.served.flatMap encZ)
  hv : SlAt w p.hv p.sh.length (p.sh.flatMap encXS)
  inv : ∀ s ∈ p.sh, DRowsAt w s.2.v s.2.l
theorem QXAt.below {w w' : World} {p : QX} (h : QXAt w p) (hb : Below w.heap.size w w') : QXAt w' p := ⟨h.sv.below hb, h.hv.below hb, fun s hs => (h.inv s hs).below hb⟩
structure PR where
  name : ByteArray
  uses : Int
  sv : Value
  hv : Value
  gv : Value
def encPR (r : PR) : List Value := [.string r.name, .int .i64 r.uses, r.sv, r.hv, r.gv]
theorem pr_info : (Tryz.prog.info? 98).map (fun i => (i.zero, i.size, i.bytes)) = some (some (.agg #[.string ⟨#[]⟩, .int .i64 0, .slice none 0 0, .slice none 0 0, .slice none 0 0]), 5, 96) := by kernel_rfl
theorem shs_info : (Tryz.prog.info? 165).map (fun i => (i.zero, i.size, i.bytes)) = some (some (.slice none 0 0), 1, 24) := by kernel_rfl
theorem bool_info17 : (Tryz.prog.info? 4).map (fun i => (i.zero, i.size, i.bytes)) = some (some (.bool false), 1, 1) := by kernel_rfl
theorem SlAt.cells {α : Type} {enc : α → List Value} {K : Nat} {w : World} {a : Option Addr} {N cap : Nat} {l : List α} (h : SlAt w (.slice a N cap) N (l.flatMap enc)) (hK : ∀ x, (enc x).length = K) (h0 : 0 < K) {k : Nat} {x : α} (hx : l[k]? = some x) : ∃ g off, a = some ⟨g, off, none⟩ ∧ ∀ i u, (enc x)[i]? = some u → w.cell? ⟨g, off + k * K + i, none⟩ = some u := by
  obtain ⟨a', cap', hv, _, hc⟩ := h
  cases hv
  have key : ∀ i u, (enc x)[i]? = some u → (l.flatMap enc)[k * K + i]? = some u := fun i u hu => by
    have hi : i < K := by rw [← hK x]; exact (List.getElem?_eq_some_iff.1 hu).1
    rw [flat_at enc K hK i hx hi]
    exact hu
  obtain ⟨g, off, rfl, _⟩ := hc _ _ (key 0 _ (List.getElem?_eq_getElem (by rw [hK]; exact h0)))
  refine ⟨g, off, rfl, fun i u hu => ?_⟩
  obtain ⟨g', off', he, h1⟩ := hc _ _ (key i u hu)
  cases he
  rw [Nat.add_assoc]
  exact h1
theorem own_grown {w w' : World} {base size : Nat} {e : TypeId} {v : Value} {n : Nat} {xs : List Value} {row : Option Nat} (h : w.ownsRow base e size v n xs) (hg : w.grownBy w' row) (hne : v.ownBlock = none ∨ v.ownBlock ≠ row) : w'.ownsRow base e size v n xs := by
  obtain ⟨hl, ⟨rfl, rfl⟩ | ⟨g, cap, cur, rfl, hb, hh, hr⟩⟩ := h
  · exact ⟨hl, .inl ⟨rfl, rfl⟩⟩
  · refine ⟨hl, .inr ⟨g, cap, cur, rfl, hb, (hg.block g (Array.getElem?_eq_some_iff.1 hh).1 (fun e => ?_)).trans hh, hr⟩⟩
    rcases hne with h | h
    · cases h
    · exact h e
structure TIn17 (base : Nat) (w wr : World) (ov : Value) (l : List TV) : Prop where
  own : wr.ownsRow base 191 5 ov l.length (flatTV l)
  inv : ∀ p ∈ l, wr.ownsRow base 237 4 p.2.1 p.2.2.length (flatRV p.2.2) ∧ (∀ r ∈ p.2.2, ItsAt w r.2 r.1.its) ∧ p.2.2.map Prod.fst = p.1.rows
theorem TIn17.below {base : Nat} {w wr w' : World} {ov : Value} {l : List TV} (h : TIn17 base w wr ov l) (hb : Below wr.heap.size wr w') : TIn17 base w w' ov l := ⟨own_below h.own hb, fun p hp => ⟨own_below (h.inv p hp).1 hb, (h.inv p hp).2⟩⟩
theorem TIn17.base {b base : Nat} {w wr : World} {ov : Value} {l : List TV} (h : TIn17 base w wr ov l) (hb : b ≤ base) : TIn17 b w wr ov l := ⟨own_base h.own hb, fun p hp => ⟨own_base (h.inv p hp).1 hb, (h.inv p hp).2⟩⟩
theorem TIn17.from {base : Nat} {w w0 wr : World} {ov : Value} {l : List TV} (h : TIn17 base w0 wr ov l) (hi : ∀ p ∈ l, ∀ r ∈ p.2.2, ItsAt w r.2 r.1.its) : TIn17 base w wr ov l := ⟨h.own, fun p hp => ⟨(h.inv p hp).1, hi p hp, (h.inv p hp).2.2⟩⟩
theorem TIn17.grown {base b k sz : Nat} {e : TypeId} {w wr w9 : World} {ov v : Value} {l : List TV} {xs : List Value} (h : TIn17 base w wr ov l) (ho : wr.ownsRow b e sz v k xs) (h1 : e ≠ 191) (h2 : e ≠ 237) (hg : wr.grownBy w9 v.ownBlock) : TIn17 base w w9 ov l :=
  ⟨own_grown h.own hg (own_apart h.own ho (Ne.symm h1)), fun p hp => ⟨own_grown (h.inv p hp).1 hg (own_apart (h.inv p hp).1 ho (Ne.symm h2)), (h.inv p hp).2⟩⟩
theorem TIn17.rows {base : Nat} {w wr : World} {ov : Value} {l : List TV} (h : TIn17 base w wr ov l) (hb : Below w.heap.size w wr) : TRowsAt wr ov l := by
  obtain ⟨a, cap, rfl, hle, _, _, hc⟩ := own_cells h.own
  exact ⟨⟨a, cap, rfl, hle, fun j u hu => by obtain ⟨g, ha, _, _, h0, _⟩ := hc j u hu; exact ⟨g, 0, ha, by rw [Nat.zero_add]; exact h0⟩⟩, fun p hp => ⟨rows_own (h.inv p hp).1 (fun r hr => ((h.inv p hp).2.1 r hr).below hb), (h.inv p hp).2.2⟩⟩
theorem TIn17.setBox {base xb q : Nat} {w wr : World} {ov u : Value} {l : List TV} (h : TIn17 base w wr ov l) (hb : xb < base) : TIn17 base w (wr.setCell ⟨xb, q, none⟩ u) ov l :=
  ⟨RowKit.ownsRow_setCell_below h.own (by simpa using hb) _, fun p hp => ⟨RowKit.ownsRow_setCell_below (h.inv p hp).1 (by simpa using hb) _, (h.inv p hp).2⟩⟩
theorem TIn17.alloc {base : Nat} {w wr : World} {ov : Value} {l : List TV} (h : TIn17 base w wr ov l) (o : Obj) : TIn17 base w (wr.alloc o) ov l := ⟨h.own.alloc o, fun p hp => ⟨(h.inv p hp).1.alloc o, (h.inv p hp).2⟩⟩
end Go.Proofs.YtjmlimogmmikoaaGreatDoor
namespace Go.Proofs.YtjmlimogmmikoaaGreatDoor
open Go.RowKit
def itA (x : It) : Array Value := #[.int .i64 x.id, .int .i64 x.cost]
theorem ItsAt.el {w : World} {v : Value} {l : List It} (h : ItsAt w v l) {k : Nat} {x : It} (hx : l[k]? = some x) : ∃ g off cap, v = .slice (some ⟨g, off, none⟩) l.length cap ∧ ∀ i u, (itA x).toList[i]? = some u → w.cell? ⟨g, off + k * 2 + i, none⟩ = some u := by
  obtain ⟨a, cap, rfl, hc⟩ := h
  have key : ∀ i u, (encI x)[i]? = some u → (flatI l)[k * 2 + i]? = some u := fun i u hu => by
    have hi : i < 2 := (List.getElem?_eq_some_iff.1 hu).1
    unfold flatI
    rw [flat_at encI 2 encI_len i hx hi]
    exact hu
  obtain ⟨g, off, rfl, _⟩ := hc _ _ (key 0 _ rfl)
  refine ⟨g, off, cap, rfl, fun i u hu => ?_⟩
  obtain ⟨g', off', he, h1⟩ := hc _ _ (key i u hu)
  cases he
  rw [Nat.add_assoc]
  exact h1
def eqIt (x y : It) : Bool := ([(x.id == y.id), (x.cost == y.cost)] : List Bool).all id
theorem eqIt_iff {x y : It} : eqIt x y = true ↔ x = y := by
  constructor
  · intro h
    obtain ⟨x0, x1⟩ := x
    obtain ⟨y0, y1⟩ := y
    simp only [eqIt, List.all_cons, List.all_nil, id, Bool.and_eq_true, Bool.and_true, beq_iff_eq] at h
    obtain ⟨h0, h1⟩ := h
    skip
    subst h0 h1
    rfl
  · rintro rfl
    simp [eqIt]
theorem run_eqIt (d : Nat) (x y : It) (w : World) : (Op.equalIn (d + 2) 239 (.agg (itA x)) (.agg (itA y))).run Tryz.prog w = .ok (eqIt x y) w := by
  rw [run_equalIn_agg w (d + 1) 239 _ _ (by kernel_rfl) (by kernel_rfl)]
  refine eqFields_flat _ _ _ _ _ _ ?_
  simp only [Program.fieldsOf, Tryz.underlying239]
  exact ⟨⟨by decide, (.int .i64 x.id), (.int .i64 y.id), by (simp only [itA]; go_simp), by (simp only [itA]; go_simp), by (go_simp; try simp)⟩, ⟨⟨by decide, (.int .i64 x.cost), (.int .i64 y.cost), by (simp only [itA]; go_simp), by (simp only [itA]; go_simp), by (go_simp; try simp)⟩, trivial⟩⟩
theorem guardIt : Tryz.prog.eqGuardType Tryz.prog.depth 239 = false := by kernel_rfl
theorem exec_neIt {a : Act} {op : Oper} {x y : It} {tr : TypeId} (s t : Operand) (ho : op.op = .binOp .neq 239 s t tr) (hx : a.eval s = .agg (itA x)) (hy : a.eval t = .agg (itA y)) (w : World) : (execOp a.eval op).run Tryz.prog w = .ok (.value (.bool (!eqIt x y))) w := by
  simp only [execOp, ho, hx, hy, Sem.run_bind, run_eqGuard_agg _ _ _ _ _ _ _ guardIt, Result.andThen_ok, run_neq_struct, show (10000 : Nat) = 9998 + 2 from rfl, run_eqIt]
  rfl
theorem it_info : (Tryz.prog.info? 239).map (·.size) = some 2 := by kernel_rfl
set_option maxRecDepth 100000 in
set_option maxHeartbeats 2000000 in
theorem sleqIt (v1 v2 : Value) (l m : List It) (w : World) (h1 : ItsAt w v1 l) (h2 : ItsAt w v2 m) (hn : l.length ≤ 1000000) : Calls Tryz.prog 210 #[v1, v2] w (BoolPost (eqL eqIt l m) w) := by
  have H1 := Lib.hid h1
  have H2 := Lib.hid h2
  obtain ⟨a1, c1, hv1, hc1⟩ := h1
  obtain ⟨a2, c2, hv2, hc2⟩ := h2
  clear hc1 hc2
  by_cases hl : l.length = m.length
  · subst hv1 hv2
    rw [← hl]
    go_enter Tryz.func210, Tryz.ntmps210
    go_wp2
    go_loopw [13] (fun i wr => EqRel eqIt l m w i wr) (fun i _ => l.length - (intOf i).toNat)
    case atStart => exact ⟨0, rfl, Nat.zero_le _, (fun j x y hj => by omega), Below.refl _ _⟩
    case round =>
      obtain ⟨k, rfl, hk, hall, hb⟩ := hrel
      have HB := Lib.hid hb
      have HA := Lib.hid hall
      clear hb hall
      by_cases hlt : k < l.length
      · obtain ⟨x, hx⟩ : ∃ x, l[k]? = some x := ⟨_, List.getElem?_eq_getElem hlt⟩
        obtain ⟨y, hy⟩ : ∃ y, m[k]? = some y := ⟨_, List.getElem?_eq_getElem (by omega)⟩
        obtain ⟨g, off, cp, hs1, r1⟩ := ItsAt.el H1.out hx
        obtain ⟨g2, off2, cp2, hs2, r2⟩ := ItsAt.el H2.out hy
        cases hs1
        cases hs2
        have HR1 := Lib.hid (show wr.drew.rangeAt g (off + k * 2) (itA x).toList from fun j u hj => cell_below HB.out (r1 j u hj))
        have HR2 := Lib.hid (show wr.drew.rangeAt g2 (off2 + k * 2) (itA y).toList from fun j u hj => cell_below HB.out (r2 j u hj))
        have HX := Lib.hid hx
        have HY := Lib.hid hy
        have e0 : (k : Int) < l.length := by omega
        clear r1 r2 hx hy
        go_upto_region 6 with fail
        refine wp_region_noPanic ?_
        refine wp_region_any (by kernel_rfl) ?_
        change wpAny _ _ _ _ _ _ _ (World.drew _)
        refine wpAny_of_held (S := (fun w2 => w2.rangeAt g (off + k * 2) (itA x).toList ∧ w2.rangeAt g2 (off2 + k * 2) (itA y).toList)) _ _ _ _ ?_
        have hHeld : (fun w2 => w2.rangeAt g (off + k * 2) (itA x).toList ∧ w2.rangeAt g2 (off2 + k * 2) (itA y).toList) wr.drew := ⟨HR1.out, HR2.out⟩
        refine wpAnyH_take (i := 0) (oi := ⟨some 16, _, _, _, _, _⟩) (v := ?_) rfl (by kernel_rfl) (by kernel_rfl) (by kernel_rfl) (fun _ _ _ h => h) (Or.inl ⟨by rfl, ?_⟩) (by assumption) ?_
        rotate_left 1
        · intro w hSw
          try dsimp only at hSw
          go_simp
          try with_reducible rfl
        try simp only [Act.put, List.setIfInBounds_toArray, List.set_cons_zero, List.set_cons_succ]
        refine wpAnyH_take (i := 1) (oi := ⟨some 17, _, _, _, _, _⟩) (v := ?_) rfl (by kernel_rfl) (by kernel_rfl) (by kernel_rfl) (fun _ _ _ h => h) (Or.inl ⟨by rfl, ?_⟩) (by assumption) ?_
        rotate_left 1
        · intro w hSw
          try dsimp only at hSw
          go_simp
          try with_reducible rfl
        try simp only [Act.put, List.setIfInBounds_toArray, List.set_cons_zero, List.set_cons_succ]
        refine wpAnyH_take (i := 2) (oi := ⟨some 18, _, _, _, _, _⟩) (v := ?_) rfl (by kernel_rfl) (by kernel_rfl) (by kernel_rfl) (fun _ _ _ h => h) (Or.inl ⟨by rfl, ?_⟩) (by assumption) ?_
        rotate_left 1
        · intro w hSw
          try dsimp only at hSw
          go_simp
          try with_reducible rfl
        try simp only [Act.put, List.setIfInBounds_toArray, List.set_cons_zero, List.set_cons_succ]
        refine wpAnyH_take (i := 3) (oi := ⟨some 19, _, _, _, _, _⟩) (v := .agg (itA x)) rfl (by kernel_rfl) (by kernel_rfl) (by kernel_rfl) (fun _ _ _ h => h) (yieldsIf_load_mid (by rfl) 239 _ rfl g (off + k * 2) rfl (itA x).toList _ (fun w2 hw => hw.1) Tryz.underlying239 rfl (it_info)) (by assumption) ?_
        try simp only [Act.put, List.setIfInBounds_toArray, List.set_cons_zero, List.set_cons_succ]
        refine wpAnyH_take (i := 4) (oi := ⟨some 20, _, _, _, _, _⟩) (v := ?_) rfl (by kernel_rfl) (by kernel_rfl) (by kernel_rfl) (fun _ _ _ h => h) (Or.inl ⟨by rfl, ?_⟩) (by assumption) ?_
        rotate_left 1
        · intro w hSw
          try dsimp only at hSw
          go_simp
          try with_reducible rfl
        try simp only [Act.put, List.setIfInBounds_toArray, List.set_cons_zero, List.set_cons_succ]
        refine wpAnyH_take (i := 5) (oi := ⟨some 21, _, _, _, _, _⟩) (v := ?_) rfl (by kernel_rfl) (by kernel_rfl) (by kernel_rfl) (fun _ _ _ h => h) (Or.inl ⟨by rfl, ?_⟩) (by assumption) ?_
        rotate_left 1
        · intro w hSw
          try dsimp only at hSw
          go_simp
          try with_reducible rfl
        try simp only [Act.put, List.setIfInBounds_toArray, List.set_cons_zero, List.set_cons_succ]
        refine wpAnyH_take (i := 6) (oi := ⟨some 22, _, _, _, _, _⟩) (v := ?_) rfl (by kernel_rfl) (by kernel_rfl) (by kernel_rfl) (fun _ _ _ h => h) (Or.inl ⟨by rfl, ?_⟩) (by assumption) ?_
        rotate_left 1
        · intro w hSw
          try dsimp only at hSw
          go_simp
          try with_reducible rfl
        try simp only [Act.put, List.setIfInBounds_toArray, List.set_cons_zero, List.set_cons_succ]
        refine wpAnyH_take (i := 7) (oi := ⟨some 23, _, _, _, _, _⟩) (v := .agg (itA y)) rfl (by kernel_rfl) (by kernel_rfl) (by kernel_rfl) (fun _ _ _ h => h) (yieldsIf_load_mid (by rfl) 239 _ rfl g2 (off2 + k * 2) rfl (itA y).toList _ (fun w2 hw => hw.2) Tryz.underlying239 rfl (it_info)) (by assumption) ?_
        try simp only [Act.put, List.setIfInBounds_toArray, List.set_cons_zero, List.set_cons_succ]
        refine wpAnyH_take (i := 8) (oi := ⟨some 24, _, _, _, _, _⟩) (v := .bool (!eqIt x y)) rfl (by kernel_rfl) (by kernel_rfl) (by kernel_rfl) (fun _ _ _ h => h) (Or.inl ⟨by rfl, fun w2 _ => exec_neIt (x := x) (y := y) _ _ rfl rfl rfl w2⟩) (by assumption) ?_
        try simp only [Act.put, List.setIfInBounds_toArray, List.set_cons_zero, List.set_cons_succ]
        refine wpAnyH_done (by kernel_rfl) ?_ _
        refine NoPanic.normal ?_
        clear hHeld
        rcases he : eqIt x y with _ | _
        · have HN := Lib.hid (eqL_at HX.out HY.out he)
          clear he
          go_wp2_with fail
          go_ret
          exact ⟨ret_bool HN.out.symm, HB.out.drew⟩
        · have HS := Lib.hid (eqRel_snoc HA.out HX.out HY.out he)
          clear he
          go_wp2_with fail
          go_roundw
          case rel => exact ⟨k + 1, by go_num, by omega, HS.out, HB.out.drew⟩
          case measure => simp [intOf]; omega
      · have HN := Lib.hid (eqL_all hl (e := eqIt) (fun j x y a b => HA.out j x y (by have := (List.getElem?_eq_some_iff.1 a).1; omega) a b))
        go_wp2
        go_ret
        exact ⟨ret_bool HN.out.symm, HB.out⟩
  · have HN := Lib.hid (eqL_len (e := eqIt) hl)
    subst hv1 hv2
    go_enter Tryz.func210, Tryz.ntmps210
    go_wp2
    go_ret
    exact ⟨ret_bool HN.out.symm, Below.refl _ _⟩
set_option maxRecDepth 100000 in
set_option maxHeartbeats 2000000 in
theorem doeqIt (v1 v2 : Value) (l m : List It) (w : World) (h1 : ItsAt w v1 l) (h2 : ItsAt w v2 m) (hn : l.length ≤ 1000000) : Calls Tryz.prog 211 #[v1, v2] w (BoolPost (eqL eqIt l m) w) := by
  have H1 := Lib.hid h1
  have H2 := Lib.hid h2
  obtain ⟨a1, c1, hv1, hc1⟩ := h1
  obtain ⟨a2, c2, hv2, hc2⟩ := h2
  clear hc1 hc2
  by_cases hl : l.length = m.length
  · subst hv1 hv2
    rw [← hl]
    go_enter Tryz.func211, Tryz.ntmps211
    go_wp2
    go_loopw [5] (fun i wr => EqRel eqIt l m w i wr) (fun i _ => l.length - (intOf i).toNat)
    case atStart => exact ⟨0, rfl, Nat.zero_le _, (fun j x y hj => by omega), Below.refl _ _⟩
    case round =>
      obtain ⟨k, rfl, hk, hall, hb⟩ := hrel
      have HB := Lib.hid hb
      have HA := Lib.hid hall
      clear hb hall
      by_cases hlt : k < l.length
      · obtain ⟨x, hx⟩ : ∃ x, l[k]? = some x := ⟨_, List.getElem?_eq_getElem hlt⟩
        obtain ⟨y, hy⟩ : ∃ y, m[k]? = some y := ⟨_, List.getElem?_eq_getElem (by omega)⟩
        obtain ⟨g, off, cp, hs1, r1⟩ := ItsAt.el H1.out hx
        obtain ⟨g2, off2, cp2, hs2, r2⟩ := ItsAt.el H2.out hy
        cases hs1
        cases hs2
        have HR1 := Lib.hid (show wr.drew.rangeAt g (off + k * 2) (itA x).toList from fun j u hj => cell_below HB.out (r1 j u hj))
        have HR2 := Lib.hid (show wr.drew.rangeAt g2 (off2 + k * 2) (itA y).toList from fun j u hj => cell_below HB.out (r2 j u hj))
        have HX := Lib.hid hx
        have HY := Lib.hid hy
        have e0 : (k : Int) < l.length := by omega
        clear r1 r2 hx hy
        go_upto_region 6 with fail
        refine wp_region_noPanic ?_
        refine wp_region_any (by kernel_rfl) ?_
        change wpAny _ _ _ _ _ _ _ (World.drew _)
        refine wpAny_of_held (S := (fun w2 => w2.rangeAt g (off + k * 2) (itA x).toList ∧ w2.rangeAt g2 (off2 + k * 2) (itA y).toList)) _ _ _ _ ?_
        have hHeld : (fun w2 => w2.rangeAt g (off + k * 2) (itA x).toList ∧ w2.rangeAt g2 (off2 + k * 2) (itA y).toList) wr.drew := ⟨HR1.out, HR2.out⟩
        refine wpAnyH_take (i := 0) (oi := ⟨some 17, _, _, _, _, _⟩) (v := ?_) rfl (by kernel_rfl) (by kernel_rfl) (by kernel_rfl) (fun _ _ _ h => h) (Or.inl ⟨by rfl, ?_⟩) (by assumption) ?_
        rotate_left 1
        · intro w hSw
          try dsimp only at hSw
          go_simp
          try with_reducible rfl
        try simp only [Act.put, List.setIfInBounds_toArray, List.set_cons_zero, List.set_cons_succ]
        refine wpAnyH_take (i := 1) (oi := ⟨some 18, _, _, _, _, _⟩) (v := ?_) rfl (by kernel_rfl) (by kernel_rfl) (by kernel_rfl) (fun _ _ _ h => h) (Or.inl ⟨by rfl, ?_⟩) (by assumption) ?_
        rotate_left 1
        · intro w hSw
          try dsimp only at hSw
          go_simp
          try with_reducible rfl
        try simp only [Act.put, List.setIfInBounds_toArray, List.set_cons_zero, List.set_cons_succ]
        refine wpAnyH_take (i := 2) (oi := ⟨some 19, _, _, _, _, _⟩) (v := ?_) rfl (by kernel_rfl) (by kernel_rfl) (by kernel_rfl) (fun _ _ _ h => h) (Or.inl ⟨by rfl, ?_⟩) (by assumption) ?_
        rotate_left 1
        · intro w hSw
          try dsimp only at hSw
          go_simp
          try with_reducible rfl
        try simp only [Act.put, List.setIfInBounds_toArray, List.set_cons_zero, List.set_cons_succ]
        refine wpAnyH_take (i := 3) (oi := ⟨some 20, _, _, _, _, _⟩) (v := .agg (itA x)) rfl (by kernel_rfl) (by kernel_rfl) (by kernel_rfl) (fun _ _ _ h => h) (yieldsIf_load_mid (by rfl) 239 _ rfl g (off + k * 2) rfl (itA x).toList _ (fun w2 hw => hw.1) Tryz.underlying239 rfl (it_info)) (by assumption) ?_
        try simp only [Act.put, List.setIfInBounds_toArray, List.set_cons_zero, List.set_cons_succ]
        refine wpAnyH_take (i := 4) (oi := ⟨some 21, _, _, _, _, _⟩) (v := ?_) rfl (by kernel_rfl) (by kernel_rfl) (by kernel_rfl) (fun _ _ _ h => h) (Or.inl ⟨by rfl, ?_⟩) (by assumption) ?_
        rotate_left 1
        · intro w hSw
          try dsimp only at hSw
          go_simp
          try with_reducible rfl
        try simp only [Act.put, List.setIfInBounds_toArray, List.set_cons_zero, List.set_cons_succ]
        refine wpAnyH_take (i := 5) (oi := ⟨some 22, _, _, _, _, _⟩) (v := ?_) rfl (by kernel_rfl) (by kernel_rfl) (by kernel_rfl) (fun _ _ _ h => h) (Or.inl ⟨by rfl, ?_⟩) (by assumption) ?_
        rotate_left 1
        · intro w hSw
          try dsimp only at hSw
          go_simp
          try with_reducible rfl
        try simp only [Act.put, List.setIfInBounds_toArray, List.set_cons_zero, List.set_cons_succ]
        refine wpAnyH_take (i := 6) (oi := ⟨some 23, _, _, _, _, _⟩) (v := ?_) rfl (by kernel_rfl) (by kernel_rfl) (by kernel_rfl) (fun _ _ _ h => h) (Or.inl ⟨by rfl, ?_⟩) (by assumption) ?_
        rotate_left 1
        · intro w hSw
          try dsimp only at hSw
          go_simp
          try with_reducible rfl
        try simp only [Act.put, List.setIfInBounds_toArray, List.set_cons_zero, List.set_cons_succ]
        refine wpAnyH_take (i := 7) (oi := ⟨some 24, _, _, _, _, _⟩) (v := .agg (itA y)) rfl (by kernel_rfl) (by kernel_rfl) (by kernel_rfl) (fun _ _ _ h => h) (yieldsIf_load_mid (by rfl) 239 _ rfl g2 (off2 + k * 2) rfl (itA y).toList _ (fun w2 hw => hw.2) Tryz.underlying239 rfl (it_info)) (by assumption) ?_
        try simp only [Act.put, List.setIfInBounds_toArray, List.set_cons_zero, List.set_cons_succ]
        refine wpAnyH_take (i := 8) (oi := ⟨some 25, _, _, _, _, _⟩) (v := .bool (!eqIt x y)) rfl (by kernel_rfl) (by kernel_rfl) (by kernel_rfl) (fun _ _ _ h => h) (Or.inl ⟨by rfl, fun w2 _ => exec_neIt (x := x) (y := y) _ _ rfl rfl rfl w2⟩) (by assumption) ?_
        try simp only [Act.put, List.setIfInBounds_toArray, List.set_cons_zero, List.set_cons_succ]
        refine wpAnyH_done (by kernel_rfl) ?_ _
        refine NoPanic.normal ?_
        clear hHeld
        rcases he : eqIt x y with _ | _
        · have HN := Lib.hid (eqL_at HX.out HY.out he)
          clear he
          go_wp2_with fail
          go_ret
          exact ⟨ret_bool HN.out.symm, HB.out.drew⟩
        · have HS := Lib.hid (eqRel_snoc HA.out HX.out HY.out he)
          clear he
          go_wp2_with fail
          go_roundw
          case rel => exact ⟨k + 1, by go_num, by omega, HS.out, HB.out.drew⟩
          case measure => simp [intOf]; omega
      · have HN := Lib.hid (eqL_all hl (e := eqIt) (fun j x y a b => HA.out j x y (by have := (List.getElem?_eq_some_iff.1 a).1; omega) a b))
        go_wp2
        go_ret
        exact ⟨ret_bool HN.out.symm, HB.out⟩
  · have HN := Lib.hid (eqL_len (e := eqIt) hl)
    subst hv1 hv2
    go_enter Tryz.func211, Tryz.ntmps211
    go_wp2
    go_ret
    exact ⟨ret_bool HN.out.symm, Below.refl _ _⟩
end Go.Proofs.YtjmlimogmmikoaaGreatDoor
