/-
  slices.Equal, and the document's Same, of slices of structs of integers, texts and truths: the walks.
-/
import Derived.Test.YtjmlimogmmikoaaGreatDoorSx06
namespace Go.Proofs.YtjmlimogmmikoaaGreatDoor
open Go.RowKit
def eqL {α : Type} (e : α → α → Bool) : List α → List α → Bool
  | [], [] => true
  | x :: xs, y :: ys => e x y && eqL e xs ys
  | _, _ => false
theorem eqL_len {α : Type} {e : α → α → Bool} : ∀ {l m : List α}, l.length ≠ m.length → eqL e l m = false
  | [], [], h => absurd rfl h
  | [], _ :: _, _ => rfl
  | _ :: _, [], _ => rfl
  | x :: xs, y :: ys, h => by
    have := eqL_len (e := e) (l := xs) (m := ys) (fun hh => h (by simp [hh]))
    simp [eqL, this]
theorem eqL_at {α : Type} {e : α → α → Bool} : ∀ {l m : List α} {k : Nat} {x y : α}, l[k]? = some x → m[k]? = some y → e x y = false → eqL e l m = false
  | [], _, _, _, _, h, _, _ => by simp at h
  | _ :: _, [], _, _, _, _, h, _ => by simp at h
  | x :: xs, y :: ys, 0, _, _, h1, h2, h => by
    simp at h1 h2
    subst h1 h2
    simp [eqL, h]
  | x :: xs, y :: ys, k + 1, _, _, h1, h2, h => by
    have := eqL_at (e := e) (l := xs) (m := ys) (k := k) (by simpa using h1) (by simpa using h2) h
    simp [eqL, this]
theorem eqL_all {α : Type} {e : α → α → Bool} : ∀ {l m : List α}, l.length = m.length → (∀ (k : Nat) x y, l[k]? = some x → m[k]? = some y → e x y = true) → eqL e l m = true
  | [], [], _, _ => rfl
  | [], _ :: _, h, _ => by simp at h
  | _ :: _, [], h, _ => by simp at h
  | x :: xs, y :: ys, h, h2 => by
    have := eqL_all (e := e) (l := xs) (m := ys) (by simpa using h) (fun k x y a b => h2 (k + 1) x y (by simpa using a) (by simpa using b))
    simp [eqL, this, h2 0 x y rfl rfl]
theorem eqL_self {α : Type} {e : α → α → Bool} (h : ∀ x, e x x = true) (l : List α) : eqL e l l = true := eqL_all rfl fun k x y a b => by
  obtain rfl := Option.some.inj (a.symm.trans b)
  exact h x
def EqRel {α : Type} (e : α → α → Bool) (l m : List α) (w : World) (i : Value) (wr : World) : Prop := ∃ k : Nat, i = .int .i64 k ∧ k ≤ l.length ∧ (∀ (j : Nat) x y, j < k → l[j]? = some x → m[j]? = some y → e x y = true) ∧ Below w.heap.size w wr
theorem eqRel_snoc {α : Type} {e : α → α → Bool} {l m : List α} {k : Nat} {a b : α} (h : ∀ (j : Nat) x y, j < k → l[j]? = some x → m[j]? = some y → e x y = true) (ha : l[k]? = some a) (hb : m[k]? = some b) (hab : e a b = true) : ∀ (j : Nat) x y, j < k + 1 → l[j]? = some x → m[j]? = some y → e x y = true := by
  intro j x y hj hx hy
  rcases Nat.lt_or_ge j k with hlt | hge
  · exact h j x y hlt hx hy
  · obtain rfl : j = k := by omega
    obtain rfl := Option.some.inj (ha.symm.trans hx)
    obtain rfl := Option.some.inj (hb.symm.trans hy)
    exact hab
theorem rw_info : (Tryz.prog.info? 87).map (·.size) = some 17 := by kernel_rfl
theorem lt_info : (Tryz.prog.info? 90).map (·.size) = some 6 := by kernel_rfl
theorem wt_info : (Tryz.prog.info? 93).map (·.size) = some 2 := by kernel_rfl
def encOp (x : Opr) : List Value := (opA x).toList
theorem encOp_len (x : Opr) : (encOp x).length = 18 := rfl
set_option maxRecDepth 100000 in
set_option maxHeartbeats 2000000 in
theorem sleqOp (v1 v2 : Value) (l m : List Opr) (w : World) (h1 : SlAt w v1 l.length (l.flatMap encOp)) (h2 : SlAt w v2 m.length (m.flatMap encOp)) (hn : l.length ≤ 1000000) : Calls Tryz.prog 46 #[v1, v2] w (BoolPost (eqL eqOp l m) w) := by
  obtain ⟨a1, c1, hv1, hc1⟩ := h1.form
  obtain ⟨a2, c2, hv2, hc2⟩ := h2.form
  have H1 := Lib.hid h1
  have H2 := Lib.hid h2
  clear h1 h2
  by_cases hl : l.length = m.length
  · rw [hv1, hv2] at *
    rw [← hl]
    go_enter Tryz.func46, Tryz.ntmps46
    go_wp2
    go_loopw [13] (fun i wr => EqRel eqOp l m w i wr) (fun i _ => l.length - (intOf i).toNat)
    case atStart => exact ⟨0, rfl, Nat.zero_le _, (fun j x y hj => by omega), Below.refl _ _⟩
    case round =>
      obtain ⟨k, rfl, hk, hall, hb⟩ := hrel
      have HB := Lib.hid hb
      have HA := Lib.hid hall
      clear hb hall
      by_cases hlt : k < l.length
      · obtain ⟨x, hx⟩ : ∃ x, l[k]? = some x := ⟨_, List.getElem?_eq_getElem hlt⟩
        obtain ⟨y, hy⟩ : ∃ y, m[k]? = some y := ⟨_, List.getElem?_eq_getElem (by omega)⟩
        obtain ⟨g, off, cp, hs1, -, r1⟩ := SlAt.at H1.out encOp_len (by decide) hx
        obtain ⟨g2, off2, cp2, hs2, -, r2⟩ := SlAt.at H2.out encOp_len (by decide) hy
        cases hs1
        cases hs2
        have HR1 := Lib.hid (show wr.drew.rangeAt g (off + k * 18) (opA x).toList from fun j u hj => cell_below HB.out (r1 j u hj))
        have HR2 := Lib.hid (show wr.drew.rangeAt g2 (off2 + k * 18) (opA y).toList from fun j u hj => cell_below HB.out (r2 j u hj))
        have HX := Lib.hid hx
        have HY := Lib.hid hy
        have e0 : (k : Int) < l.length := by omega
        clear r1 r2 hx hy
        go_upto_region 6 with fail
        refine wp_region_noPanic ?_
        refine wp_region_any (by kernel_rfl) ?_
        change wpAny _ _ _ _ _ _ _ (World.drew _)
        refine wpAny_of_held (S := (fun w2 => w2.rangeAt g (off + k * 18) (opA x).toList ∧ w2.rangeAt g2 (off2 + k * 18) (opA y).toList)) _ _ _ _ ?_
        have hHeld : (fun w2 => w2.rangeAt g (off + k * 18) (opA x).toList ∧ w2.rangeAt g2 (off2 + k * 18) (opA y).toList) wr.drew := ⟨HR1.out, HR2.out⟩
        refine wpAnyH_take (i := 0) (oi := ⟨some 16, _, _, _, _, _⟩) (v := ?_) rfl (by kernel_rfl) (by kernel_rfl) (by kernel_rfl) (fun _ _ _ h => h) (Or.inl ⟨by rfl, ?_⟩) (by assumption) ?_
        rotate_left 1
        · intro w hSw
          try dsimp only at hSw
          go_simp
          try with_reducible rfl
        try simp only [Act.put, List.setIfInBounds_toArray, List.set_cons_zero, List.set_cons_succ]
        refine wpAnyH_take (i := 1) (oi := ⟨some 17, _, _, _, _, _⟩) (v := ?_) rfl (by kernel_rfl) (by kernel_rfl) (by kernel_rfl) (fun _ _ _ h => h) (Or.inl ⟨by rfl, ?_⟩) (by assumption) ?_
        rotate_left 1
        · intro w hSw
          try dsimp only at hSw
          go_simp
          try with_reducible rfl
        try simp only [Act.put, List.setIfInBounds_toArray, List.set_cons_zero, List.set_cons_succ]
        refine wpAnyH_take (i := 2) (oi := ⟨some 18, _, _, _, _, _⟩) (v := ?_) rfl (by kernel_rfl) (by kernel_rfl) (by kernel_rfl) (fun _ _ _ h => h) (Or.inl ⟨by rfl, ?_⟩) (by assumption) ?_
        rotate_left 1
        · intro w hSw
          try dsimp only at hSw
          go_simp
          try with_reducible rfl
        try simp only [Act.put, List.setIfInBounds_toArray, List.set_cons_zero, List.set_cons_succ]
        refine wpAnyH_take (i := 3) (oi := ⟨some 19, _, _, _, _, _⟩) (v := .agg (opA x)) rfl (by kernel_rfl) (by kernel_rfl) (by kernel_rfl) (fun _ _ _ h => h) (yieldsIf_load_mid (by rfl) 53 _ rfl g (off + k * 18) rfl (opA x).toList _ (fun w2 hw => hw.1) Tryz.underlying53 rfl (op_info)) (by assumption) ?_
        try simp only [Act.put, List.setIfInBounds_toArray, List.set_cons_zero, List.set_cons_succ]
        refine wpAnyH_take (i := 4) (oi := ⟨some 20, _, _, _, _, _⟩) (v := ?_) rfl (by kernel_rfl) (by kernel_rfl) (by kernel_rfl) (fun _ _ _ h => h) (Or.inl ⟨by rfl, ?_⟩) (by assumption) ?_
        rotate_left 1
        · intro w hSw
          try dsimp only at hSw
          go_simp
          try with_reducible rfl
        try simp only [Act.put, List.setIfInBounds_toArray, List.set_cons_zero, List.set_cons_succ]
        refine wpAnyH_take (i := 5) (oi := ⟨some 21, _, _, _, _, _⟩) (v := ?_) rfl (by kernel_rfl) (by kernel_rfl) (by kernel_rfl) (fun _ _ _ h => h) (Or.inl ⟨by rfl, ?_⟩) (by assumption) ?_
        rotate_left 1
        · intro w hSw
          try dsimp only at hSw
          go_simp
          try with_reducible rfl
        try simp only [Act.put, List.setIfInBounds_toArray, List.set_cons_zero, List.set_cons_succ]
        refine wpAnyH_take (i := 6) (oi := ⟨some 22, _, _, _, _, _⟩) (v := ?_) rfl (by kernel_rfl) (by kernel_rfl) (by kernel_rfl) (fun _ _ _ h => h) (Or.inl ⟨by rfl, ?_⟩) (by assumption) ?_
        rotate_left 1
        · intro w hSw
          try dsimp only at hSw
          go_simp
          try with_reducible rfl
        try simp only [Act.put, List.setIfInBounds_toArray, List.set_cons_zero, List.set_cons_succ]
        refine wpAnyH_take (i := 7) (oi := ⟨some 23, _, _, _, _, _⟩) (v := .agg (opA y)) rfl (by kernel_rfl) (by kernel_rfl) (by kernel_rfl) (fun _ _ _ h => h) (yieldsIf_load_mid (by rfl) 53 _ rfl g2 (off2 + k * 18) rfl (opA y).toList _ (fun w2 hw => hw.2) Tryz.underlying53 rfl (op_info)) (by assumption) ?_
        try simp only [Act.put, List.setIfInBounds_toArray, List.set_cons_zero, List.set_cons_succ]
        refine wpAnyH_take (i := 8) (oi := ⟨some 24, _, _, _, _, _⟩) (v := .bool (!eqOp x y)) rfl (by kernel_rfl) (by kernel_rfl) (by kernel_rfl) (fun _ _ _ h => h) (Or.inl ⟨by rfl, fun w2 _ => exec_neOp (x := x) (y := y) _ _ rfl rfl rfl w2⟩) (by assumption) ?_
        try simp only [Act.put, List.setIfInBounds_toArray, List.set_cons_zero, List.set_cons_succ]
        refine wpAnyH_done (by kernel_rfl) ?_ _
        refine NoPanic.normal ?_
        clear hHeld
        rcases he : eqOp x y with _ | _
        · have HN := Lib.hid (eqL_at HX.out HY.out he)
          clear he
          go_wp2_with fail
          go_ret
          exact ⟨ret_bool HN.out.symm, HB.out.drew⟩
        · have HS := Lib.hid (eqRel_snoc HA.out HX.out HY.out he)
          clear he
          go_wp2_with fail
          go_roundw
          case rel => exact ⟨k + 1, by go_num, by omega, HS.out, HB.out.drew⟩
          case measure => simp [intOf]; omega
      · have HN := Lib.hid (eqL_all hl (e := eqOp) (fun j x y a b => HA.out j x y (by have := (List.getElem?_eq_some_iff.1 a).1; omega) a b))
        go_wp2
        go_ret
        exact ⟨ret_bool HN.out.symm, HB.out⟩
  · have HN := Lib.hid (eqL_len (e := eqOp) hl)
    rw [hv1, hv2]
    go_enter Tryz.func46, Tryz.ntmps46
    go_wp2
    go_ret
    exact ⟨ret_bool HN.out.symm, Below.refl _ _⟩
set_option maxRecDepth 100000 in
set_option maxHeartbeats 2000000 in
theorem doeqOp (v1 v2 : Value) (l m : List Opr) (w : World) (h1 : SlAt w v1 l.length (l.flatMap encOp)) (h2 : SlAt w v2 m.length (m.flatMap encOp)) (hn : l.length ≤ 1000000) : Calls Tryz.prog 54 #[v1, v2] w (BoolPost (eqL eqOp l m) w) := by
  obtain ⟨a1, c1, hv1, hc1⟩ := h1.form
  obtain ⟨a2, c2, hv2, hc2⟩ := h2.form
  have H1 := Lib.hid h1
  have H2 := Lib.hid h2
  clear h1 h2
  by_cases hl : l.length = m.length
  · rw [hv1, hv2] at *
    rw [← hl]
    go_enter Tryz.func54, Tryz.ntmps54
    go_wp2
    go_loopw [5] (fun i wr => EqRel eqOp l m w i wr) (fun i _ => l.length - (intOf i).toNat)
    case atStart => exact ⟨0, rfl, Nat.zero_le _, (fun j x y hj => by omega), Below.refl _ _⟩
    case round =>
      obtain ⟨k, rfl, hk, hall, hb⟩ := hrel
      have HB := Lib.hid hb
      have HA := Lib.hid hall
      clear hb hall
      by_cases hlt : k < l.length
      · obtain ⟨x, hx⟩ : ∃ x, l[k]? = some x := ⟨_, List.getElem?_eq_getElem hlt⟩
        obtain ⟨y, hy⟩ : ∃ y, m[k]? = some y := ⟨_, List.getElem?_eq_getElem (by omega)⟩
        obtain ⟨g, off, cp, hs1, -, r1⟩ := SlAt.at H1.out encOp_len (by decide) hx
        obtain ⟨g2, off2, cp2, hs2, -, r2⟩ := SlAt.at H2.out encOp_len (by decide) hy
        cases hs1
        cases hs2
        have HR1 := Lib.hid (show wr.drew.rangeAt g (off + k * 18) (opA x).toList from fun j u hj => cell_below HB.out (r1 j u hj))
        have HR2 := Lib.hid (show wr.drew.rangeAt g2 (off2 + k * 18) (opA y).toList from fun j u hj => cell_below HB.out (r2 j u hj))
        have HX := Lib.hid hx
        have HY := Lib.hid hy
        have e0 : (k : Int) < l.length := by omega
        clear r1 r2 hx hy
        go_upto_region 6 with fail
        refine wp_region_noPanic ?_
        refine wp_region_any (by kernel_rfl) ?_
        change wpAny _ _ _ _ _ _ _ (World.drew _)
        refine wpAny_of_held (S := (fun w2 => w2.rangeAt g (off + k * 18) (opA x).toList ∧ w2.rangeAt g2 (off2 + k * 18) (opA y).toList)) _ _ _ _ ?_
        have hHeld : (fun w2 => w2.rangeAt g (off + k * 18) (opA x).toList ∧ w2.rangeAt g2 (off2 + k * 18) (opA y).toList) wr.drew := ⟨HR1.out, HR2.out⟩
        refine wpAnyH_take (i := 0) (oi := ⟨some 17, _, _, _, _, _⟩) (v := ?_) rfl (by kernel_rfl) (by kernel_rfl) (by kernel_rfl) (fun _ _ _ h => h) (Or.inl ⟨by rfl, ?_⟩) (by assumption) ?_
        rotate_left 1
        · intro w hSw
          try dsimp only at hSw
          go_simp
          try with_reducible rfl
        try simp only [Act.put, List.setIfInBounds_toArray, List.set_cons_zero, List.set_cons_succ]
        refine wpAnyH_take (i := 1) (oi := ⟨some 18, _, _, _, _, _⟩) (v := ?_) rfl (by kernel_rfl) (by kernel_rfl) (by kernel_rfl) (fun _ _ _ h => h) (Or.inl ⟨by rfl, ?_⟩) (by assumption) ?_
        rotate_left 1
        · intro w hSw
          try dsimp only at hSw
          go_simp
          try with_reducible rfl
        try simp only [Act.put, List.setIfInBounds_toArray, List.set_cons_zero, List.set_cons_succ]
        refine wpAnyH_take (i := 2) (oi := ⟨some 19, _, _, _, _, _⟩) (v := ?_) rfl (by kernel_rfl) (by kernel_rfl) (by kernel_rfl) (fun _ _ _ h => h) (Or.inl ⟨by rfl, ?_⟩) (by assumption) ?_
        rotate_left 1
        · intro w hSw
          try dsimp only at hSw
          go_simp
          try with_reducible rfl
        try simp only [Act.put, List.setIfInBounds_toArray, List.set_cons_zero, List.set_cons_succ]
        refine wpAnyH_take (i := 3) (oi := ⟨some 20, _, _, _, _, _⟩) (v := .agg (opA x)) rfl (by kernel_rfl) (by kernel_rfl) (by kernel_rfl) (fun _ _ _ h => h) (yieldsIf_load_mid (by rfl) 53 _ rfl g (off + k * 18) rfl (opA x).toList _ (fun w2 hw => hw.1) Tryz.underlying53 rfl (op_info)) (by assumption) ?_
        try simp only [Act.put, List.setIfInBounds_toArray, List.set_cons_zero, List.set_cons_succ]
        refine wpAnyH_take (i := 4) (oi := ⟨some 21, _, _, _, _, _⟩) (v := ?_) rfl (by kernel_rfl) (by kernel_rfl) (by kernel_rfl) (fun _ _ _ h => h) (Or.inl ⟨by rfl, ?_⟩) (by assumption) ?_
        rotate_left 1
        · intro w hSw
          try dsimp only at hSw
          go_simp
          try with_reducible rfl
        try simp only [Act.put, List.setIfInBounds_toArray, List.set_cons_zero, List.set_cons_succ]
        refine wpAnyH_take (i := 5) (oi := ⟨some 22, _, _, _, _, _⟩) (v := ?_) rfl (by kernel_rfl) (by kernel_rfl) (by kernel_rfl) (fun _ _ _ h => h) (Or.inl ⟨by rfl, ?_⟩) (by assumption) ?_
        rotate_left 1
        · intro w hSw
          try dsimp only at hSw
          go_simp
          try with_reducible rfl
        try simp only [Act.put, List.setIfInBounds_toArray, List.set_cons_zero, List.set_cons_succ]
        refine wpAnyH_take (i := 6) (oi := ⟨some 23, _, _, _, _, _⟩) (v := ?_) rfl (by kernel_rfl) (by kernel_rfl) (by kernel_rfl) (fun _ _ _ h => h) (Or.inl ⟨by rfl, ?_⟩) (by assumption) ?_
        rotate_left 1
        · intro w hSw
          try dsimp only at hSw
          go_simp
          try with_reducible rfl
        try simp only [Act.put, List.setIfInBounds_toArray, List.set_cons_zero, List.set_cons_succ]
        refine wpAnyH_take (i := 7) (oi := ⟨some 24, _, _, _, _, _⟩) (v := .agg (opA y)) rfl (by kernel_rfl) (by kernel_rfl) (by kernel_rfl) (fun _ _ _ h => h) (yieldsIf_load_mid (by rfl) 53 _ rfl g2 (off2 + k * 18) rfl (opA y).toList _ (fun w2 hw => hw.2) Tryz.underlying53 rfl (op_info)) (by assumption) ?_
        try simp only [Act.put, List.setIfInBounds_toArray, List.set_cons_zero, List.set_cons_succ]
        refine wpAnyH_take (i := 8) (oi := ⟨some 25, _, _, _, _, _⟩) (v := .bool (!eqOp x y)) rfl (by kernel_rfl) (by kernel_rfl) (by kernel_rfl) (fun _ _ _ h => h) (Or.inl ⟨by rfl, fun w2 _ => exec_neOp (x := x) (y := y) _ _ rfl rfl rfl w2⟩) (by assumption) ?_
        try simp only [Act.put, List.setIfInBounds_toArray, List.set_cons_zero, List.set_cons_succ]
        refine wpAnyH_done (by kernel_rfl) ?_ _
        refine NoPanic.normal ?_
        clear hHeld
        rcases he : eqOp x y with _ | _
        · have HN := Lib.hid (eqL_at HX.out HY.out he)
          clear he
          go_wp2_with fail
          go_ret
          exact ⟨ret_bool HN.out.symm, HB.out.drew⟩
        · have HS := Lib.hid (eqRel_snoc HA.out HX.out HY.out he)
          clear he
          go_wp2_with fail
          go_roundw
          case rel => exact ⟨k + 1, by go_num, by omega, HS.out, HB.out.drew⟩
          case measure => simp [intOf]; omega
      · have HN := Lib.hid (eqL_all hl (e := eqOp) (fun j x y a b => HA.out j x y (by have := (List.getElem?_eq_some_iff.1 a).1; omega) a b))
        go_wp2
        go_ret
        exact ⟨ret_bool HN.out.symm, HB.out⟩
  · have HN := Lib.hid (eqL_len (e := eqOp) hl)
    rw [hv1, hv2]
    go_enter Tryz.func54, Tryz.ntmps54
    go_wp2
    go_ret
    exact ⟨ret_bool HN.out.symm, Below.refl _ _⟩
def encWk (x : Wk) : List Value := (wkA x).toList
theorem encWk_len (x : Wk) : (encWk x).length = 7 := rfl
set_option maxRecDepth 100000 in
set_option maxHeartbeats 2000000 in
theorem sleqWk (v1 v2 : Value) (l m : List Wk) (w : World) (h1 : SlAt w v1 l.length (l.flatMap encWk)) (h2 : SlAt w v2 m.length (m.flatMap encWk)) (hn : l.length ≤ 1000000) : Calls Tryz.prog 47 #[v1, v2] w (BoolPost (eqL eqWk l m) w) := by
  obtain ⟨a1, c1, hv1, hc1⟩ := h1.form
  obtain ⟨a2, c2, hv2, hc2⟩ := h2.form
  have H1 := Lib.hid h1
  have H2 := Lib.hid h2
  clear h1 h2
  by_cases hl : l.length = m.length
  · rw [hv1, hv2] at *
    rw [← hl]
    go_enter Tryz.func47, Tryz.ntmps47
    go_wp2
    go_loopw [13] (fun i wr => EqRel eqWk l m w i wr) (fun i _ => l.length - (intOf i).toNat)
    case atStart => exact ⟨0, rfl, Nat.zero_le _, (fun j x y hj => by omega), Below.refl _ _⟩
    case round =>
      obtain ⟨k, rfl, hk, hall, hb⟩ := hrel
      have HB := Lib.hid hb
      have HA := Lib.hid hall
      clear hb hall
      by_cases hlt : k < l.length
      · obtain ⟨x, hx⟩ : ∃ x, l[k]? = some x := ⟨_, List.getElem?_eq_getElem hlt⟩
        obtain ⟨y, hy⟩ : ∃ y, m[k]? = some y := ⟨_, List.getElem?_eq_getElem (by omega)⟩
        obtain ⟨g, off, cp, hs1, -, r1⟩ := SlAt.at H1.out encWk_len (by decide) hx
        obtain ⟨g2, off2, cp2, hs2, -, r2⟩ := SlAt.at H2.out encWk_len (by decide) hy
        cases hs1
        cases hs2
        have HR1 := Lib.hid (show wr.drew.rangeAt g (off + k * 7) (wkA x).toList from fun j u hj => cell_below HB.out (r1 j u hj))
        have HR2 := Lib.hid (show wr.drew.rangeAt g2 (off2 + k * 7) (wkA y).toList from fun j u hj => cell_below HB.out (r2 j u hj))
        have HX := Lib.hid hx
        have HY := Lib.hid hy
        have e0 : (k : Int) < l.length := by omega
        clear r1 r2 hx hy
        go_upto_region 6 with fail
        refine wp_region_noPanic ?_
        refine wp_region_any (by kernel_rfl) ?_
        change wpAny _ _ _ _ _ _ _ (World.drew _)
        refine wpAny_of_held (S := (fun w2 => w2.rangeAt g (off + k * 7) (wkA x).toList ∧ w2.rangeAt g2 (off2 + k * 7) (wkA y).toList)) _ _ _ _ ?_
        have hHeld : (fun w2 => w2.rangeAt g (off + k * 7) (wkA x).toList ∧ w2.rangeAt g2 (off2 + k * 7) (wkA y).toList) wr.drew := ⟨HR1.out, HR2.out⟩
        refine wpAnyH_take (i := 0) (oi := ⟨some 16, _, _, _, _, _⟩) (v := ?_) rfl (by kernel_rfl) (by kernel_rfl) (by kernel_rfl) (fun _ _ _ h => h) (Or.inl ⟨by rfl, ?_⟩) (by assumption) ?_
        rotate_left 1
        · intro w hSw
          try dsimp only at hSw
          go_simp
          try with_reducible rfl
        try simp only [Act.put, List.setIfInBounds_toArray, List.set_cons_zero, List.set_cons_succ]
        refine wpAnyH_take (i := 1) (oi := ⟨some 17, _, _, _, _, _⟩) (v := ?_) rfl (by kernel_rfl) (by kernel_rfl) (by kernel_rfl) (fun _ _ _ h => h) (Or.inl ⟨by rfl, ?_⟩) (by assumption) ?_
        rotate_left 1
        · intro w hSw
          try dsimp only at hSw
          go_simp
          try with_reducible rfl
        try simp only [Act.put, List.setIfInBounds_toArray, List.set_cons_zero, List.set_cons_succ]
        refine wpAnyH_take (i := 2) (oi := ⟨some 18, _, _, _, _, _⟩) (v := ?_) rfl (by kernel_rfl) (by kernel_rfl) (by kernel_rfl) (fun _ _ _ h => h) (Or.inl ⟨by rfl, ?_⟩) (by assumption) ?_
        rotate_left 1
        · intro w hSw
          try dsimp only at hSw
          go_simp
          try with_reducible rfl
        try simp only [Act.put, List.setIfInBounds_toArray, List.set_cons_zero, List.set_cons_succ]
        refine wpAnyH_take (i := 3) (oi := ⟨some 19, _, _, _, _, _⟩) (v := .agg (wkA x)) rfl (by kernel_rfl) (by kernel_rfl) (by kernel_rfl) (fun _ _ _ h => h) (yieldsIf_load_mid (by rfl) 67 _ rfl g (off + k * 7) rfl (wkA x).toList _ (fun w2 hw => hw.1) Tryz.underlying67 rfl (wkld_info)) (by assumption) ?_
        try simp only [Act.put, List.setIfInBounds_toArray, List.set_cons_zero, List.set_cons_succ]
        refine wpAnyH_take (i := 4) (oi := ⟨some 20, _, _, _, _, _⟩) (v := ?_) rfl (by kernel_rfl) (by kernel_rfl) (by kernel_rfl) (fun _ _ _ h => h) (Or.inl ⟨by rfl, ?_⟩) (by assumption) ?_
        rotate_left 1
        · intro w hSw
          try dsimp only at hSw
          go_simp
          try with_reducible rfl
        try simp only [Act.put, List.setIfInBounds_toArray, List.set_cons_zero, List.set_cons_succ]
        refine wpAnyH_take (i := 5) (oi := ⟨some 21, _, _, _, _, _⟩) (v := ?_) rfl (by kernel_rfl) (by kernel_rfl) (by kernel_rfl) (fun _ _ _ h => h) (Or.inl ⟨by rfl, ?_⟩) (by assumption) ?_
        rotate_left 1
        · intro w hSw
          try dsimp only at hSw
          go_simp
          try with_reducible rfl
        try simp only [Act.put, List.setIfInBounds_toArray, List.set_cons_zero, List.set_cons_succ]
        refine wpAnyH_take (i := 6) (oi := ⟨some 22, _, _, _, _, _⟩) (v := ?_) rfl (by kernel_rfl) (by kernel_rfl) (by kernel_rfl) (fun _ _ _ h => h) (Or.inl ⟨by rfl, ?_⟩) (by assumption) ?_
        rotate_left 1
        · intro w hSw
          try dsimp only at hSw
          go_simp
          try with_reducible rfl
        try simp only [Act.put, List.setIfInBounds_toArray, List.set_cons_zero, List.set_cons_succ]
        refine wpAnyH_take (i := 7) (oi := ⟨some 23, _, _, _, _, _⟩) (v := .agg (wkA y)) rfl (by kernel_rfl) (by kernel_rfl) (by kernel_rfl) (fun _ _ _ h => h) (yieldsIf_load_mid (by rfl) 67 _ rfl g2 (off2 + k * 7) rfl (wkA y).toList _ (fun w2 hw => hw.2) Tryz.underlying67 rfl (wkld_info)) (by assumption) ?_
        try simp only [Act.put, List.setIfInBounds_toArray, List.set_cons_zero, List.set_cons_succ]
        refine wpAnyH_take (i := 8) (oi := ⟨some 24, _, _, _, _, _⟩) (v := .bool (!eqWk x y)) rfl (by kernel_rfl) (by kernel_rfl) (by kernel_rfl) (fun _ _ _ h => h) (Or.inl ⟨by rfl, fun w2 _ => exec_neWk (x := x) (y := y) _ _ rfl rfl rfl w2⟩) (by assumption) ?_
        try simp only [Act.put, List.setIfInBounds_toArray, List.set_cons_zero, List.set_cons_succ]
        refine wpAnyH_done (by kernel_rfl) ?_ _
        refine NoPanic.normal ?_
        clear hHeld
        rcases he : eqWk x y with _ | _
        · have HN := Lib.hid (eqL_at HX.out HY.out he)
          clear he
          go_wp2_with fail
          go_ret
          exact ⟨ret_bool HN.out.symm, HB.out.drew⟩
        · have HS := Lib.hid (eqRel_snoc HA.out HX.out HY.out he)
          clear he
          go_wp2_with fail
          go_roundw
          case rel => exact ⟨k + 1, by go_num, by omega, HS.out, HB.out.drew⟩
          case measure => simp [intOf]; omega
      · have HN := Lib.hid (eqL_all hl (e := eqWk) (fun j x y a b => HA.out j x y (by have := (List.getElem?_eq_some_iff.1 a).1; omega) a b))
        go_wp2
        go_ret
        exact ⟨ret_bool HN.out.symm, HB.out⟩
  · have HN := Lib.hid (eqL_len (e := eqWk) hl)
    rw [hv1, hv2]
    go_enter Tryz.func47, Tryz.ntmps47
    go_wp2
    go_ret
    exact ⟨ret_bool HN.out.symm, Below.refl _ _⟩
set_option maxRecDepth 100000 in
set_option maxHeartbeats 2000000 in
theorem doeqWk (v1 v2 : Value) (l m : List Wk) (w : World) (h1 : SlAt w v1 l.length (l.flatMap encWk)) (h2 : SlAt w v2 m.length (m.flatMap encWk)) (hn : l.length ≤ 1000000) : Calls Tryz.prog 55 #[v1, v2] w (BoolPost (eqL eqWk l m) w) := by
  obtain ⟨a1, c1, hv1, hc1⟩ := h1.form
  obtain ⟨a2, c2, hv2, hc2⟩ := h2.form
  have H1 := Lib.hid h1
  have H2 := Lib.hid h2
  clear h1 h2
  by_cases hl : l.length = m.length
  · rw [hv1, hv2] at *
    rw [← hl]
    go_enter Tryz.func55, Tryz.ntmps55
    go_wp2
    go_loopw [5] (fun i wr => EqRel eqWk l m w i wr) (fun i _ => l.length - (intOf i).toNat)
    case atStart => exact ⟨0, rfl, Nat.zero_le _, (fun j x y hj => by omega), Below.refl _ _⟩
    case round =>
      obtain ⟨k, rfl, hk, hall, hb⟩ := hrel
      have HB := Lib.hid hb
      have HA := Lib.hid hall
      clear hb hall
      by_cases hlt : k < l.length
      · obtain ⟨x, hx⟩ : ∃ x, l[k]? = some x := ⟨_, List.getElem?_eq_getElem hlt⟩
        obtain ⟨y, hy⟩ : ∃ y, m[k]? = some y := ⟨_, List.getElem?_eq_getElem (by omega)⟩
        obtain ⟨g, off, cp, hs1, -, r1⟩ := SlAt.at H1.out encWk_len (by decide) hx
        obtain ⟨g2, off2, cp2, hs2, -, r2⟩ := SlAt.at H2.out encWk_len (by decide) hy
        cases hs1
        cases hs2
        have HR1 := Lib.hid (show wr.drew.rangeAt g (off + k * 7) (wkA x).toList from fun j u hj => cell_below HB.out (r1 j u hj))
        have HR2 := Lib.hid (show wr.drew.rangeAt g2 (off2 + k * 7) (wkA y).toList from fun j u hj => cell_below HB.out (r2 j u hj))
        have HX := Lib.hid hx
        have HY := Lib.hid hy
        have e0 : (k : Int) < l.length := by omega
        clear r1 r2 hx hy
        go_upto_region 6 with fail
        refine wp_region_noPanic ?_
        refine wp_region_any (by kernel_rfl) ?_
        change wpAny _ _ _ _ _ _ _ (World.drew _)
        refine wpAny_of_held (S := (fun w2 => w2.rangeAt g (off + k * 7) (wkA x).toList ∧ w2.rangeAt g2 (off2 + k * 7) (wkA y).toList)) _ _ _ _ ?_
        have hHeld : (fun w2 => w2.rangeAt g (off + k * 7) (wkA x).toList ∧ w2.rangeAt g2 (off2 + k * 7) (wkA y).toList) wr.drew := ⟨HR1.out, HR2.out⟩
        refine wpAnyH_take (i := 0) (oi := ⟨some 17, _, _, _, _, _⟩) (v := ?_) rfl (by kernel_rfl) (by kernel_rfl) (by kernel_rfl) (fun _ _ _ h => h) (Or.inl ⟨by rfl, ?_⟩) (by assumption) ?_
        rotate_left 1
        · intro w hSw
          try dsimp only at hSw
          go_simp
          try with_reducible rfl
        try simp only [Act.put, List.setIfInBounds_toArray, List.set_cons_zero, List.set_cons_succ]
        refine wpAnyH_take (i := 1) (oi := ⟨some 18, _, _, _, _, _⟩) (v := ?_) rfl (by kernel_rfl) (by kernel_rfl) (by kernel_rfl) (fun _ _ _ h => h) (Or.inl ⟨by rfl, ?_⟩) (by assumption) ?_
        rotate_left 1
        · intro w hSw
          try dsimp only at hSw
          go_simp
          try with_reducible rfl
        try simp only [Act.put, List.setIfInBounds_toArray, List.set_cons_zero, List.set_cons_succ]
        refine wpAnyH_take (i := 2) (oi := ⟨some 19, _, _, _, _, _⟩) (v := ?_) rfl (by kernel_rfl) (by kernel_rfl) (by kernel_rfl) (fun _ _ _ h => h) (Or.inl ⟨by rfl, ?_⟩) (by assumption) ?_
        rotate_left 1
        · intro w hSw
          try dsimp only at hSw
          go_simp
          try with_reducible rfl
        try simp only [Act.put, List.setIfInBounds_toArray, List.set_cons_zero, List.set_cons_succ]
        refine wpAnyH_take (i := 3) (oi := ⟨some 20, _, _, _, _, _⟩) (v := .agg (wkA x)) rfl (by kernel_rfl) (by kernel_rfl) (by kernel_rfl) (fun _ _ _ h => h) (yieldsIf_load_mid (by rfl) 67 _ rfl g (off + k * 7) rfl (wkA x).toList _ (fun w2 hw => hw.1) Tryz.underlying67 rfl (wkld_info)) (by assumption) ?_
        try simp only [Act.put, List.setIfInBounds_toArray, List.set_cons_zero, List.set_cons_succ]
        refine wpAnyH_take (i := 4) (oi := ⟨some 21, _, _, _, _, _⟩) (v := ?_) rfl (by kernel_rfl) (by kernel_rfl) (by kernel_rfl) (fun _ _ _ h => h) (Or.inl ⟨by rfl, ?_⟩) (by assumption) ?_
        rotate_left 1
        · intro w hSw
          try dsimp only at hSw
          go_simp
          try with_reducible rfl
        try simp only [Act.put, List.setIfInBounds_toArray, List.set_cons_zero, List.set_cons_succ]
        refine wpAnyH_take (i := 5) (oi := ⟨some 22, _, _, _, _, _⟩) (v := ?_) rfl (by kernel_rfl) (by kernel_rfl) (by kernel_rfl) (fun _ _ _ h => h) (Or.inl ⟨by rfl, ?_⟩) (by assumption) ?_
        rotate_left 1
        · intro w hSw
          try dsimp only at hSw
          go_simp
          try with_reducible rfl
        try simp only [Act.put, List.setIfInBounds_toArray, List.set_cons_zero, List.set_cons_succ]
        refine wpAnyH_take (i := 6) (oi := ⟨some 23, _, _, _, _, _⟩) (v := ?_) rfl (by kernel_rfl) (by kernel_rfl) (by kernel_rfl) (fun _ _ _ h => h) (Or.inl ⟨by rfl, ?_⟩) (by assumption) ?_
        rotate_left 1
        · intro w hSw
          try dsimp only at hSw
          go_simp
          try with_reducible rfl
        try simp only [Act.put, List.setIfInBounds_toArray, List.set_cons_zero, List.set_cons_succ]
        refine wpAnyH_take (i := 7) (oi := ⟨some 24, _, _, _, _, _⟩) (v := .agg (wkA y)) rfl (by kernel_rfl) (by kernel_rfl) (by kernel_rfl) (fun _ _ _ h => h) (yieldsIf_load_mid (by rfl) 67 _ rfl g2 (off2 + k * 7) rfl (wkA y).toList _ (fun w2 hw => hw.2) Tryz.underlying67 rfl (wkld_info)) (by assumption) ?_
        try simp only [Act.put, List.setIfInBounds_toArray, List.set_cons_zero, List.set_cons_succ]
        refine wpAnyH_take (i := 8) (oi := ⟨some 25, _, _, _, _, _⟩) (v := .bool (!eqWk x y)) rfl (by kernel_rfl) (by kernel_rfl) (by kernel_rfl) (fun _ _ _ h => h) (Or.inl ⟨by rfl, fun w2 _ => exec_neWk (x := x) (y := y) _ _ rfl rfl rfl w2⟩) (by assumption) ?_
        try simp only [Act.put, List.setIfInBounds_toArray, List.set_cons_zero, List.set_cons_succ]
        refine wpAnyH_done (by kernel_rfl) ?_ _
        refine NoPanic.normal ?_
        clear hHeld
        rcases he : eqWk x y with _ | _
        · have HN := Lib.hid (eqL_at HX.out HY.out he)
          clear he
          go_wp2_with fail
          go_ret
          exact ⟨ret_bool HN.out.symm, HB.out.drew⟩
        · have HS := Lib.hid (eqRel_snoc HA.out HX.out HY.out he)
          clear he
          go_wp2_with fail
          go_roundw
          case rel => exact ⟨k + 1, by go_num, by omega, HS.out, HB.out.drew⟩
          case measure => simp [intOf]; omega
      · have HN := Lib.hid (eqL_all hl (e := eqWk) (fun j x y a b => HA.out j x y (by have := (List.getElem?_eq_some_iff.1 a).1; omega) a b))
        go_wp2
        go_ret
        exact ⟨ret_bool HN.out.symm, HB.out⟩
  · have HN := Lib.hid (eqL_len (e := eqWk) hl)
    rw [hv1, hv2]
    go_enter Tryz.func55, Tryz.ntmps55
    go_wp2
    go_ret
    exact ⟨ret_bool HN.out.symm, Below.refl _ _⟩
def encIv (x : Ivn) : List Value := (ivC x).toList
theorem encIv_len (x : Ivn) : (encIv x).length = 5 := rfl
set_option maxRecDepth 100000 in
set_option maxHeartbeats 2000000 in
theorem sleqIv (v1 v2 : Value) (l m : List Ivn) (w : World) (h1 : SlAt w v1 l.length (l.flatMap encIv)) (h2 : SlAt w v2 m.length (m.flatMap encIv)) (hn : l.length ≤ 1000000) : Calls Tryz.prog 48 #[v1, v2] w (BoolPost (eqL eqIv l m) w) := by
  obtain ⟨a1, c1, hv1, hc1⟩ := h1.form
  obtain ⟨a2, c2, hv2, hc2⟩ := h2.form
  have H1 := Lib.hid h1
  have H2 := Lib.hid h2
  clear h1 h2
  by_cases hl : l.length = m.length
  · rw [hv1, hv2] at *
    rw [← hl]
    go_enter Tryz.func48, Tryz.ntmps48
    go_wp2
    go_loopw [13] (fun i wr => EqRel eqIv l m w i wr) (fun i _ => l.length - (intOf i).toNat)
    case atStart => exact ⟨0, rfl, Nat.zero_le _, (fun j x y hj => by omega), Below.refl _ _⟩
    case round =>
      obtain ⟨k, rfl, hk, hall, hb⟩ := hrel
      have HB := Lib.hid hb
      have HA := Lib.hid hall
      clear hb hall
      by_cases hlt : k < l.length
      · obtain ⟨x, hx⟩ : ∃ x, l[k]? = some x := ⟨_, List.getElem?_eq_getElem hlt⟩
        obtain ⟨y, hy⟩ : ∃ y, m[k]? = some y := ⟨_, List.getElem?_eq_getElem (by omega)⟩
        obtain ⟨g, off, cp, hs1, -, r1⟩ := SlAt.at H1.out encIv_len (by decide) hx
        obtain ⟨g2, off2, cp2, hs2, -, r2⟩ := SlAt.at H2.out encIv_len (by decide) hy
        cases hs1
        cases hs2
        have HR1 := Lib.hid (show wr.drew.rangeAt g (off + k * 5) (ivC x).toList from fun j u hj => cell_below HB.out (r1 j u hj))
        have HR2 := Lib.hid (show wr.drew.rangeAt g2 (off2 + k * 5) (ivC y).toList from fun j u hj => cell_below HB.out (r2 j u hj))
        have HX := Lib.hid hx
        have HY := Lib.hid hy
        have e0 : (k : Int) < l.length := by omega
        clear r1 r2 hx hy
        go_upto_region 6 with fail
        refine wp_region_noPanic ?_
        refine wp_region_any (by kernel_rfl) ?_
        change wpAny _ _ _ _ _ _ _ (World.drew _)
        refine wpAny_of_held (S := (fun w2 => w2.rangeAt g (off + k * 5) (ivC x).toList ∧ w2.rangeAt g2 (off2 + k * 5) (ivC y).toList)) _ _ _ _ ?_
        have hHeld : (fun w2 => w2.rangeAt g (off + k * 5) (ivC x).toList ∧ w2.rangeAt g2 (off2 + k * 5) (ivC y).toList) wr.drew := ⟨HR1.out, HR2.out⟩
        refine wpAnyH_take (i := 0) (oi := ⟨some 16, _, _, _, _, _⟩) (v := ?_) rfl (by kernel_rfl) (by kernel_rfl) (by kernel_rfl) (fun _ _ _ h => h) (Or.inl ⟨by rfl, ?_⟩) (by assumption) ?_
        rotate_left 1
        · intro w hSw
          try dsimp only at hSw
          go_simp
          try with_reducible rfl
        try simp only [Act.put, List.setIfInBounds_toArray, List.set_cons_zero, List.set_cons_succ]
        refine wpAnyH_take (i := 1) (oi := ⟨some 17, _, _, _, _, _⟩) (v := ?_) rfl (by kernel_rfl) (by kernel_rfl) (by kernel_rfl) (fun _ _ _ h => h) (Or.inl ⟨by rfl, ?_⟩) (by assumption) ?_
        rotate_left 1
        · intro w hSw
          try dsimp only at hSw
          go_simp
          try with_reducible rfl
        try simp only [Act.put, List.setIfInBounds_toArray, List.set_cons_zero, List.set_cons_succ]
        refine wpAnyH_take (i := 2) (oi := ⟨some 18, _, _, _, _, _⟩) (v := ?_) rfl (by kernel_rfl) (by kernel_rfl) (by kernel_rfl) (fun _ _ _ h => h) (Or.inl ⟨by rfl, ?_⟩) (by assumption) ?_
        rotate_left 1
        · intro w hSw
          try dsimp only at hSw
          go_simp
          try with_reducible rfl
        try simp only [Act.put, List.setIfInBounds_toArray, List.set_cons_zero, List.set_cons_succ]
        refine wpAnyH_take (i := 3) (oi := ⟨some 19, _, _, _, _, _⟩) (v := .agg (ivC x)) rfl (by kernel_rfl) (by kernel_rfl) (by kernel_rfl) (fun _ _ _ h => h) (yieldsIf_load_mid (by rfl) 49 _ rfl g (off + k * 5) rfl (ivC x).toList _ (fun w2 hw => hw.1) Tryz.underlying49 rfl (iv_info)) (by assumption) ?_
        try simp only [Act.put, List.setIfInBounds_toArray, List.set_cons_zero, List.set_cons_succ]
        refine wpAnyH_take (i := 4) (oi := ⟨some 20, _, _, _, _, _⟩) (v := ?_) rfl (by kernel_rfl) (by kernel_rfl) (by kernel_rfl) (fun _ _ _ h => h) (Or.inl ⟨by rfl, ?_⟩) (by assumption) ?_
        rotate_left 1
        · intro w hSw
          try dsimp only at hSw
          go_simp
          try with_reducible rfl
        try simp only [Act.put, List.setIfInBounds_toArray, List.set_cons_zero, List.set_cons_succ]
        refine wpAnyH_take (i := 5) (oi := ⟨some 21, _, _, _, _, _⟩) (v := ?_) rfl (by kernel_rfl) (by kernel_rfl) (by kernel_rfl) (fun _ _ _ h => h) (Or.inl ⟨by rfl, ?_⟩) (by assumption) ?_
        rotate_left 1
        · intro w hSw
          try dsimp only at hSw
          go_simp
          try with_reducible rfl
        try simp only [Act.put, List.setIfInBounds_toArray, List.set_cons_zero, List.set_cons_succ]
        refine wpAnyH_take (i := 6) (oi := ⟨some 22, _, _, _, _, _⟩) (v := ?_) rfl (by kernel_rfl) (by kernel_rfl) (by kernel_rfl) (fun _ _ _ h => h) (Or.inl ⟨by rfl, ?_⟩) (by assumption) ?_
        rotate_left 1
        · intro w hSw
          try dsimp only at hSw
          go_simp
          try with_reducible rfl
        try simp only [Act.put, List.setIfInBounds_toArray, List.set_cons_zero, List.set_cons_succ]
        refine wpAnyH_take (i := 7) (oi := ⟨some 23, _, _, _, _, _⟩) (v := .agg (ivC y)) rfl (by kernel_rfl) (by kernel_rfl) (by kernel_rfl) (fun _ _ _ h => h) (yieldsIf_load_mid (by rfl) 49 _ rfl g2 (off2 + k * 5) rfl (ivC y).toList _ (fun w2 hw => hw.2) Tryz.underlying49 rfl (iv_info)) (by assumption) ?_
        try simp only [Act.put, List.setIfInBounds_toArray, List.set_cons_zero, List.set_cons_succ]
        refine wpAnyH_take (i := 8) (oi := ⟨some 24, _, _, _, _, _⟩) (v := .bool (!eqIv x y)) rfl (by kernel_rfl) (by kernel_rfl) (by kernel_rfl) (fun _ _ _ h => h) (Or.inl ⟨by rfl, fun w2 _ => exec_neIv (x := x) (y := y) _ _ rfl rfl rfl w2⟩) (by assumption) ?_
        try simp only [Act.put, List.setIfInBounds_toArray, List.set_cons_zero, List.set_cons_succ]
        refine wpAnyH_done (by kernel_rfl) ?_ _
        refine NoPanic.normal ?_
        clear hHeld
        rcases he : eqIv x y with _ | _
        · have HN := Lib.hid (eqL_at HX.out HY.out he)
          clear he
          go_wp2_with fail
          go_ret
          exact ⟨ret_bool HN.out.symm, HB.out.drew⟩
        · have HS := Lib.hid (eqRel_snoc HA.out HX.out HY.out he)
          clear he
          go_wp2_with fail
          go_roundw
          case rel => exact ⟨k + 1, by go_num, by omega, HS.out, HB.out.drew⟩
          case measure => simp [intOf]; omega
      · have HN := Lib.hid (eqL_all hl (e := eqIv) (fun j x y a b => HA.out j x y (by have := (List.getElem?_eq_some_iff.1 a).1; omega) a b))
        go_wp2
        go_ret
        exact ⟨ret_bool HN.out.symm, HB.out⟩
  · have HN := Lib.hid (eqL_len (e := eqIv) hl)
    rw [hv1, hv2]
    go_enter Tryz.func48, Tryz.ntmps48
    go_wp2
    go_ret
    exact ⟨ret_bool HN.out.symm, Below.refl _ _⟩
set_option maxRecDepth 100000 in
set_option maxHeartbeats 2000000 in
theorem doeqIv (v1 v2 : Value) (l m : List Ivn) (w : World) (h1 : SlAt w v1 l.length (l.flatMap encIv)) (h2 : SlAt w v2 m.length (m.flatMap encIv)) (hn : l.length ≤ 1000000) : Calls Tryz.prog 56 #[v1, v2] w (BoolPost (eqL eqIv l m) w) := by
  obtain ⟨a1, c1, hv1, hc1⟩ := h1.form
  obtain ⟨a2, c2, hv2, hc2⟩ := h2.form
  have H1 := Lib.hid h1
  have H2 := Lib.hid h2
  clear h1 h2
  by_cases hl : l.length = m.length
  · rw [hv1, hv2] at *
    rw [← hl]
    go_enter Tryz.func56, Tryz.ntmps56
    go_wp2
    go_loopw [5] (fun i wr => EqRel eqIv l m w i wr) (fun i _ => l.length - (intOf i).toNat)
    case atStart => exact ⟨0, rfl, Nat.zero_le _, (fun j x y hj => by omega), Below.refl _ _⟩
    case round =>
      obtain ⟨k, rfl, hk, hall, hb⟩ := hrel
      have HB := Lib.hid hb
      have HA := Lib.hid hall
      clear hb hall
      by_cases hlt : k < l.length
      · obtain ⟨x, hx⟩ : ∃ x, l[k]? = some x := ⟨_, List.getElem?_eq_getElem hlt⟩
        obtain ⟨y, hy⟩ : ∃ y, m[k]? = some y := ⟨_, List.getElem?_eq_getElem (by omega)⟩
        obtain ⟨g, off, cp, hs1, -, r1⟩ := SlAt.at H1.out encIv_len (by decide) hx
        obtain ⟨g2, off2, cp2, hs2, -, r2⟩ := SlAt.at H2.out encIv_len (by decide) hy
        cases hs1
        cases hs2
        have HR1 := Lib.hid (show wr.drew.rangeAt g (off + k * 5) (ivC x).toList from fun j u hj => cell_below HB.out (r1 j u hj))
        have HR2 := Lib.hid (show wr.drew.rangeAt g2 (off2 + k * 5) (ivC y).toList from fun j u hj => cell_below HB.out (r2 j u hj))
        have HX := Lib.hid hx
        have HY := Lib.hid hy
        have e0 : (k : Int) < l.length := by omega
        clear r1 r2 hx hy
        go_upto_region 6 with fail
        refine wp_region_noPanic ?_
        refine wp_region_any (by kernel_rfl) ?_
        change wpAny _ _ _ _ _ _ _ (World.drew _)
        refine wpAny_of_held (S := (fun w2 => w2.rangeAt g (off + k * 5) (ivC x).toList ∧ w2.rangeAt g2 (off2 + k * 5) (ivC y).toList)) _ _ _ _ ?_
        have hHeld : (fun w2 => w2.rangeAt g (off + k * 5) (ivC x).toList ∧ w2.rangeAt g2 (off2 + k * 5) (ivC y).toList) wr.drew := ⟨HR1.out, HR2.out⟩
        refine wpAnyH_take (i := 0) (oi := ⟨some 17, _, _, _, _, _⟩) (v := ?_) rfl (by kernel_rfl) (by kernel_rfl) (by kernel_rfl) (fun _ _ _ h => h) (Or.inl ⟨by rfl, ?_⟩) (by assumption) ?_
        rotate_left 1
        · intro w hSw
          try dsimp only at hSw
          go_simp
          try with_reducible rfl
        try simp only [Act.put, List.setIfInBounds_toArray, List.set_cons_zero, List.set_cons_succ]
        refine wpAnyH_take (i := 1) (oi := ⟨some 18, _, _, _, _, _⟩) (v := ?_) rfl (by kernel_rfl) (by kernel_rfl) (by kernel_rfl) (fun _ _ _ h => h) (Or.inl ⟨by rfl, ?_⟩) (by assumption) ?_
        rotate_left 1
        · intro w hSw
          try dsimp only at hSw
          go_simp
          try with_reducible rfl
        try simp only [Act.put, List.setIfInBounds_toArray, List.set_cons_zero, List.set_cons_succ]
        refine wpAnyH_take (i := 2) (oi := ⟨some 19, _, _, _, _, _⟩) (v := ?_) rfl (by kernel_rfl) (by kernel_rfl) (by kernel_rfl) (fun _ _ _ h => h) (Or.inl ⟨by rfl, ?_⟩) (by assumption) ?_
        rotate_left 1
        · intro w hSw
          try dsimp only at hSw
          go_simp
          try with_reducible rfl
        try simp only [Act.put, List.setIfInBounds_toArray, List.set_cons_zero, List.set_cons_succ]
        refine wpAnyH_take (i := 3) (oi := ⟨some 20, _, _, _, _, _⟩) (v := .agg (ivC x)) rfl (by kernel_rfl) (by kernel_rfl) (by kernel_rfl) (fun _ _ _ h => h) (yieldsIf_load_mid (by rfl) 49 _ rfl g (off + k * 5) rfl (ivC x).toList _ (fun w2 hw => hw.1) Tryz.underlying49 rfl (iv_info)) (by assumption) ?_
        try simp only [Act.put, List.setIfInBounds_toArray, List.set_cons_zero, List.set_cons_succ]
        refine wpAnyH_take (i := 4) (oi := ⟨some 21, _, _, _, _, _⟩) (v := ?_) rfl (by kernel_rfl) (by kernel_rfl) (by kernel_rfl) (fun _ _ _ h => h) (Or.inl ⟨by rfl, ?_⟩) (by assumption) ?_
        rotate_left 1
        · intro w hSw
          try dsimp only at hSw
          go_simp
          try with_reducible rfl
        try simp only [Act.put, List.setIfInBounds_toArray, List.set_cons_zero, List.set_cons_succ]
        refine wpAnyH_take (i := 5) (oi := ⟨some 22, _, _, _, _, _⟩) (v := ?_) rfl (by kernel_rfl) (by kernel_rfl) (by kernel_rfl) (fun _ _ _ h => h) (Or.inl ⟨by rfl, ?_⟩) (by assumption) ?_
        rotate_left 1
        · intro w hSw
          try dsimp only at hSw
          go_simp
          try with_reducible rfl
        try simp only [Act.put, List.setIfInBounds_toArray, List.set_cons_zero, List.set_cons_succ]
        refine wpAnyH_take (i := 6) (oi := ⟨some 23, _, _, _, _, _⟩) (v := ?_) rfl (by kernel_rfl) (by kernel_rfl) (by kernel_rfl) (fun _ _ _ h => h) (Or.inl ⟨by rfl, ?_⟩) (by assumption) ?_
        rotate_left 1
        · intro w hSw
          try dsimp only at hSw
          go_simp
          try with_reducible rfl
        try simp only [Act.put, List.setIfInBounds_toArray, List.set_cons_zero, List.set_cons_succ]
        refine wpAnyH_take (i := 7) (oi := ⟨some 24, _, _, _, _, _⟩) (v := .agg (ivC y)) rfl (by kernel_rfl) (by kernel_rfl) (by kernel_rfl) (fun _ _ _ h => h) (yieldsIf_load_mid (by rfl) 49 _ rfl g2 (off2 + k * 5) rfl (ivC y).toList _ (fun w2 hw => hw.2) Tryz.underlying49 rfl (iv_info)) (by assumption) ?_
        try simp only [Act.put, List.setIfInBounds_toArray, List.set_cons_zero, List.set_cons_succ]
        refine wpAnyH_take (i := 8) (oi := ⟨some 25, _, _, _, _, _⟩) (v := .bool (!eqIv x y)) rfl (by kernel_rfl) (by kernel_rfl) (by kernel_rfl) (fun _ _ _ h => h) (Or.inl ⟨by rfl, fun w2 _ => exec_neIv (x := x) (y := y) _ _ rfl rfl rfl w2⟩) (by assumption) ?_
        try simp only [Act.put, List.setIfInBounds_toArray, List.set_cons_zero, List.set_cons_succ]
        refine wpAnyH_done (by kernel_rfl) ?_ _
        refine NoPanic.normal ?_
        clear hHeld
        rcases he : eqIv x y with _ | _
        · have HN := Lib.hid (eqL_at HX.out HY.out he)
          clear he
          go_wp2_with fail
          go_ret
          exact ⟨ret_bool HN.out.symm, HB.out.drew⟩
        · have HS := Lib.hid (eqRel_snoc HA.out HX.out HY.out he)
          clear he
          go_wp2_with fail
          go_roundw
          case rel => exact ⟨k + 1, by go_num, by omega, HS.out, HB.out.drew⟩
          case measure => simp [intOf]; omega
      · have HN := Lib.hid (eqL_all hl (e := eqIv) (fun j x y a b => HA.out j x y (by have := (List.getElem?_eq_some_iff.1 a).1; omega) a b))
        go_wp2
        go_ret
        exact ⟨ret_bool HN.out.symm, HB.out⟩
  · have HN := Lib.hid (eqL_len (e := eqIv) hl)
    rw [hv1, hv2]
    go_enter Tryz.func56, Tryz.ntmps56
    go_wp2
    go_ret
    exact ⟨ret_bool HN.out.symm, Below.refl _ _⟩
def encLt (x : Lt) : List Value := (ltA x).toList
theorem encLt_len (x : Lt) : (encLt x).length = 6 := rfl
set_option maxRecDepth 100000 in
set_option maxHeartbeats 2000000 in
theorem sleqLt (v1 v2 : Value) (l m : List Lt) (w : World) (h1 : SlAt w v1 l.length (l.flatMap encLt)) (h2 : SlAt w v2 m.length (m.flatMap encLt)) (hn : l.length ≤ 1000000) : Calls Tryz.prog 50 #[v1, v2] w (BoolPost (eqL eqLt l m) w) := by
  obtain ⟨a1, c1, hv1, hc1⟩ := h1.form
  obtain ⟨a2, c2, hv2, hc2⟩ := h2.form
  have H1 := Lib.hid h1
  have H2 := Lib.hid h2
  clear h1 h2
  by_cases hl : l.length = m.length
  · rw [hv1, hv2] at *
    rw [← hl]
    go_enter Tryz.func50, Tryz.ntmps50
    go_wp2
    go_loopw [13] (fun i wr => EqRel eqLt l m w i wr) (fun i _ => l.length - (intOf i).toNat)
    case atStart => exact ⟨0, rfl, Nat.zero_le _, (fun j x y hj => by omega), Below.refl _ _⟩
    case round =>
      obtain ⟨k, rfl, hk, hall, hb⟩ := hrel
      have HB := Lib.hid hb
      have HA := Lib.hid hall
      clear hb hall
      by_cases hlt : k < l.length
      · obtain ⟨x, hx⟩ : ∃ x, l[k]? = some x := ⟨_, List.getElem?_eq_getElem hlt⟩
        obtain ⟨y, hy⟩ : ∃ y, m[k]? = some y := ⟨_, List.getElem?_eq_getElem (by omega)⟩
        obtain ⟨g, off, cp, hs1, -, r1⟩ := SlAt.at H1.out encLt_len (by decide) hx
        obtain ⟨g2, off2, cp2, hs2, -, r2⟩ := SlAt.at H2.out encLt_len (by decide) hy
        cases hs1
        cases hs2
        have HR1 := Lib.hid (show wr.drew.rangeAt g (off + k * 6) (ltA x).toList from fun j u hj => cell_below HB.out (r1 j u hj))
        have HR2 := Lib.hid (show wr.drew.rangeAt g2 (off2 + k * 6) (ltA y).toList from fun j u hj => cell_below HB.out (r2 j u hj))
        have HX := Lib.hid hx
        have HY := Lib.hid hy
        have e0 : (k : Int) < l.length := by omega
        clear r1 r2 hx hy
        go_upto_region 6 with fail
        refine wp_region_noPanic ?_
        refine wp_region_any (by kernel_rfl) ?_
        change wpAny _ _ _ _ _ _ _ (World.drew _)
        refine wpAny_of_held (S := (fun w2 => w2.rangeAt g (off + k * 6) (ltA x).toList ∧ w2.rangeAt g2 (off2 + k * 6) (ltA y).toList)) _ _ _ _ ?_
        have hHeld : (fun w2 => w2.rangeAt g (off + k * 6) (ltA x).toList ∧ w2.rangeAt g2 (off2 + k * 6) (ltA y).toList) wr.drew := ⟨HR1.out, HR2.out⟩
        refine wpAnyH_take (i := 0) (oi := ⟨some 16, _, _, _, _, _⟩) (v := ?_) rfl (by kernel_rfl) (by kernel_rfl) (by kernel_rfl) (fun _ _ _ h => h) (Or.inl ⟨by rfl, ?_⟩) (by assumption) ?_
        rotate_left 1
        · intro w hSw
          try dsimp only at hSw
          go_simp
          try with_reducible rfl
        try simp only [Act.put, List.setIfInBounds_toArray, List.set_cons_zero, List.set_cons_succ]
        refine wpAnyH_take (i := 1) (oi := ⟨some 17, _, _, _, _, _⟩) (v := ?_) rfl (by kernel_rfl) (by kernel_rfl) (by kernel_rfl) (fun _ _ _ h => h) (Or.inl ⟨by rfl, ?_⟩) (by assumption) ?_
        rotate_left 1
        · intro w hSw
          try dsimp only at hSw
          go_simp
          try with_reducible rfl
        try simp only [Act.put, List.setIfInBounds_toArray, List.set_cons_zero, List.set_cons_succ]
        refine wpAnyH_take (i := 2) (oi := ⟨some 18, _, _, _, _, _⟩) (v := ?_) rfl (by kernel_rfl) (by kernel_rfl) (by kernel_rfl) (fun _ _ _ h => h) (Or.inl ⟨by rfl, ?_⟩) (by assumption) ?_
        rotate_left 1
        · intro w hSw
          try dsimp only at hSw
          go_simp
          try with_reducible rfl
        try simp only [Act.put, List.setIfInBounds_toArray, List.set_cons_zero, List.set_cons_succ]
        refine wpAnyH_take (i := 3) (oi := ⟨some 19, _, _, _, _, _⟩) (v := .agg (ltA x)) rfl (by kernel_rfl) (by kernel_rfl) (by kernel_rfl) (fun _ _ _ h => h) (yieldsIf_load_mid (by rfl) 90 _ rfl g (off + k * 6) rfl (ltA x).toList _ (fun w2 hw => hw.1) Tryz.underlying90 rfl (lt_info)) (by assumption) ?_
        try simp only [Act.put, List.setIfInBounds_toArray, List.set_cons_zero, List.set_cons_succ]
        refine wpAnyH_take (i := 4) (oi := ⟨some 20, _, _, _, _, _⟩) (v := ?_) rfl (by kernel_rfl) (by kernel_rfl) (by kernel_rfl) (fun _ _ _ h => h) (Or.inl ⟨by rfl, ?_⟩) (by assumption) ?_
        rotate_left 1
        · intro w hSw
          try dsimp only at hSw
          go_simp
          try with_reducible rfl
        try simp only [Act.put, List.setIfInBounds_toArray, List.set_cons_zero, List.set_cons_succ]
        refine wpAnyH_take (i := 5) (oi := ⟨some 21, _, _, _, _, _⟩) (v := ?_) rfl (by kernel_rfl) (by kernel_rfl) (by kernel_rfl) (fun _ _ _ h => h) (Or.inl ⟨by rfl, ?_⟩) (by assumption) ?_
        rotate_left 1
        · intro w hSw
          try dsimp only at hSw
          go_simp
          try with_reducible rfl
        try simp only [Act.put, List.setIfInBounds_toArray, List.set_cons_zero, List.set_cons_succ]
        refine wpAnyH_take (i := 6) (oi := ⟨some 22, _, _, _, _, _⟩) (v := ?_) rfl (by kernel_rfl) (by kernel_rfl) (by kernel_rfl) (fun _ _ _ h => h) (Or.inl ⟨by rfl, ?_⟩) (by assumption) ?_
        rotate_left 1
        · intro w hSw
          try dsimp only at hSw
          go_simp
          try with_reducible rfl
        try simp only [Act.put, List.setIfInBounds_toArray, List.set_cons_zero, List.set_cons_succ]
        refine wpAnyH_take (i := 7) (oi := ⟨some 23, _, _, _, _, _⟩) (v := .agg (ltA y)) rfl (by kernel_rfl) (by kernel_rfl) (by kernel_rfl) (fun _ _ _ h => h) (yieldsIf_load_mid (by rfl) 90 _ rfl g2 (off2 + k * 6) rfl (ltA y).toList _ (fun w2 hw => hw.2) Tryz.underlying90 rfl (lt_info)) (by assumption) ?_
        try simp only [Act.put, List.setIfInBounds_toArray, List.set_cons_zero, List.set_cons_succ]
        refine wpAnyH_take (i := 8) (oi := ⟨some 24, _, _, _, _, _⟩) (v := .bool (!eqLt x y)) rfl (by kernel_rfl) (by kernel_rfl) (by kernel_rfl) (fun _ _ _ h => h) (Or.inl ⟨by rfl, fun w2 _ => exec_neLt (x := x) (y := y) _ _ rfl rfl rfl w2⟩) (by assumption) ?_
        try simp only [Act.put, List.setIfInBounds_toArray, List.set_cons_zero, List.set_cons_succ]
        refine wpAnyH_done (by kernel_rfl) ?_ _
        refine NoPanic.normal ?_
        clear hHeld
        rcases he : eqLt x y with _ | _
        · have HN := Lib.hid (eqL_at HX.out HY.out he)
          clear he
          go_wp2_with fail
          go_ret
          exact ⟨ret_bool HN.out.symm, HB.out.drew⟩
        · have HS := Lib.hid (eqRel_snoc HA.out HX.out HY.out he)
          clear he
          go_wp2_with fail
          go_roundw
          case rel => exact ⟨k + 1, by go_num, by omega, HS.out, HB.out.drew⟩
          case measure => simp [intOf]; omega
      · have HN := Lib.hid (eqL_all hl (e := eqLt) (fun j x y a b => HA.out j x y (by have := (List.getElem?_eq_some_iff.1 a).1; omega) a b))
        go_wp2
        go_ret
        exact ⟨ret_bool HN.out.symm, HB.out⟩
  · have HN := Lib.hid (eqL_len (e := eqLt) hl)
    rw [hv1, hv2]
    go_enter Tryz.func50, Tryz.ntmps50
    go_wp2
    go_ret
    exact ⟨ret_bool HN.out.symm, Below.refl _ _⟩
set_option maxRecDepth 100000 in
set_option maxHeartbeats 2000000 in
theorem doeqLt (v1 v2 : Value) (l m : List Lt) (w : World) (h1 : SlAt w v1 l.length (l.flatMap encLt)) (h2 : SlAt w v2 m.length (m.flatMap encLt)) (hn : l.length ≤ 1000000) : Calls Tryz.prog 58 #[v1, v2] w (BoolPost (eqL eqLt l m) w) := by
  obtain ⟨a1, c1, hv1, hc1⟩ := h1.form
  obtain ⟨a2, c2, hv2, hc2⟩ := h2.form
  have H1 := Lib.hid h1
  have H2 := Lib.hid h2
  clear h1 h2
  by_cases hl : l.length = m.length
  · rw [hv1, hv2] at *
    rw [← hl]
    go_enter Tryz.func58, Tryz.ntmps58
    go_wp2
    go_loopw [5] (fun i wr => EqRel eqLt l m w i wr) (fun i _ => l.length - (intOf i).toNat)
    case atStart => exact ⟨0, rfl, Nat.zero_le _, (fun j x y hj => by omega), Below.refl _ _⟩
    case round =>
      obtain ⟨k, rfl, hk, hall, hb⟩ := hrel
      have HB := Lib.hid hb
      have HA := Lib.hid hall
      clear hb hall
      by_cases hlt : k < l.length
      · obtain ⟨x, hx⟩ : ∃ x, l[k]? = some x := ⟨_, List.getElem?_eq_getElem hlt⟩
        obtain ⟨y, hy⟩ : ∃ y, m[k]? = some y := ⟨_, List.getElem?_eq_getElem (by omega)⟩
        obtain ⟨g, off, cp, hs1, -, r1⟩ := SlAt.at H1.out encLt_len (by decide) hx
        obtain ⟨g2, off2, cp2, hs2, -, r2⟩ := SlAt.at H2.out encLt_len (by decide) hy
        cases hs1
        cases hs2
        have HR1 := Lib.hid (show wr.drew.rangeAt g (off + k * 6) (ltA x).toList from fun j u hj => cell_below HB.out (r1 j u hj))
        have HR2 := Lib.hid (show wr.drew.rangeAt g2 (off2 + k * 6) (ltA y).toList from fun j u hj => cell_below HB.out (r2 j u hj))
        have HX := Lib.hid hx
        have HY := Lib.hid hy
        have e0 : (k : Int) < l.length := by omega
        clear r1 r2 hx hy
        go_upto_region 6 with fail
        refine wp_region_noPanic ?_
        refine wp_region_any (by kernel_rfl) ?_
        change wpAny _ _ _ _ _ _ _ (World.drew _)
        refine wpAny_of_held (S := (fun w2 => w2.rangeAt g (off + k * 6) (ltA x).toList ∧ w2.rangeAt g2 (off2 + k * 6) (ltA y).toList)) _ _ _ _ ?_
        have hHeld : (fun w2 => w2.rangeAt g (off + k * 6) (ltA x).toList ∧ w2.rangeAt g2 (off2 + k * 6) (ltA y).toList) wr.drew := ⟨HR1.out, HR2.out⟩
        refine wpAnyH_take (i := 0) (oi := ⟨some 17, _, _, _, _, _⟩) (v := ?_) rfl (by kernel_rfl) (by kernel_rfl) (by kernel_rfl) (fun _ _ _ h => h) (Or.inl ⟨by rfl, ?_⟩) (by assumption) ?_
        rotate_left 1
        · intro w hSw
          try dsimp only at hSw
          go_simp
          try with_reducible rfl
        try simp only [Act.put, List.setIfInBounds_toArray, List.set_cons_zero, List.set_cons_succ]
        refine wpAnyH_take (i := 1) (oi := ⟨some 18, _, _, _, _, _⟩) (v := ?_) rfl (by kernel_rfl) (by kernel_rfl) (by kernel_rfl) (fun _ _ _ h => h) (Or.inl ⟨by rfl, ?_⟩) (by assumption) ?_
        rotate_left 1
        · intro w hSw
          try dsimp only at hSw
          go_simp
          try with_reducible rfl
        try simp only [Act.put, List.setIfInBounds_toArray, List.set_cons_zero, List.set_cons_succ]
        refine wpAnyH_take (i := 2) (oi := ⟨some 19, _, _, _, _, _⟩) (v := ?_) rfl (by kernel_rfl) (by kernel_rfl) (by kernel_rfl) (fun _ _ _ h => h) (Or.inl ⟨by rfl, ?_⟩) (by assumption) ?_
        rotate_left 1
        · intro w hSw
          try dsimp only at hSw
          go_simp
          try with_reducible rfl
        try simp only [Act.put, List.setIfInBounds_toArray, List.set_cons_zero, List.set_cons_succ]
        refine wpAnyH_take (i := 3) (oi := ⟨some 20, _, _, _, _, _⟩) (v := .agg (ltA x)) rfl (by kernel_rfl) (by kernel_rfl) (by kernel_rfl) (fun _ _ _ h => h) (yieldsIf_load_mid (by rfl) 90 _ rfl g (off + k * 6) rfl (ltA x).toList _ (fun w2 hw => hw.1) Tryz.underlying90 rfl (lt_info)) (by assumption) ?_
        try simp only [Act.put, List.setIfInBounds_toArray, List.set_cons_zero, List.set_cons_succ]
        refine wpAnyH_take (i := 4) (oi := ⟨some 21, _, _, _, _, _⟩) (v := ?_) rfl (by kernel_rfl) (by kernel_rfl) (by kernel_rfl) (fun _ _ _ h => h) (Or.inl ⟨by rfl, ?_⟩) (by assumption) ?_
        rotate_left 1
        · intro w hSw
          try dsimp only at hSw
          go_simp
          try with_reducible rfl
        try simp only [Act.put, List.setIfInBounds_toArray, List.set_cons_zero, List.set_cons_succ]
        refine wpAnyH_take (i := 5) (oi := ⟨some 22, _, _, _, _, _⟩) (v := ?_) rfl (by kernel_rfl) (by kernel_rfl) (by kernel_rfl) (fun _ _ _ h => h) (Or.inl ⟨by rfl, ?_⟩) (by assumption) ?_
        rotate_left 1
        · intro w hSw
          try dsimp only at hSw
          go_simp
          try with_reducible rfl
        try simp only [Act.put, List.setIfInBounds_toArray, List.set_cons_zero, List.set_cons_succ]
        refine wpAnyH_take (i := 6) (oi := ⟨some 23, _, _, _, _, _⟩) (v := ?_) rfl (by kernel_rfl) (by kernel_rfl) (by kernel_rfl) (fun _ _ _ h => h) (Or.inl ⟨by rfl, ?_⟩) (by assumption) ?_
        rotate_left 1
        · intro w hSw
          try dsimp only at hSw
          go_simp
          try with_reducible rfl
        try simp only [Act.put, List.setIfInBounds_toArray, List.set_cons_zero, List.set_cons_succ]
        refine wpAnyH_take (i := 7) (oi := ⟨some 24, _, _, _, _, _⟩) (v := .agg (ltA y)) rfl (by kernel_rfl) (by kernel_rfl) (by kernel_rfl) (fun _ _ _ h => h) (yieldsIf_load_mid (by rfl) 90 _ rfl g2 (off2 + k * 6) rfl (ltA y).toList _ (fun w2 hw => hw.2) Tryz.underlying90 rfl (lt_info)) (by assumption) ?_
        try simp only [Act.put, List.setIfInBounds_toArray, List.set_cons_zero, List.set_cons_succ]
        refine wpAnyH_take (i := 8) (oi := ⟨some 25, _, _, _, _, _⟩) (v := .bool (!eqLt x y)) rfl (by kernel_rfl) (by kernel_rfl) (by kernel_rfl) (fun _ _ _ h => h) (Or.inl ⟨by rfl, fun w2 _ => exec_neLt (x := x) (y := y) _ _ rfl rfl rfl w2⟩) (by assumption) ?_
        try simp only [Act.put, List.setIfInBounds_toArray, List.set_cons_zero, List.set_cons_succ]
        refine wpAnyH_done (by kernel_rfl) ?_ _
        refine NoPanic.normal ?_
        clear hHeld
        rcases he : eqLt x y with _ | _
        · have HN := Lib.hid (eqL_at HX.out HY.out he)
          clear he
          go_wp2_with fail
          go_ret
          exact ⟨ret_bool HN.out.symm, HB.out.drew⟩
        · have HS := Lib.hid (eqRel_snoc HA.out HX.out HY.out he)
          clear he
          go_wp2_with fail
          go_roundw
          case rel => exact ⟨k + 1, by go_num, by omega, HS.out, HB.out.drew⟩
          case measure => simp [intOf]; omega
      · have HN := Lib.hid (eqL_all hl (e := eqLt) (fun j x y a b => HA.out j x y (by have := (List.getElem?_eq_some_iff.1 a).1; omega) a b))
        go_wp2
        go_ret
        exact ⟨ret_bool HN.out.symm, HB.out⟩
  · have HN := Lib.hid (eqL_len (e := eqLt) hl)
    rw [hv1, hv2]
    go_enter Tryz.func58, Tryz.ntmps58
    go_wp2
    go_ret
    exact ⟨ret_bool HN.out.symm, Below.refl _ _⟩
def encWt (x : Wtc) : List Value := (wtA x).toList
theorem encWt_len (x : Wtc) : (encWt x).length = 2 := rfl
set_option maxRecDepth 100000 in
set_option maxHeartbeats 2000000 in
theorem sleqWt (v1 v2 : Value) (l m : List Wtc) (w : World) (h1 : SlAt w v1 l.length (l.flatMap encWt)) (h2 : SlAt w v2 m.length (m.flatMap encWt)) (hn : l.length ≤ 1000000) : Calls Tryz.prog 51 #[v1, v2] w (BoolPost (eqL eqWt l m) w) := by
  obtain ⟨a1, c1, hv1, hc1⟩ := h1.form
  obtain ⟨a2, c2, hv2, hc2⟩ := h2.form
  have H1 := Lib.hid h1
  have H2 := Lib.hid h2
  clear h1 h2
  by_cases hl : l.length = m.length
  · rw [hv1, hv2] at *
    rw [← hl]
    go_enter Tryz.func51, Tryz.ntmps51
    go_wp2
    go_loopw [13] (fun i wr => EqRel eqWt l m w i wr) (fun i _ => l.length - (intOf i).toNat)
    case atStart => exact ⟨0, rfl, Nat.zero_le _, (fun j x y hj => by omega), Below.refl _ _⟩
    case round =>
      obtain ⟨k, rfl, hk, hall, hb⟩ := hrel
      have HB := Lib.hid hb
      have HA := Lib.hid hall
      clear hb hall
      by_cases hlt : k < l.length
      · obtain ⟨x, hx⟩ : ∃ x, l[k]? = some x := ⟨_, List.getElem?_eq_getElem hlt⟩
        obtain ⟨y, hy⟩ : ∃ y, m[k]? = some y := ⟨_, List.getElem?_eq_getElem (by omega)⟩
        obtain ⟨g, off, cp, hs1, -, r1⟩ := SlAt.at H1.out encWt_len (by decide) hx
        obtain ⟨g2, off2, cp2, hs2, -, r2⟩ := SlAt.at H2.out encWt_len (by decide) hy
        cases hs1
        cases hs2
        have HR1 := Lib.hid (show wr.drew.rangeAt g (off + k * 2) (wtA x).toList from fun j u hj => cell_below HB.out (r1 j u hj))
        have HR2 := Lib.hid (show wr.drew.rangeAt g2 (off2 + k * 2) (wtA y).toList from fun j u hj => cell_below HB.out (r2 j u hj))
        have HX := Lib.hid hx
        have HY := Lib.hid hy
        have e0 : (k : Int) < l.length := by omega
        clear r1 r2 hx hy
        go_upto_region 6 with fail
        refine wp_region_noPanic ?_
        refine wp_region_any (by kernel_rfl) ?_
        change wpAny _ _ _ _ _ _ _ (World.drew _)
        refine wpAny_of_held (S := (fun w2 => w2.rangeAt g (off + k * 2) (wtA x).toList ∧ w2.rangeAt g2 (off2 + k * 2) (wtA y).toList)) _ _ _ _ ?_
        have hHeld : (fun w2 => w2.rangeAt g (off + k * 2) (wtA x).toList ∧ w2.rangeAt g2 (off2 + k * 2) (wtA y).toList) wr.drew := ⟨HR1.out, HR2.out⟩
        refine wpAnyH_take (i := 0) (oi := ⟨some 16, _, _, _, _, _⟩) (v := ?_) rfl (by kernel_rfl) (by kernel_rfl) (by kernel_rfl) (fun _ _ _ h => h) (Or.inl ⟨by rfl, ?_⟩) (by assumption) ?_
        rotate_left 1
        · intro w hSw
          try dsimp only at hSw
          go_simp
          try with_reducible rfl
        try simp only [Act.put, List.setIfInBounds_toArray, List.set_cons_zero, List.set_cons_succ]
        refine wpAnyH_take (i := 1) (oi := ⟨some 17, _, _, _, _, _⟩) (v := ?_) rfl (by kernel_rfl) (by kernel_rfl) (by kernel_rfl) (fun _ _ _ h => h) (Or.inl ⟨by rfl, ?_⟩) (by assumption) ?_
        rotate_left 1
        · intro w hSw
          try dsimp only at hSw
          go_simp
          try with_reducible rfl
        try simp only [Act.put, List.setIfInBounds_toArray, List.set_cons_zero, List.set_cons_succ]
        refine wpAnyH_take (i := 2) (oi := ⟨some 18, _, _, _, _, _⟩) (v := ?_) rfl (by kernel_rfl) (by kernel_rfl) (by kernel_rfl) (fun _ _ _ h => h) (Or.inl ⟨by rfl, ?_⟩) (by assumption) ?_
        rotate_left 1
        · intro w hSw
          try dsimp only at hSw
          go_simp
          try with_reducible rfl
        try simp only [Act.put, List.setIfInBounds_toArray, List.set_cons_zero, List.set_cons_succ]
        refine wpAnyH_take (i := 3) (oi := ⟨some 19, _, _, _, _, _⟩) (v := .agg (wtA x)) rfl (by kernel_rfl) (by kernel_rfl) (by kernel_rfl) (fun _ _ _ h => h) (yieldsIf_load_mid (by rfl) 93 _ rfl g (off + k * 2) rfl (wtA x).toList _ (fun w2 hw => hw.1) Tryz.underlying93 rfl (wt_info)) (by assumption) ?_
        try simp only [Act.put, List.setIfInBounds_toArray, List.set_cons_zero, List.set_cons_succ]
        refine wpAnyH_take (i := 4) (oi := ⟨some 20, _, _, _, _, _⟩) (v := ?_) rfl (by kernel_rfl) (by kernel_rfl) (by kernel_rfl) (fun _ _ _ h => h) (Or.inl ⟨by rfl, ?_⟩) (by assumption) ?_
        rotate_left 1
        · intro w hSw
          try dsimp only at hSw
          go_simp
          try with_reducible rfl
        try simp only [Act.put, List.setIfInBounds_toArray, List.set_cons_zero, List.set_cons_succ]
        refine wpAnyH_take (i := 5) (oi := ⟨some 21, _, _, _, _, _⟩) (v := ?_) rfl (by kernel_rfl) (by kernel_rfl) (by kernel_rfl) (fun _ _ _ h => h) (Or.inl ⟨by rfl, ?_⟩) (by assumption) ?_
        rotate_left 1
        · intro w hSw
          try dsimp only at hSw
          go_simp
          try with_reducible rfl
        try simp only [Act.put, List.setIfInBounds_toArray, List.set_cons_zero, List.set_cons_succ]
        refine wpAnyH_take (i := 6) (oi := ⟨some 22, _, _, _, _, _⟩) (v := ?_) rfl (by kernel_rfl) (by kernel_rfl) (by kernel_rfl) (fun _ _ _ h => h) (Or.inl ⟨by rfl, ?_⟩) (by assumption) ?_
        rotate_left 1
        · intro w hSw
          try dsimp only at hSw
          go_simp
          try with_reducible rfl
        try simp only [Act.put, List.setIfInBounds_toArray, List.set_cons_zero, List.set_cons_succ]
        refine wpAnyH_take (i := 7) (oi := ⟨some 23, _, _, _, _, _⟩) (v := .agg (wtA y)) rfl (by kernel_rfl) (by kernel_rfl) (by kernel_rfl) (fun _ _ _ h => h) (yieldsIf_load_mid (by rfl) 93 _ rfl g2 (off2 + k * 2) rfl (wtA y).toList _ (fun w2 hw => hw.2) Tryz.underlying93 rfl (wt_info)) (by assumption) ?_
        try simp only [Act.put, List.setIfInBounds_toArray, List.set_cons_zero, List.set_cons_succ]
        refine wpAnyH_take (i := 8) (oi := ⟨some 24, _, _, _, _, _⟩) (v := .bool (!eqWt x y)) rfl (by kernel_rfl) (by kernel_rfl) (by kernel_rfl) (fun _ _ _ h => h) (Or.inl ⟨by rfl, fun w2 _ => exec_neWt (x := x) (y := y) _ _ rfl rfl rfl w2⟩) (by assumption) ?_
        try simp only [Act.put, List.setIfInBounds_toArray, List.set_cons_zero, List.set_cons_succ]
        refine wpAnyH_done (by kernel_rfl) ?_ _
        refine NoPanic.normal ?_
        clear hHeld
        rcases he : eqWt x y with _ | _
        · have HN := Lib.hid (eqL_at HX.out HY.out he)
          clear he
          go_wp2_with fail
          go_ret
          exact ⟨ret_bool HN.out.symm, HB.out.drew⟩
        · have HS := Lib.hid (eqRel_snoc HA.out HX.out HY.out he)
          clear he
          go_wp2_with fail
          go_roundw
          case rel => exact ⟨k + 1, by go_num, by omega, HS.out, HB.out.drew⟩
          case measure => simp [intOf]; omega
      · have HN := Lib.hid (eqL_all hl (e := eqWt) (fun j x y a b => HA.out j x y (by have := (List.getElem?_eq_some_iff.1 a).1; omega) a b))
        go_wp2
        go_ret
        exact ⟨ret_bool HN.out.symm, HB.out⟩
  · have HN := Lib.hid (eqL_len (e := eqWt) hl)
    rw [hv1, hv2]
    go_enter Tryz.func51, Tryz.ntmps51
    go_wp2
    go_ret
    exact ⟨ret_bool HN.out.symm, Below.refl _ _⟩
set_option maxRecDepth 100000 in
set_option maxHeartbeats 2000000 in
theorem doeqWt (v1 v2 : Value) (l m : List Wtc) (w : World) (h1 : SlAt w v1 l.length (l.flatMap encWt)) (h2 : SlAt w v2 m.length (m.flatMap encWt)) (hn : l.length ≤ 1000000) : Calls Tryz.prog 59 #[v1, v2] w (BoolPost (eqL eqWt l m) w) := by
  obtain ⟨a1, c1, hv1, hc1⟩ := h1.form
  obtain ⟨a2, c2, hv2, hc2⟩ := h2.form
  have H1 := Lib.hid h1
  have H2 := Lib.hid h2
  clear h1 h2
  by_cases hl : l.length = m.length
  · rw [hv1, hv2] at *
    rw [← hl]
    go_enter Tryz.func59, Tryz.ntmps59
    go_wp2
    go_loopw [5] (fun i wr => EqRel eqWt l m w i wr) (fun i _ => l.length - (intOf i).toNat)
    case atStart => exact ⟨0, rfl, Nat.zero_le _, (fun j x y hj => by omega), Below.refl _ _⟩
    case round =>
      obtain ⟨k, rfl, hk, hall, hb⟩ := hrel
      have HB := Lib.hid hb
      have HA := Lib.hid hall
      clear hb hall
      by_cases hlt : k < l.length
      · obtain ⟨x, hx⟩ : ∃ x, l[k]? = some x := ⟨_, List.getElem?_eq_getElem hlt⟩
        obtain ⟨y, hy⟩ : ∃ y, m[k]? = some y := ⟨_, List.getElem?_eq_getElem (by omega)⟩
        obtain ⟨g, off, cp, hs1, -, r1⟩ := SlAt.at H1.out encWt_len (by decide) hx
        obtain ⟨g2, off2, cp2, hs2, -, r2⟩ := SlAt.at H2.out encWt_len (by decide) hy
        cases hs1
        cases hs2
        have HR1 := Lib.hid (show wr.drew.rangeAt g (off + k * 2) (wtA x).toList from fun j u hj => cell_below HB.out (r1 j u hj))
        have HR2 := Lib.hid (show wr.drew.rangeAt g2 (off2 + k * 2) (wtA y).toList from fun j u hj => cell_below HB.out (r2 j u hj))
        have HX := Lib.hid hx
        have HY := Lib.hid hy
        have e0 : (k : Int) < l.length := by omega
        clear r1 r2 hx hy
        go_upto_region 6 with fail
        refine wp_region_noPanic ?_
        refine wp_region_any (by kernel_rfl) ?_
        change wpAny _ _ _ _ _ _ _ (World.drew _)
        refine wpAny_of_held (S := (fun w2 => w2.rangeAt g (off + k * 2) (wtA x).toList ∧ w2.rangeAt g2 (off2 + k * 2) (wtA y).toList)) _ _ _ _ ?_
        have hHeld : (fun w2 => w2.rangeAt g (off + k * 2) (wtA x).toList ∧ w2.rangeAt g2 (off2 + k * 2) (wtA y).toList) wr.drew := ⟨HR1.out, HR2.out⟩
        refine wpAnyH_take (i := 0) (oi := ⟨some 17, _, _, _, _, _⟩) (v := ?_) rfl (by kernel_rfl) (by kernel_rfl) (by kernel_rfl) (fun _ _ _ h => h) (Or.inl ⟨by rfl, ?_⟩) (by assumption) ?_
        rotate_left 1
        · intro w hSw
          try dsimp only at hSw
          go_simp
          try with_reducible rfl
        try simp only [Act.put, List.setIfInBounds_toArray, List.set_cons_zero, List.set_cons_succ]
        refine wpAnyH_take (i := 1) (oi := ⟨some 18, _, _, _, _, _⟩) (v := ?_) rfl (by kernel_rfl) (by kernel_rfl) (by kernel_rfl) (fun _ _ _ h => h) (Or.inl ⟨by rfl, ?_⟩) (by assumption) ?_
        rotate_left 1
        · intro w hSw
          try dsimp only at hSw
          go_simp
          try with_reducible rfl
        try simp only [Act.put, List.setIfInBounds_toArray, List.set_cons_zero, List.set_cons_succ]
        refine wpAnyH_take (i := 2) (oi := ⟨some 19, _, _, _, _, _⟩) (v := ?_) rfl (by kernel_rfl) (by kernel_rfl) (by kernel_rfl) (fun _ _ _ h => h) (Or.inl ⟨by rfl, ?_⟩) (by assumption) ?_
        rotate_left 1
        · intro w hSw
          try dsimp only at hSw
          go_simp
          try with_reducible rfl
        try simp only [Act.put, List.setIfInBounds_toArray, List.set_cons_zero, List.set_cons_succ]
        refine wpAnyH_take (i := 3) (oi := ⟨some 20, _, _, _, _, _⟩) (v := .agg (wtA x)) rfl (by kernel_rfl) (by kernel_rfl) (by kernel_rfl) (fun _ _ _ h => h) (yieldsIf_load_mid (by rfl) 93 _ rfl g (off + k * 2) rfl (wtA x).toList _ (fun w2 hw => hw.1) Tryz.underlying93 rfl (wt_info)) (by assumption) ?_
        try simp only [Act.put, List.setIfInBounds_toArray, List.set_cons_zero, List.set_cons_succ]
        refine wpAnyH_take (i := 4) (oi := ⟨some 21, _, _, _, _, _⟩) (v := ?_) rfl (by kernel_rfl) (by kernel_rfl) (by kernel_rfl) (fun _ _ _ h => h) (Or.inl ⟨by rfl, ?_⟩) (by assumption) ?_
        rotate_left 1
        · intro w hSw
          try dsimp only at hSw
          go_simp
          try with_reducible rfl
        try simp only [Act.put, List.setIfInBounds_toArray, List.set_cons_zero, List.set_cons_succ]
        refine wpAnyH_take (i := 5) (oi := ⟨some 22, _, _, _, _, _⟩) (v := ?_) rfl (by kernel_rfl) (by kernel_rfl) (by kernel_rfl) (fun _ _ _ h => h) (Or.inl ⟨by rfl, ?_⟩) (by assumption) ?_
        rotate_left 1
        · intro w hSw
          try dsimp only at hSw
          go_simp
          try with_reducible rfl
        try simp only [Act.put, List.setIfInBounds_toArray, List.set_cons_zero, List.set_cons_succ]
        refine wpAnyH_take (i := 6) (oi := ⟨some 23, _, _, _, _, _⟩) (v := ?_) rfl (by kernel_rfl) (by kernel_rfl) (by kernel_rfl) (fun _ _ _ h => h) (Or.inl ⟨by rfl, ?_⟩) (by assumption) ?_
        rotate_left 1
        · intro w hSw
          try dsimp only at hSw
          go_simp
          try with_reducible rfl
        try simp only [Act.put, List.setIfInBounds_toArray, List.set_cons_zero, List.set_cons_succ]
        refine wpAnyH_take (i := 7) (oi := ⟨some 24, _, _, _, _, _⟩) (v := .agg (wtA y)) rfl (by kernel_rfl) (by kernel_rfl) (by kernel_rfl) (fun _ _ _ h => h) (yieldsIf_load_mid (by rfl) 93 _ rfl g2 (off2 + k * 2) rfl (wtA y).toList _ (fun w2 hw => hw.2) Tryz.underlying93 rfl (wt_info)) (by assumption) ?_
        try simp only [Act.put, List.setIfInBounds_toArray, List.set_cons_zero, List.set_cons_succ]
        refine wpAnyH_take (i := 8) (oi := ⟨some 25, _, _, _, _, _⟩) (v := .bool (!eqWt x y)) rfl (by kernel_rfl) (by kernel_rfl) (by kernel_rfl) (fun _ _ _ h => h) (Or.inl ⟨by rfl, fun w2 _ => exec_neWt (x := x) (y := y) _ _ rfl rfl rfl w2⟩) (by assumption) ?_
        try simp only [Act.put, List.setIfInBounds_toArray, List.set_cons_zero, List.set_cons_succ]
        refine wpAnyH_done (by kernel_rfl) ?_ _
        refine NoPanic.normal ?_
        clear hHeld
        rcases he : eqWt x y with _ | _
        · have HN := Lib.hid (eqL_at HX.out HY.out he)
          clear he
          go_wp2_with fail
          go_ret
          exact ⟨ret_bool HN.out.symm, HB.out.drew⟩
        · have HS := Lib.hid (eqRel_snoc HA.out HX.out HY.out he)
          clear he
          go_wp2_with fail
          go_roundw
          case rel => exact ⟨k + 1, by go_num, by omega, HS.out, HB.out.drew⟩
          case measure => simp [intOf]; omega
      · have HN := Lib.hid (eqL_all hl (e := eqWt) (fun j x y a b => HA.out j x y (by have := (List.getElem?_eq_some_iff.1 a).1; omega) a b))
        go_wp2
        go_ret
        exact ⟨ret_bool HN.out.symm, HB.out⟩
  · have HN := Lib.hid (eqL_len (e := eqWt) hl)
    rw [hv1, hv2]
    go_enter Tryz.func59, Tryz.ntmps59
    go_wp2
    go_ret
    exact ⟨ret_bool HN.out.symm, Below.refl _ _⟩
def encRw (x : Rwh) : List Value := (rwA x).toList
theorem encRw_len (x : Rwh) : (encRw x).length = 17 := rfl
set_option maxRecDepth 100000 in
set_option maxHeartbeats 2000000 in
theorem sleqRw (v1 v2 : Value) (l m : List Rwh) (w : World) (h1 : SlAt w v1 l.length (l.flatMap encRw)) (h2 : SlAt w v2 m.length (m.flatMap encRw)) (hn : l.length ≤ 1000000) : Calls Tryz.prog 49 #[v1, v2] w (BoolPost (eqL eqRw l m) w) := by
  obtain ⟨a1, c1, hv1, hc1⟩ := h1.form
  obtain ⟨a2, c2, hv2, hc2⟩ := h2.form
  have H1 := Lib.hid h1
  have H2 := Lib.hid h2
  clear h1 h2
  by_cases hl : l.length = m.length
  · rw [hv1, hv2] at *
    rw [← hl]
    go_enter Tryz.func49, Tryz.ntmps49
    go_wp2
    go_loopw [13] (fun i wr => EqRel eqRw l m w i wr) (fun i _ => l.length - (intOf i).toNat)
    case atStart => exact ⟨0, rfl, Nat.zero_le _, (fun j x y hj => by omega), Below.refl _ _⟩
    case round =>
      obtain ⟨k, rfl, hk, hall, hb⟩ := hrel
      have HB := Lib.hid hb
      have HA := Lib.hid hall
      clear hb hall
      by_cases hlt : k < l.length
      · obtain ⟨x, hx⟩ : ∃ x, l[k]? = some x := ⟨_, List.getElem?_eq_getElem hlt⟩
        obtain ⟨y, hy⟩ : ∃ y, m[k]? = some y := ⟨_, List.getElem?_eq_getElem (by omega)⟩
        obtain ⟨g, off, cp, hs1, -, r1⟩ := SlAt.at H1.out encRw_len (by decide) hx
        obtain ⟨g2, off2, cp2, hs2, -, r2⟩ := SlAt.at H2.out encRw_len (by decide) hy
        cases hs1
        cases hs2
        have HR1 := Lib.hid (show wr.drew.rangeAt g (off + k * 17) (rwA x).toList from fun j u hj => cell_below HB.out (r1 j u hj))
        have HR2 := Lib.hid (show wr.drew.rangeAt g2 (off2 + k * 17) (rwA y).toList from fun j u hj => cell_below HB.out (r2 j u hj))
        have HX := Lib.hid hx
        have HY := Lib.hid hy
        have e0 : (k : Int) < l.length := by omega
        clear r1 r2 hx hy
        go_upto_region 6 with fail
        refine wp_region_noPanic ?_
        refine wp_region_any (by kernel_rfl) ?_
        change wpAny _ _ _ _ _ _ _ (World.drew _)
        refine wpAny_of_held (S := (fun w2 => w2.rangeAt g (off + k * 17) (rwA x).toList ∧ w2.rangeAt g2 (off2 + k * 17) (rwA y).toList)) _ _ _ _ ?_
        have hHeld : (fun w2 => w2.rangeAt g (off + k * 17) (rwA x).toList ∧ w2.rangeAt g2 (off2 + k * 17) (rwA y).toList) wr.drew := ⟨HR1.out, HR2.out⟩
        refine wpAnyH_take (i := 0) (oi := ⟨some 16, _, _, _, _, _⟩) (v := ?_) rfl (by kernel_rfl) (by kernel_rfl) (by kernel_rfl) (fun _ _ _ h => h) (Or.inl ⟨by rfl, ?_⟩) (by assumption) ?_
        rotate_left 1
        · intro w hSw
          try dsimp only at hSw
          go_simp
          try with_reducible rfl
        try simp only [Act.put, List.setIfInBounds_toArray, List.set_cons_zero, List.set_cons_succ]
        refine wpAnyH_take (i := 1) (oi := ⟨some 17, _, _, _, _, _⟩) (v := ?_) rfl (by kernel_rfl) (by kernel_rfl) (by kernel_rfl) (fun _ _ _ h => h) (Or.inl ⟨by rfl, ?_⟩) (by assumption) ?_
        rotate_left 1
        · intro w hSw
          try dsimp only at hSw
          go_simp
          try with_reducible rfl
        try simp only [Act.put, List.setIfInBounds_toArray, List.set_cons_zero, List.set_cons_succ]
        refine wpAnyH_take (i := 2) (oi := ⟨some 18, _, _, _, _, _⟩) (v := ?_) rfl (by kernel_rfl) (by kernel_rfl) (by kernel_rfl) (fun _ _ _ h => h) (Or.inl ⟨by rfl, ?_⟩) (by assumption) ?_
        rotate_left 1
        · intro w hSw
          try dsimp only at hSw
          go_simp
          try with_reducible rfl
        try simp only [Act.put, List.setIfInBounds_toArray, List.set_cons_zero, List.set_cons_succ]
        refine wpAnyH_take (i := 3) (oi := ⟨some 19, _, _, _, _, _⟩) (v := .agg (rwA x)) rfl (by kernel_rfl) (by kernel_rfl) (by kernel_rfl) (fun _ _ _ h => h) (yieldsIf_load_mid (by rfl) 87 _ rfl g (off + k * 17) rfl (rwA x).toList _ (fun w2 hw => hw.1) Tryz.underlying87 rfl (rw_info)) (by assumption) ?_
        try simp only [Act.put, List.setIfInBounds_toArray, List.set_cons_zero, List.set_cons_succ]
        refine wpAnyH_take (i := 4) (oi := ⟨some 20, _, _, _, _, _⟩) (v := ?_) rfl (by kernel_rfl) (by kernel_rfl) (by kernel_rfl) (fun _ _ _ h => h) (Or.inl ⟨by rfl, ?_⟩) (by assumption) ?_
        rotate_left 1
        · intro w hSw
          try dsimp only at hSw
          go_simp
          try with_reducible rfl
        try simp only [Act.put, List.setIfInBounds_toArray, List.set_cons_zero, List.set_cons_succ]
        refine wpAnyH_take (i := 5) (oi := ⟨some 21, _, _, _, _, _⟩) (v := ?_) rfl (by kernel_rfl) (by kernel_rfl) (by kernel_rfl) (fun _ _ _ h => h) (Or.inl ⟨by rfl, ?_⟩) (by assumption) ?_
        rotate_left 1
        · intro w hSw
          try dsimp only at hSw
          go_simp
          try with_reducible rfl
        try simp only [Act.put, List.setIfInBounds_toArray, List.set_cons_zero, List.set_cons_succ]
        refine wpAnyH_take (i := 6) (oi := ⟨some 22, _, _, _, _, _⟩) (v := ?_) rfl (by kernel_rfl) (by kernel_rfl) (by kernel_rfl) (fun _ _ _ h => h) (Or.inl ⟨by rfl, ?_⟩) (by assumption) ?_
        rotate_left 1
        · intro w hSw
          try dsimp only at hSw
          go_simp
          try with_reducible rfl
        try simp only [Act.put, List.setIfInBounds_toArray, List.set_cons_zero, List.set_cons_succ]
        refine wpAnyH_take (i := 7) (oi := ⟨some 23, _, _, _, _, _⟩) (v := .agg (rwA y)) rfl (by kernel_rfl) (by kernel_rfl) (by kernel_rfl) (fun _ _ _ h => h) (yieldsIf_load_mid (by rfl) 87 _ rfl g2 (off2 + k * 17) rfl (rwA y).toList _ (fun w2 hw => hw.2) Tryz.underlying87 rfl (rw_info)) (by assumption) ?_
        try simp only [Act.put, List.setIfInBounds_toArray, List.set_cons_zero, List.set_cons_succ]
        refine wpAnyH_take (i := 8) (oi := ⟨some 24, _, _, _, _, _⟩) (v := .bool (!eqRw x y)) rfl (by kernel_rfl) (by kernel_rfl) (by kernel_rfl) (fun _ _ _ h => h) (Or.inl ⟨by rfl, fun w2 _ => exec_neRw (x := x) (y := y) _ _ rfl rfl rfl w2⟩) (by assumption) ?_
        try simp only [Act.put, List.setIfInBounds_toArray, List.set_cons_zero, List.set_cons_succ]
        refine wpAnyH_done (by kernel_rfl) ?_ _
        refine NoPanic.normal ?_
        clear hHeld
        rcases he : eqRw x y with _ | _
        · have HN := Lib.hid (eqL_at HX.out HY.out he)
          clear he
          go_wp2_with fail
          go_ret
          exact ⟨ret_bool HN.out.symm, HB.out.drew⟩
        · have HS := Lib.hid (eqRel_snoc HA.out HX.out HY.out he)
          clear he
          go_wp2_with fail
          go_roundw
          case rel => exact ⟨k + 1, by go_num, by omega, HS.out, HB.out.drew⟩
          case measure => simp [intOf]; omega
      · have HN := Lib.hid (eqL_all hl (e := eqRw) (fun j x y a b => HA.out j x y (by have := (List.getElem?_eq_some_iff.1 a).1; omega) a b))
        go_wp2
        go_ret
        exact ⟨ret_bool HN.out.symm, HB.out⟩
  · have HN := Lib.hid (eqL_len (e := eqRw) hl)
    rw [hv1, hv2]
    go_enter Tryz.func49, Tryz.ntmps49
    go_wp2
    go_ret
    exact ⟨ret_bool HN.out.symm, Below.refl _ _⟩
set_option maxRecDepth 100000 in
set_option maxHeartbeats 2000000 in
theorem doeqRw (v1 v2 : Value) (l m : List Rwh) (w : World) (h1 : SlAt w v1 l.length (l.flatMap encRw)) (h2 : SlAt w v2 m.length (m.flatMap encRw)) (hn : l.length ≤ 1000000) : Calls Tryz.prog 57 #[v1, v2] w (BoolPost (eqL eqRw l m) w) := by
  obtain ⟨a1, c1, hv1, hc1⟩ := h1.form
  obtain ⟨a2, c2, hv2, hc2⟩ := h2.form
  have H1 := Lib.hid h1
  have H2 := Lib.hid h2
  clear h1 h2
  by_cases hl : l.length = m.length
  · rw [hv1, hv2] at *
    rw [← hl]
    go_enter Tryz.func57, Tryz.ntmps57
    go_wp2
    go_loopw [5] (fun i wr => EqRel eqRw l m w i wr) (fun i _ => l.length - (intOf i).toNat)
    case atStart => exact ⟨0, rfl, Nat.zero_le _, (fun j x y hj => by omega), Below.refl _ _⟩
    case round =>
      obtain ⟨k, rfl, hk, hall, hb⟩ := hrel
      have HB := Lib.hid hb
      have HA := Lib.hid hall
      clear hb hall
      by_cases hlt : k < l.length
      · obtain ⟨x, hx⟩ : ∃ x, l[k]? = some x := ⟨_, List.getElem?_eq_getElem hlt⟩
        obtain ⟨y, hy⟩ : ∃ y, m[k]? = some y := ⟨_, List.getElem?_eq_getElem (by omega)⟩
        obtain ⟨g, off, cp, hs1, -, r1⟩ := SlAt.at H1.out encRw_len (by decide) hx
        obtain ⟨g2, off2, cp2, hs2, -, r2⟩ := SlAt.at H2.out encRw_len (by decide) hy
        cases hs1
        cases hs2
        have HR1 := Lib.hid (show wr.drew.rangeAt g (off + k * 17) (rwA x).toList from fun j u hj => cell_below HB.out (r1 j u hj))
        have HR2 := Lib.hid (show wr.drew.rangeAt g2 (off2 + k * 17) (rwA y).toList from fun j u hj => cell_below HB.out (r2 j u hj))
        have HX := Lib.hid hx
        have HY := Lib.hid hy
        have e0 : (k : Int) < l.length := by omega
        clear r1 r2 hx hy
        go_upto_region 6 with fail
        refine wp_region_noPanic ?_
        refine wp_region_any (by kernel_rfl) ?_
        change wpAny _ _ _ _ _ _ _ (World.drew _)
        refine wpAny_of_held (S := (fun w2 => w2.rangeAt g (off + k * 17) (rwA x).toList ∧ w2.rangeAt g2 (off2 + k * 17) (rwA y).toList)) _ _ _ _ ?_
        have hHeld : (fun w2 => w2.rangeAt g (off + k * 17) (rwA x).toList ∧ w2.rangeAt g2 (off2 + k * 17) (rwA y).toList) wr.drew := ⟨HR1.out, HR2.out⟩
        refine wpAnyH_take (i := 0) (oi := ⟨some 17, _, _, _, _, _⟩) (v := ?_) rfl (by kernel_rfl) (by kernel_rfl) (by kernel_rfl) (fun _ _ _ h => h) (Or.inl ⟨by rfl, ?_⟩) (by assumption) ?_
        rotate_left 1
        · intro w hSw
          try dsimp only at hSw
          go_simp
          try with_reducible rfl
        try simp only [Act.put, List.setIfInBounds_toArray, List.set_cons_zero, List.set_cons_succ]
        refine wpAnyH_take (i := 1) (oi := ⟨some 18, _, _, _, _, _⟩) (v := ?_) rfl (by kernel_rfl) (by kernel_rfl) (by kernel_rfl) (fun _ _ _ h => h) (Or.inl ⟨by rfl, ?_⟩) (by assumption) ?_
        rotate_left 1
        · intro w hSw
          try dsimp only at hSw
          go_simp
          try with_reducible rfl
        try simp only [Act.put, List.setIfInBounds_toArray, List.set_cons_zero, List.set_cons_succ]
        refine wpAnyH_take (i := 2) (oi := ⟨some 19, _, _, _, _, _⟩) (v := ?_) rfl (by kernel_rfl) (by kernel_rfl) (by kernel_rfl) (fun _ _ _ h => h) (Or.inl ⟨by rfl, ?_⟩) (by assumption) ?_
        rotate_left 1
        · intro w hSw
          try dsimp only at hSw
          go_simp
          try with_reducible rfl
        try simp only [Act.put, List.setIfInBounds_toArray, List.set_cons_zero, List.set_cons_succ]
        refine wpAnyH_take (i := 3) (oi := ⟨some 20, _, _, _, _, _⟩) (v := .agg (rwA x)) rfl (by kernel_rfl) (by kernel_rfl) (by kernel_rfl) (fun _ _ _ h => h) (yieldsIf_load_mid (by rfl) 87 _ rfl g (off + k * 17) rfl (rwA x).toList _ (fun w2 hw => hw.1) Tryz.underlying87 rfl (rw_info)) (by assumption) ?_
        try simp only [Act.put, List.setIfInBounds_toArray, List.set_cons_zero, List.set_cons_succ]
        refine wpAnyH_take (i := 4) (oi := ⟨some 21, _, _, _, _, _⟩) (v := ?_) rfl (by kernel_rfl) (by kernel_rfl) (by kernel_rfl) (fun _ _ _ h => h) (Or.inl ⟨by rfl, ?_⟩) (by assumption) ?_
        rotate_left 1
        · intro w hSw
          try dsimp only at hSw
          go_simp
          try with_reducible rfl
        try simp only [Act.put, List.setIfInBounds_toArray, List.set_cons_zero, List.set_cons_succ]
        refine wpAnyH_take (i := 5) (oi := ⟨some 22, _, _, _, _, _⟩) (v := ?_) rfl (by kernel_rfl) (by kernel_rfl) (by kernel_rfl) (fun _ _ _ h => h) (Or.inl ⟨by rfl, ?_⟩) (by assumption) ?_
        rotate_left 1
        · intro w hSw
          try dsimp only at hSw
          go_simp
          try with_reducible rfl
        try simp only [Act.put, List.setIfInBounds_toArray, List.set_cons_zero, List.set_cons_succ]
        refine wpAnyH_take (i := 6) (oi := ⟨some 23, _, _, _, _, _⟩) (v := ?_) rfl (by kernel_rfl) (by kernel_rfl) (by kernel_rfl) (fun _ _ _ h => h) (Or.inl ⟨by rfl, ?_⟩) (by assumption) ?_
        rotate_left 1
        · intro w hSw
          try dsimp only at hSw
          go_simp
          try with_reducible rfl
        try simp only [Act.put, List.setIfInBounds_toArray, List.set_cons_zero, List.set_cons_succ]
        refine wpAnyH_take (i := 7) (oi := ⟨some 24, _, _, _, _, _⟩) (v := .agg (rwA y)) rfl (by kernel_rfl) (by kernel_rfl) (by kernel_rfl) (fun _ _ _ h => h) (yieldsIf_load_mid (by rfl) 87 _ rfl g2 (off2 + k * 17) rfl (rwA y).toList _ (fun w2 hw => hw.2) Tryz.underlying87 rfl (rw_info)) (by assumption) ?_
        try simp only [Act.put, List.setIfInBounds_toArray, List.set_cons_zero, List.set_cons_succ]
        refine wpAnyH_take (i := 8) (oi := ⟨some 25, _, _, _, _, _⟩) (v := .bool (!eqRw x y)) rfl (by kernel_rfl) (by kernel_rfl) (by kernel_rfl) (fun _ _ _ h => h) (Or.inl ⟨by rfl, fun w2 _ => exec_neRw (x := x) (y := y) _ _ rfl rfl rfl w2⟩) (by assumption) ?_
        try simp only [Act.put, List.setIfInBounds_toArray, List.set_cons_zero, List.set_cons_succ]
        refine wpAnyH_done (by kernel_rfl) ?_ _
        refine NoPanic.normal ?_
        clear hHeld
        rcases he : eqRw x y with _ | _
        · have HN := Lib.hid (eqL_at HX.out HY.out he)
          clear he
          go_wp2_with fail
          go_ret
          exact ⟨ret_bool HN.out.symm, HB.out.drew⟩
        · have HS := Lib.hid (eqRel_snoc HA.out HX.out HY.out he)
          clear he
          go_wp2_with fail
          go_roundw
          case rel => exact ⟨k + 1, by go_num, by omega, HS.out, HB.out.drew⟩
          case measure => simp [intOf]; omega
      · have HN := Lib.hid (eqL_all hl (e := eqRw) (fun j x y a b => HA.out j x y (by have := (List.getElem?_eq_some_iff.1 a).1; omega) a b))
        go_wp2
        go_ret
        exact ⟨ret_bool HN.out.symm, HB.out⟩
  · have HN := Lib.hid (eqL_len (e := eqRw) hl)
    rw [hv1, hv2]
    go_enter Tryz.func57, Tryz.ntmps57
    go_wp2
    go_ret
    exact ⟨ret_bool HN.out.symm, Below.refl _ _⟩
end Go.Proofs.YtjmlimogmmikoaaGreatDoor
