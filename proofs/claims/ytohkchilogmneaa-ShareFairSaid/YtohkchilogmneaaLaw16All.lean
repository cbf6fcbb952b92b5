/-
  law16: a share's Len; its rows as the document has them: the walks.
-/
import Derived.Test.YtohkchilogmneaaRef16All
import Derived.Test.YtohkchilogmneaaTwin
import Derived.Test.YtohkchilogmneaaShareAll
import Derived.Test.YtohkchilogmneaaDoes
namespace Go.Proofs.Ytohkchilogmneaa
open Go.RowKit Go.Sort

theorem encTV_len5 (p : TV) : (encTV p).length = 5 := rfl
/-- A share's rows, wherever they lie. -/
structure TRowsAt (w : World) (v : Value) (l : List TV) : Prop where
  rows : ∃ a cap, v = .slice a l.length cap ∧ l.length ≤ cap ∧ ∀ (j : Nat) u, (flatTV l)[j]? = some u → ∃ g off, a = some ⟨g, off, none⟩ ∧ w.cell? ⟨g, off + j, none⟩ = some u
  inv : ∀ p ∈ l, RowsAt w p.2.1 p.2.2 ∧ p.2.2.map Prod.fst = p.1.rows
theorem TRowsAt.form {w : World} {v : Value} {l : List TV} (h : TRowsAt w v l) : ∃ a cap, v = .slice a l.length cap ∧ l.length ≤ cap := by
  obtain ⟨⟨a, cap, hv, hle, _⟩, _⟩ := h
  exact ⟨a, cap, hv, hle⟩
theorem TRowsAt.below {w w' : World} {v : Value} {l : List TV} (h : TRowsAt w v l) (hb : Below w.heap.size w w') : TRowsAt w' v l := by
  obtain ⟨⟨a, cap, rfl, hle, hc⟩, hi⟩ := h
  exact ⟨⟨a, cap, rfl, hle, fun j u hu => by obtain ⟨g, off, ha, h0⟩ := hc j u hu; exact ⟨g, off, ha, cell_below hb h0⟩⟩, fun p hp => ⟨(hi p hp).1.below hb, (hi p hp).2⟩⟩
theorem TRowsAt.at {w : World} {v : Value} {l : List TV} (h : TRowsAt w v l) {k : Nat} {p : TV} (hp : l[k]? = some p) : ∃ g off cap, v = .slice (some ⟨g, off, none⟩) l.length cap ∧ l.length ≤ cap ∧ w.cell? ⟨g, off + k * 5, none⟩ = some (.int .i64 p.1.id) ∧ w.cell? ⟨g, off + k * 5 + 1, none⟩ = some (.int .i64 p.1.wt) ∧
    w.cell? ⟨g, off + k * 5 + 2, none⟩ = some (.int .i64 p.1.df) ∧ w.cell? ⟨g, off + k * 5 + 3, none⟩ = some p.2.1 ∧ w.cell? ⟨g, off + k * 5 + 4, none⟩ = some (.bool p.1.gv) := by
  obtain ⟨⟨a, cap, rfl, hle, hc⟩, _⟩ := h
  have key : ∀ i u, (encTV p)[i]? = some u → (flatTV l)[k * 5 + i]? = some u := fun i u hu => by
    have hi : i < 5 := (List.getElem?_eq_some_iff.1 hu).1
    unfold flatTV
    rw [flat_at encTV 5 encTV_len5 i hp hi]
    exact hu
  obtain ⟨g, off, rfl, h0⟩ := hc _ _ (key 0 _ rfl)
  have get : ∀ i u, (encTV p)[i]? = some u → w.cell? ⟨g, off + k * 5 + i, none⟩ = some u := fun i u hu => by
    obtain ⟨g', off', he, h1⟩ := hc _ _ (key i u hu)
    cases he
    rw [Nat.add_assoc]
    exact h1
  exact ⟨g, off, cap, rfl, hle, get 0 _ rfl, get 1 _ rfl, get 2 _ rfl, get 3 _ rfl, get 4 _ rfl⟩
theorem TRowsIn.rows {w : World} {base : Nat} {v : Value} {l : List TV} (h : TRowsIn w base v l) : TRowsAt w v l := by
  obtain ⟨a, cap, rfl, hle, _, _, hc⟩ := own_cells h.own
  exact ⟨⟨a, cap, rfl, hle, fun j u hu => by obtain ⟨g, ha, _, _, h0, _⟩ := hc j u hu; exact ⟨g, 0, ha, by rw [Nat.zero_add]; exact h0⟩⟩, fun p hp => ⟨(h.inv p hp).1.rows, (h.inv p hp).2⟩⟩
/-- Rows that are not too many, in any of them. -/
def FewT (rows : List TRow) : Prop := rows.length ≤ 1000000 ∧ ∀ x ∈ rows, x.rows.length ≤ 1000000 ∧ ∀ r ∈ x.rows, r.its.length ≤ 1000000
theorem few_dv {w : World} {v : Value} {l : List DV} (h : DRowsAt w v l) (hf : FewT (l.map Prod.fst)) : FewD l := by
  refine ⟨by have := hf.1; rwa [List.length_map] at this, fun p hp => ?_⟩
  have hi := (h.inv p hp).same
  have hx := hf.2 p.1 (List.mem_map_of_mem hp)
  rw [← hi, List.length_map] at hx
  exact ⟨hx.1, fun r hr => hx.2 r.1 (List.mem_map_of_mem hr)⟩
theorem few_tv {w : World} {v : Value} {l : List TV} (h : TRowsAt w v l) (hf : FewT (l.map Prod.fst)) : l.length ≤ 1000000 ∧ ∀ p ∈ l, p.2.2.length ≤ 1000000 := by
  refine ⟨by have := hf.1; rwa [List.length_map] at this, fun p hp => ?_⟩
  have hx := hf.2 p.1 (List.mem_map_of_mem hp)
  rw [← (h.inv p hp).2, List.length_map] at hx
  exact hx.1
theorem totT_len : ∀ {rows : List TRow}, (∀ x ∈ rows, x.rows ≠ [] ∧ ∀ r ∈ x.rows, r.its ≠ []) → rows.length ≤ totT rows
  | [], _ => by simp [totT]
  | x :: l, h => by
    have ih := totT_len (rows := l) (fun y hy => h y (List.mem_cons_of_mem _ hy))
    have hx := h x List.mem_cons_self
    have h1 := tot_len hx.2
    have h2 := List.length_pos_iff.2 hx.1
    simp [totT] at ih ⊢
    omega
theorem ShareAt.fullT {pre : List Int} {ρ : Roles} {w : World} {f : Nat} {q : Int} {gv : Bool} {rows : List TRow} (h : ShareAt pre ρ w f q gv rows) : ∀ x ∈ rows, x.rows ≠ [] ∧ ∀ r ∈ x.rows, r.its ≠ [] := by
  obtain ⟨sp, v, ns, fb, a, h, rfl⟩ := h
  intro x hx
  obtain ⟨n, hn, rfl⟩ := List.mem_map.1 hx
  exact ⟨h.full n hn, (h.pre'.ring n hn).full⟩
theorem few_tot {rows : List TRow} (hfull : ∀ x ∈ rows, x.rows ≠ [] ∧ ∀ r ∈ x.rows, r.its ≠ []) (hf : totT rows ≤ 1000000) : FewT rows :=
  ⟨Nat.le_trans (totT_len hfull) hf, fun x hx => ⟨Nat.le_trans (tot_len (hfull x hx).2) (Nat.le_trans (totT_mem hx) hf), fun _ hr => Nat.le_trans (tot_mem hr) (Nat.le_trans (totT_mem hx) hf)⟩⟩
section
variable {pre : List Int} {ρ : Roles} {f : Nat} {q : Int} {gv : Bool} {rows : List TRow}
set_option maxRecDepth 100000 in
set_option maxHeartbeats 4000000 in
/-- THE WALK: Len. -/
theorem shareLen_any (w : World) (hR : ShareAt pre ρ w f q gv rows) (hf : totT rows ≤ 1000000) : Calls Try.prog 66 #[.pointer (some ⟨f, 0, none⟩)] w fun e w' => e = .returned (.int .i64 (totT rows)) ∧ Below w.heap.size w w' := by
  have HFT := Lib.hid (few_tot hR.fullT hf)
  have HF := Lib.hid hf
  have HR := Lib.hid hR
  clear hR hf
  go_enter Try.func66, Try.ntmps66
  go_wp2_with fail
  refine (shareRows_any w HR.out).mono ?_
  rintro e w1 ⟨v1, l, rfl, hr1, hm, hb1⟩
  have hr1 := hr1.rows
  have hfe := few_tv hr1 (by rw [hm]; exact HFT.out)
  have HFE := Lib.hid hfe
  have HR1 := Lib.hid hr1
  have HM := Lib.hid hm
  have HB1 := Lib.hid hb1
  obtain ⟨a, cap, rfl, -⟩ := hr1.form
  clear hr1 hm hb1 hfe
  go_wp2_with fail
  go_loopg [11, 3] l.length (fun g i n wr => ∃ k : Nat, g = l.length - k ∧ i = .int .i64 k ∧ n = .int .i64 (totT (rows.take k)) ∧ k ≤ l.length ∧ Below w1.heap.size w1 wr)
  case atStart => exact ⟨0, rfl, rfl, rfl, Nat.zero_le _, Below.refl _ _⟩
  case round =>
    obtain ⟨k, hg, rfl, rfl, hk, hb⟩ := hrel
    have HG := Lib.hid hg
    have HB := Lib.hid hb
    clear hg hb
    by_cases hlt : k < l.length
    · obtain ⟨p, hp⟩ : ∃ p, l[k]? = some p := ⟨_, List.getElem?_eq_getElem hlt⟩
      have hmem := List.mem_of_getElem? hp
      have hin := HR1.out.inv p hmem
      have HIN := Lib.hid hin.1
      have HSM := Lib.hid hin.2
      have HX := Lib.hid (show rows[k]? = some p.1 by rw [← HM.out, List.getElem?_map, hp]; rfl)
      have HFP := Lib.hid (HFE.out.2 p hmem)
      obtain ⟨g, off, cap', hv, -, c0, c1, c2, c3, c4⟩ := (HR1.out.below HB.out).at hp
      cases hv
      obtain ⟨pa, pc, hpv, -⟩ := hin.1.form
      rw [hpv] at c3
      have HPV := Lib.hid hpv
      have hkl : (k : Int) < (l.length : Int) := by omega
      obtain ⟨A, hA⟩ : ∃ A, A = totT (rows.take k) := ⟨_, rfl⟩
      rw [← hA]
      have HA := Lib.hid hA
      have HAS := Lib.hid (totT_take HX.out)
      have HAL := Lib.hid (totT_le rows (k + 1))
      have HLEN := Lib.hid (show p.2.2.length = p.1.rows.length by rw [← HSM.out, List.length_map])
      clear hp hmem hpv hA hin
      go_upto_region 5 with fail
      obtain ⟨w2, hw2⟩ : ∃ w2 : World, w2 = wr.alloc (.cells #[.int .i64 p.1.id, .int .i64 p.1.wt, .int .i64 p.1.df, .slice pa p.2.2.length pc, .bool p.1.gv] 143) := ⟨_, rfl⟩
      obtain ⟨xb, hxb⟩ : ∃ xb : Nat, xb = wr.heap.size := ⟨_, rfl⟩
      rw [← hw2, ← hxb]
      have hx2 : w2.heap[xb]? = some (.cells #[.int .i64 p.1.id, .int .i64 p.1.wt, .int .i64 p.1.df, .slice pa p.2.2.length pc, .bool p.1.gv] 143 (0, 0)) := by rw [hw2, hxb]; exact fr_alloc_at
      have HB2 := Lib.hid (show Below w1.heap.size w1 w2 by rw [hw2]; exact HB.out.alloc HB.out.size _)
      have c3 : w2.cell? ⟨xb, 3, none⟩ = some (.slice pa p.2.2.length pc) := fr_cell_of_heap hx2 rfl
      clear hw2 hxb hx2
      go_wp2_with fail
      go_loopg [18, 3] p.2.2.length (fun g i n wr' => ∃ j : Nat, g = p.2.2.length - j ∧ i = .int .i64 j ∧ n = .int .i64 ((A + totR (p.1.rows.take j) : Nat) : Int) ∧ j ≤ p.2.2.length ∧ Below w1.heap.size w1 wr')
      case atStart => exact ⟨0, rfl, rfl, rfl, Nat.zero_le _, HB2.out⟩
      case round =>
        obtain ⟨j, hg, rfl, rfl, hj, hb⟩ := hrel
        have HG' := Lib.hid hg
        have HBJ := Lib.hid hb
        clear hg hb
        by_cases hjl : j < p.2.2.length
        · obtain ⟨⟨r', u⟩, hp⟩ : ∃ r, p.2.2[j]? = some r := ⟨_, List.getElem?_eq_getElem hjl⟩
          have hy : p.1.rows[j]? = some r' := by rw [← HSM.out, List.getElem?_map, hp]; rfl
          have HTS := Lib.hid (totR_take hy)
          have HTL := Lib.hid (totR_le p.1.rows (j + 1))
          obtain ⟨gr, offr, capr, hv3, -, d0, d1, d2, d3⟩ := (HIN.out.below HBJ.out).at hp
          rw [HPV.out] at hv3
          cases hv3
          obtain ⟨ai, ci, hu⟩ : ∃ ai ci, u = .slice ai r'.its.length ci := its_form (HIN.out.its _ (List.mem_of_getElem? hp))
          simp only at d0 d1 d2 d3
          rw [hu] at d3
          have hjl2 : (j : Int) < (p.2.2.length : Int) := by omega
          clear hp hy hu
          go_upto_region 8 with fail
          obtain ⟨w3, hw3⟩ : ∃ w3 : World, w3 = wr.alloc (.cells #[.int .i64 r'.id, .int .i64 r'.wt, .int .i64 r'.df, .slice ai r'.its.length ci] 48) := ⟨_, rfl⟩
          obtain ⟨yb, hyb⟩ : ∃ yb : Nat, yb = wr.heap.size := ⟨_, rfl⟩
          rw [← hw3, ← hyb]
          have hx3 : w3.heap[yb]? = some (.cells #[.int .i64 r'.id, .int .i64 r'.wt, .int .i64 r'.df, .slice ai r'.its.length ci] 48 (0, 0)) := by rw [hw3, hyb]; exact fr_alloc_at
          have HB3 := Lib.hid (show Below w1.heap.size w1 w3 by rw [hw3]; exact HBJ.out.alloc HBJ.out.size _)
          have z3 : w3.cell? ⟨yb, 3, none⟩ = some (.slice ai r'.its.length ci) := fr_cell_of_heap hx3 rfl
          clear hw3 hyb hx3 d0 d1 d2 d3
          go_wp2_with fail
          go_roundg (p.2.2.length - (j + 1))
          case rel =>
            have h1 := HAS.out
            have h2 := HAL.out
            have h3 := HF.out
            have h4 := HTS.out
            have h5 := HTL.out
            have h6 := HFP.out
            have h7 := HA.out
            refine ⟨j + 1, rfl, by rw [show wrap64 ((j : Int) + 1) = ((j + 1 : Nat) : Int) by unfold wrap64; omega], ?_, by omega, HB3.out⟩
            rw [show wrap64 ((A : Int) + (totR (p.1.rows.take j) : Int) + (r'.its.length : Int)) = ((A + totR (p.1.rows.take (j + 1)) : Nat) : Int) by unfold wrap64; omega]
          case measure => have := HG'.out; omega
        · have HJ := Lib.hid (show p.1.rows.take j = p.1.rows from List.take_of_length_le (by have := HLEN.out; omega))
          go_wp2_with fail
          go_roundg (l.length - (k + 1))
          case rel =>
            have h0 := HFE.out.1
            refine ⟨k + 1, rfl, by rw [show wrap64 ((k : Int) + 1) = ((k + 1 : Nat) : Int) by unfold wrap64; omega], ?_, by omega, HBJ.out⟩
            rw [HJ.out, HAS.out, HA.out]
          case measure => have := HG.out; omega
    · have HK := Lib.hid (show rows.take k = rows from List.take_of_length_le (by rw [← HM.out, List.length_map]; omega))
      go_wp2_with fail
      go_ret
      exact ⟨ret_int (by rw [HK.out]), HB1.out.trans (HB.out.mono HB1.out.size)⟩
end
set_option maxRecDepth 100000 in
set_option maxHeartbeats 4000000 in
/-- THE WALK: invs. -/
theorem invs16_any (v : Value) (l : List (FRow × Value)) (w : World) (h : RowsAt w v l) (hf : l.length ≤ 1000000) : Calls Try.prog 95 #[v] w fun e w' => ∃ v', e = .returned v' ∧ w'.ownsRow w.heap.size 56 4 v' l.length (flatRV l) ∧ Below w.heap.size w w' := by
  have HR := Lib.hid h
  have HL := Lib.hid hf
  obtain ⟨a, cap, rfl, -⟩ := h.form
  clear h hf
  go_enter Try.func95, Try.ntmps95
  go_wp2_with fail
  go_loopg [3, 4] l.length (fun g ov i wr => ∃ k : Nat, g = l.length - k ∧ i = .int .i64 k ∧ k ≤ l.length ∧ wr.ownsRow w.heap.size 56 4 ov (l.take k).length (flatRV (l.take k)) ∧ Below w.heap.size w wr)
  case atStart => exact ⟨0, rfl, rfl, Nat.zero_le _, own_empty (Nat.le_refl _), box_below⟩
  case round =>
    obtain ⟨k, hg, rfl, hk, ho, hb⟩ := hrel
    have HG := Lib.hid hg
    have HO := Lib.hid ho
    have HB := Lib.hid hb
    clear hg ho hb
    by_cases hlt : k < l.length
    · obtain ⟨⟨x, vx⟩, hx⟩ : ∃ p, l[k]? = some p := ⟨_, List.getElem?_eq_getElem hlt⟩
      have HXX := Lib.hid hx
      obtain ⟨ax, cx, rfl⟩ : ∃ ax cx, vx = .slice ax x.its.length cx := its_form (HR.out.its _ (List.mem_of_getElem? hx))
      obtain ⟨g, off, cap', hv, _, c0, c1, c2, c3⟩ := (HR.out.below HB.out).at hx
      cases hv
      simp only at c0 c1 c2 c3
      have HT := Lib.hid (show l.take (k + 1) = l.take k ++ [(x, .slice ax x.its.length cx)] by rw [List.take_succ_eq_append_getElem hlt, (List.getElem?_eq_some_iff.1 hx).2])
      have hkl : (k : Int) < (l.length : Int) := by omega
      have htl : (l.take k).length = k := by rw [List.length_take]; omega
      have hf := HL.out
      obtain ⟨D, hD⟩ : ∃ D, D = l.take k := ⟨_, rfl⟩
      rw [← hD] at HO HT htl
      rw [htl] at HO
      have hgw : g < w.heap.size := by
        obtain ⟨g2, off2, cap2, hv2, _, q0, _⟩ := HR.out.at hx
        cases hv2
        exact World.block_lt_of_cell? w _ q0
      obtain ⟨i0, hi0, hz0, hz1, hz2⟩ := info_parts rrow_info
      have hw1 := HB.out.size
      clear hx hD
      go_upto_region 5 with fail
      go_region_held3 (fun w' => w'.cell? ⟨g, off + k * 4, none⟩ = some (.int .i64 x.id) ∧ w'.cell? ⟨g, off + k * 4 + 1, none⟩ = some (.int .i64 x.wt) ∧ w'.cell? ⟨g, off + k * 4 + 2, none⟩ = some (.int .i64 x.df) ∧ w'.cell? ⟨g, off + k * 4 + 3, none⟩ = some (.slice ax x.its.length cx))
        (first
          | go_keep
          | exact ⟨(hb9.cell (p := ⟨g, off + k * 4, none⟩) hgw).trans ((HB.out.cell (p := ⟨g, off + k * 4, none⟩) hgw).symm.trans c0), (hb9.cell (p := ⟨g, off + k * 4 + 1, none⟩) hgw).trans ((HB.out.cell (p := ⟨g, off + k * 4 + 1, none⟩) hgw).symm.trans c1), (hb9.cell (p := ⟨g, off + k * 4 + 2, none⟩) hgw).trans ((HB.out.cell (p := ⟨g, off + k * 4 + 2, none⟩) hgw).symm.trans c2), (hb9.cell (p := ⟨g, off + k * 4 + 3, none⟩) hgw).trans ((HB.out.cell (p := ⟨g, off + k * 4 + 3, none⟩) hgw).symm.trans c3)⟩)
        (first
          | (refine step_append_lies _ (by rfl) _ _ _ (by rfl) w.heap.size 56 i0 _ 4 48 Try.underlying51 hi0 hz0 hz1 hz2 rfl (by omega) u3 k (flatRV D) (by rfl) ((own_below HO.out ⟨rfl, rfl, rfl, Nat.le_refl _, fun _ _ => rfl⟩).alloc _)
                    ⟨wr.heap.size, 0, none⟩ 1 1 (encRV (x, .slice ax x.its.length cx)) (by rfl) (by rfl) (World.news_of_block (cs := #[.int .i64 x.id, .int .i64 x.wt, .int .i64 x.df, .slice ax x.its.length cx]) (t := 56) (fr := (0, 0)) (heap_alloc_new _ _)) (by simp [Value.oneCell', encRV]) (by omega) (by unfold maxLen; omega) (by omega) (by simp; omega) (wr.heap.size + 1) (by simp) ?_; intro gg gcap w9 hown9 hgrow hat hlt9; (have hb9 : Below w.heap.size w w9 := (HB.out.alloc hw1 _).trans ⟨hgrow.os, hgrow.tape, hgrow.output, Nat.le_trans (by simp) hgrow.size, fun j hj => hgrow.block j (by simp; omega) (fun e => by have := own_block HO.out j e.symm; omega)⟩)))
      have HO9 := Lib.hid hown9
      have HB9 := Lib.hid hb9
      clear hown9 hgrow hat hlt9 hb9 hi0 hz0 hz1 hz2 hgw c0 c1 c2 c3
      go_wp2_with fail
      go_roundg (l.length - (k + 1))
      case rel => exact ⟨k + 1, rfl, by go_num, by omega, by rw [HT.out, List.length_append, flatRV_snoc, htl]; exact HO9.out, HB9.out⟩
      case measure => have := HG.out; omega
    · have HK := Lib.hid (show l.take k = l from List.take_of_length_le (by omega))
      go_wp2_with fail
      go_ret
      have h := HO.out
      rw [HK.out] at h
      exact ⟨_, rfl, h, HB.out⟩
/-- The document's rows, as far as they are built. -/
structure DIn (w wr : World) (ov : Value) (l : List DV) : Prop where
  own : wr.ownsRow w.heap.size 90 6 ov l.length (flatDV l)
  inv : ∀ p ∈ l, wr.ownsRow w.heap.size 56 4 p.2.2.1 p.2.2.2.length (flatRV p.2.2.2) ∧ (∀ r ∈ p.2.2.2, ItsAt w r.2 r.1.its) ∧ p.2.2.2.map Prod.fst = p.1.rows
theorem DIn.below {w wr w' : World} {ov : Value} {l : List DV} (h : DIn w wr ov l) (hb : Below wr.heap.size wr w') : DIn w w' ov l := ⟨own_below h.own hb, fun p hp => ⟨own_below (h.inv p hp).1 hb, (h.inv p hp).2⟩⟩
theorem DIn.rows {w wr : World} {ov : Value} {l : List DV} (h : DIn w wr ov l) (hb : Below w.heap.size w wr) : DRowsAt wr ov l :=
  drows_own h.own (fun p hp => ⟨rows_own (h.inv p hp).1 (fun r hr => ((h.inv p hp).2.1 r hr).below hb), (h.inv p hp).2.2⟩)
set_option maxRecDepth 100000 in
set_option maxHeartbeats 4000000 in
/-- THE WALK: rows. -/
theorem rows16_any (v : Value) (l : List TV) (w : World) (h : TRowsAt w v l) (hf : l.length ≤ 1000000) (hfs : ∀ p ∈ l, p.2.2.length ≤ 1000000) : Calls Try.prog 76 #[v] w fun e w' => ∃ v' l', e = .returned v' ∧ DRowsAt w' v' l' ∧ l'.map Prod.fst = l.map Prod.fst ∧ Below w.heap.size w w' := by
  have HR := Lib.hid h
  have HL := Lib.hid hf
  have HLS := Lib.hid hfs
  obtain ⟨a, cap, rfl, -⟩ := h.form
  clear h hf hfs
  go_enter Try.func76, Try.ntmps76
  go_wp2_with fail
  go_loopg [3, 4] l.length (fun g ov i wr => ∃ (k : Nat) (D : List DV), g = l.length - k ∧ i = .int .i64 k ∧ k ≤ l.length ∧ D.map Prod.fst = (l.map Prod.fst).take k ∧ DIn w wr ov D ∧ Below w.heap.size w wr)
  case atStart => exact ⟨0, [], rfl, rfl, Nat.zero_le _, rfl, ⟨own_empty (Nat.le_refl _), fun p hp => by cases hp⟩, box_below⟩
  case round =>
    obtain ⟨k, D, hg, rfl, hk, hm, ho, hb⟩ := hrel
    have HG := Lib.hid hg
    have HM := Lib.hid hm
    have HO := Lib.hid ho
    have HB := Lib.hid hb
    clear hg ho hb hm
    by_cases hlt : k < l.length
    · obtain ⟨⟨x, vx, li⟩, hx⟩ : ∃ p, l[k]? = some p := ⟨_, List.getElem?_eq_getElem hlt⟩
      have hmem := List.mem_of_getElem? hx
      have HIN := Lib.hid (HR.out.inv _ hmem)
      have HFI := Lib.hid (HLS.out _ hmem)
      obtain ⟨ax, cx, hvx, -⟩ := (HR.out.inv _ hmem).1.form
      simp only at hvx
      subst hvx
      obtain ⟨g, off, cap', hv, _, c0, c1, c2, c3, c4⟩ := (HR.out.below HB.out).at hx
      cases hv
      simp only at c0 c1 c2 c3 c4
      have HXX := Lib.hid (show (l.map Prod.fst)[k]? = some x by rw [List.getElem?_map, hx]; rfl)
      have hkl : (k : Int) < (l.length : Int) := by omega
      have hll : D.length = k := by
        have h := congrArg List.length HM.out
        rw [List.length_map, List.length_take, List.length_map] at h
        omega
      have hf := HL.out
      have hgw : g < w.heap.size := by
        obtain ⟨g2, off2, cap2, hv2, _, q0, _⟩ := HR.out.at hx
        cases hv2
        exact World.block_lt_of_cell? w _ q0
      obtain ⟨i0, hi0, hz0, hz1, hz2⟩ := info_parts drow_info
      have hw1 := HB.out.size
      have hbd : Below wr.heap.size wr wr.drew := ⟨rfl, rfl, rfl, Nat.le_refl _, fun _ _ => rfl⟩
      clear hx hmem
      go_upto_region 5 with fail
      go_region_held3 (fun w' => w'.cell? ⟨g, off + k * 5, none⟩ = some (.int .i64 x.id) ∧ w'.cell? ⟨g, off + k * 5 + 1, none⟩ = some (.int .i64 x.wt) ∧ w'.cell? ⟨g, off + k * 5 + 2, none⟩ = some (.int .i64 x.df) ∧ w'.cell? ⟨g, off + k * 5 + 3, none⟩ = some (.slice ax li.length cx) ∧ w'.cell? ⟨g, off + k * 5 + 4, none⟩ = some (.bool x.gv))
        (first
          | go_keep
          | exact ⟨cell_below hb5 c0, cell_below hb5 c1, cell_below hb5 c2, cell_below hb5 c3, cell_below hb5 c4⟩
          | exact ⟨(hb9.cell (p := ⟨g, off + k * 5, none⟩) hgw).trans ((HB.out.cell (p := ⟨g, off + k * 5, none⟩) hgw).symm.trans c0), (hb9.cell (p := ⟨g, off + k * 5 + 1, none⟩) hgw).trans ((HB.out.cell (p := ⟨g, off + k * 5 + 1, none⟩) hgw).symm.trans c1), (hb9.cell (p := ⟨g, off + k * 5 + 2, none⟩) hgw).trans ((HB.out.cell (p := ⟨g, off + k * 5 + 2, none⟩) hgw).symm.trans c2), (hb9.cell (p := ⟨g, off + k * 5 + 3, none⟩) hgw).trans ((HB.out.cell (p := ⟨g, off + k * 5 + 3, none⟩) hgw).symm.trans c3), (hb9.cell (p := ⟨g, off + k * 5 + 4, none⟩) hgw).trans ((HB.out.cell (p := ⟨g, off + k * 5 + 4, none⟩) hgw).symm.trans c4)⟩)
        (first
          | (go_at_call 95; refine (invs16_any _ li _ ((HIN.out.1.below HB.out).below hbd) HFI.out).mono ?_; rintro e w5 ⟨vi, rfl, hown5, hb5'⟩; (have hb5 := below_chain2 hbd hb5'); obtain ⟨ai, ci, hvi, -⟩ := own_cells hown5; subst hvi; (have hs5 : wr.heap.size ≤ w5.heap.size := hb5.size); (have HOWN5 := Lib.hid hown5); clear hb5' hown5)
          | (refine step_append_lies _ (by rfl) _ _ _ (by rfl) w.heap.size 90 i0 _ 6 64 Try.underlying82 hi0 hz0 hz1 hz2 rfl (by omega) u3 D.length (flatDV D) (by rfl) ((own_below HO.out.own hb5).alloc _)
                    ⟨w5.heap.size, 0, none⟩ 1 1 (encDV (x, 0, .slice ai li.length ci, li)) (by rfl) (by rfl) (World.news_of_block (cs := #[.int .i64 x.id, .int .i64 x.wt, .int .i64 x.df, .int .i64 0, .slice ai li.length ci, .bool x.gv]) (t := 90) (fr := (0, 0)) (heap_alloc_new _ _)) (by simp [Value.oneCell', encDV]) (by omega) (by unfold maxLen; omega) (by omega) (by simp; omega) (w5.heap.size + 1) (by simp) ?_; intro gg gcap w9 hown9 hgrow hat hlt9; (have hb9 : Below w.heap.size w w9 := ((HB.out.trans (hb5.mono hw1)).alloc (by omega) _).grown hgrow (by simp; omega) (fun j hj => own_block HO.out.own j hj))))
      have hr9 := (show DIn w w9 (.slice (some ⟨gg, 0, none⟩) (D.length + 1) gcap) (D ++ [(x, 0, .slice ai li.length ci, li)]) from ⟨by rw [List.length_append, flatDV_snoc]; exact hown9, fun p hp => by
        have hkp : ∀ {e : TypeId} {s : Nat} {vv : Value} {m : Nat} {xs : List Value}, e ≠ 90 → w5.ownsRow w.heap.size e s vv m xs → w9.ownsRow w.heap.size e s vv m xs := fun hne h => World.ownsRow.kept (h.alloc _) hgrow (own_apart h (own_below HO.out.own hb5) hne)
        rcases List.mem_append.1 hp with hp | hp
        · exact ⟨hkp (by decide) (own_below (HO.out.inv p hp).1 hb5), (HO.out.inv p hp).2⟩
        · rw [List.mem_singleton] at hp
          subst hp
          exact ⟨hkp (by decide) (own_base HOWN5.out hw1), fun r hr => HIN.out.1.its r hr, HIN.out.2⟩⟩)
      rw [hll] at hr9
      have HR9 := Lib.hid hr9
      have HB9 := Lib.hid hb9
      clear hr9 hown9 hgrow hat hlt9 hb5 hb9 hbd hs5 hi0 hz0 hz1 hz2 hgw c0 c1 c2 c3 c4
      go_wp2_with fail
      go_roundg (l.length - (k + 1))
      case rel =>
        refine ⟨k + 1, _, rfl, by go_num, by omega, ?_, HR9.out, HB9.out⟩
        rw [List.map_append, HM.out, List.take_add_one, HXX.out]
        rfl
      case measure => have := HG.out; omega
    · have HK := Lib.hid (show D.map Prod.fst = l.map Prod.fst by rw [HM.out]; exact List.take_of_length_le (by rw [List.length_map]; omega))
      go_wp2_with fail
      go_ret
      exact ⟨_, D, rfl, HO.out.rows HB.out, HK.out, HB.out⟩
end Go.Proofs.Ytohkchilogmneaa
/-
  law16: Same, entry, num: the walks.
-/
namespace Go.Proofs.Ytohkchilogmneaa
open Go.RowKit Go.Sort
section
variable {pre : List Int} {ρ : Roles} {f : Nat} {q : Int} {gv : Bool} {rows : List TRow}
set_option maxRecDepth 100000 in
set_option maxHeartbeats 4000000 in
/-- THE WALK: Same. -/
theorem same16_any (q' : Int) (v : Value) (l : List DV) (w : World) (hR : ShareAt pre ρ w f q gv rows) (hf : totT rows ≤ 1000000) (hD : DRowsAt w v l) (hm : l.map Prod.fst = rows) : Calls Try.prog 39 #[.pointer (some ⟨f, 0, none⟩), .agg #[.int .i64 q', v, .bool gv]] w (TrueBelow w) := by
  have hfe := few_tot hR.fullT hf
  have HF := Lib.hid hf
  have HM := Lib.hid hm
  have HFE := Lib.hid hfe
  have HR := Lib.hid (hR.below (box_below (o := .cells #[.int .i64 q', v, .bool gv] 84)))
  have HD := Lib.hid (hD.below (box_below (o := .cells #[.int .i64 q', v, .bool gv] 84)))
  obtain ⟨a, cap, rfl, -⟩ := hD.form
  clear hR hf hD hm hfe
  go_enter Try.func39, Try.ntmps39
  go_upto_region 1 with fail
  obtain ⟨w1, hw1⟩ : ∃ w1 : World, w1 = w.alloc (.cells #[.int .i64 q', .slice a l.length cap, .bool gv] 84) := ⟨_, rfl⟩
  obtain ⟨bx, hbx⟩ : ∃ bx : Nat, bx = w.heap.size := ⟨_, rfl⟩
  rw [← hw1] at HR HD
  rw [← hw1, ← hbx]
  have hx1 : w1.heap[bx]? = some (.cells #[.int .i64 q', .slice a l.length cap, .bool gv] 84 (0, 0)) := by rw [hw1, hbx]; exact fr_alloc_at
  have HB1 := Lib.hid (show Below w.heap.size w w1 by rw [hw1]; exact box_below)
  have b0 : w1.cell? ⟨bx, 0, none⟩ = some (.int .i64 q') := fr_cell_of_heap hx1 rfl
  have b1 : w1.cell? ⟨bx, 1, none⟩ = some (.slice a l.length cap) := fr_cell_of_heap hx1 rfl
  have b2 : w1.cell? ⟨bx, 2, none⟩ = some (.bool gv) := fr_cell_of_heap hx1 rfl
  have h0 : Below w1.heap.size w1 w1.drew := ⟨rfl, rfl, rfl, Nat.le_refl _, fun _ _ => rfl⟩
  have HFD := Lib.hid (few_dv HD.out (by rw [HM.out]; exact HFE.out))
  clear hw1 hbx hx1
  go_region_held3 (fun w' => w'.cell? ⟨bx, 0, none⟩ = some (.int .i64 q') ∧ w'.cell? ⟨bx, 1, none⟩ = some (.slice a l.length cap) ∧ w'.cell? ⟨bx, 2, none⟩ = some (.bool gv))
    (first | go_keep | exact ⟨cell_below hb6 b0, cell_below hb6 b1, cell_below hb6 b2⟩ | exact ⟨cell_below hb7 b0, cell_below hb7 b1, cell_below hb7 b2⟩ | exact ⟨cell_below hb8 b0, cell_below hb8 b1, cell_below hb8 b2⟩ | exact ⟨cell_below hb9 b0, cell_below hb9 b1, cell_below hb9 b2⟩ | exact ⟨cell_below hb10 b0, cell_below hb10 b1, cell_below hb10 b2⟩ | exact ⟨cell_below hb11 b0, cell_below hb11 b1, cell_below hb11 b2⟩)
    (first
      | (go_at_call 77; refine (shareRows_any _ (HR.out.below h0)).mono ?_; rintro e w6 ⟨v6, l6, rfl, h6, hm6, hb6'⟩; (have hb6 := below_chain2 h0 hb6'); (have HR6 := Lib.hid h6.rows); (have HM6 := Lib.hid hm6); (have HFE6 := Lib.hid (few_tv h6.rows (by rw [hm6]; exact HFE.out))); clear hb6' h6 hm6)
      | (go_at_call 76; refine (rows16_any v6 l6 _ HR6.out HFE6.out.1 HFE6.out.2).mono ?_; rintro e w7 ⟨v7, l7, rfl, h7, hm7, hb7'⟩; (have hb7 := below_chain2 hb6 hb7'); (have HR7 := Lib.hid h7); (have HM7 := Lib.hid (hm7.trans HM6.out)); (have HFD7 := Lib.hid (few_dv h7 (by rw [hm7, HM6.out]; exact HFE.out))); clear hb7' h7 hm7)
      | (go_at_call 75; refine (r16Same_eq v7 _ l7 l _ HR7.out (HD.out.below hb7) (HM7.out.trans HM.out.symm) HFD7.out).mono ?_; rintro e w8 ⟨rfl, hb8'⟩; (have hb8 := below_chain2 hb7 hb8'); clear hb8')
      | (go_at_call 78; refine (shareGiven_any _ (HR.out.below hb8)).mono ?_; rintro e w9 ⟨rfl, hb9'⟩; (have hb9 := below_chain2 hb8 hb9'); clear hb9')
      | (go_at_call 66; refine (shareLen_any _ (HR.out.below hb9) HF.out).mono ?_; rintro e w10 ⟨rfl, hb10'⟩; (have hb10 := below_chain2 hb9 hb10'); clear hb10')
      | (go_at_call 79; refine (r16Len_any q' gv _ l _ (HD.out.below hb10) HFD.out (by rw [HM.out]; exact Nat.le_trans HF.out (by decide))).mono ?_; rintro e w11 ⟨rfl, hb11'⟩; rw [HM.out]; (have hb11 := below_chain2 hb10 hb11'); clear hb11'))
  go_wp2_with fail
  go_ret
  exact ⟨ret_bool (by simp), HB1.out.trans (hb11.mono HB1.out.size)⟩
end
set_option maxRecDepth 100000 in
set_option maxHeartbeats 1000000 in
theorem num16_any (e : Int) (w : World) : Calls Try.prog 30 #[.int .i64 e] w fun v w' => v = .returned (.int .i64 e) ∧ w = w' := by
  go_enter Try.func30, Try.ntmps30
  go_wp2
  go_ret
  exact ⟨rfl, rfl⟩
/-- An entry of weights 1. -/
def entry1 (ten inv id : Int) : Ent := ⟨⟨#[]⟩, 0, ten, 1, inv, 1, id, 2⟩
set_option maxRecDepth 100000 in
set_option maxHeartbeats 1000000 in
theorem entry16_any (ten inv id : Int) (w : World) : Calls Try.prog 65 #[.int .i64 ten, .int .i64 inv, .int .i64 id] w fun e w' => e = .returned (entV (entry1 ten inv id)) ∧ Below w.heap.size w w' := by
  go_enter Try.func65, Try.ntmps65
  go_upto_region 1 with fail
  obtain ⟨w1, hw1⟩ : ∃ w1 : World, w1 = w.alloc (.cells #[.string ⟨#[]⟩, .int .i64 0, .int .i64 0, .int .i64 0, .int .i64 0, .int .i64 0, .int .i64 0, .int .i64 0] 70) := ⟨_, rfl⟩
  obtain ⟨eb, heb⟩ : ∃ eb : Nat, eb = w.heap.size := ⟨_, rfl⟩
  rw [← hw1, ← heb]
  have HB1 := Lib.hid (show Below w.heap.size w w1 by rw [hw1]; exact box_below)
  have HE1 := Lib.hid (show w1.heap[eb]? = some (.cells #[.string ⟨#[]⟩, .int .i64 0, .int .i64 0, .int .i64 0, .int .i64 0, .int .i64 0, .int .i64 0, .int .i64 0] 70 (0, 0)) by rw [hw1, heb]; exact fr_alloc_at)
  have HEB := Lib.hid heb
  clear hw1 heb
  go_wp2_with (refine wpList_store_row rfl 70 _ _ rfl eb #[.string ⟨#[]⟩, .int .i64 0, .int .i64 ten, .int .i64 1, .int .i64 inv, .int .i64 1, .int .i64 id, .int .i64 2] rfl rfl 70 _ HE1.out (ent_sz (entry1 ten inv id)) rfl (ent_one (entry1 ten inv id)) ?_)
  refine bodyPost_ret (v := entV (entry1 ten inv id)) (results_row1 Try.results65 rfl (setRow_heap _ eb _ _ _ _ HE1.out) Try.underlying70 rfl (ent_sz (entry1 ten inv id))) rfl ⟨rfl, ?_⟩
  exact ((Fp.of_below (S := fun k => k = eb) HB1.out).setRow (fun _ => rfl)).below (Nat.le_refl _) (fun k hk e => by have := HEB.out; omega)
end Go.Proofs.Ytohkchilogmneaa
/-
  law16: a share in a law's walk; how many items wait; the page's example: the walks.
-/
namespace Go.Proofs.Ytohkchilogmneaa
open Go.RowKit Go.Sort

theorem totT_set : ∀ {rows : List TRow} {k : Nat} {r y : TRow}, rows[k]? = some r → totT (rows.set k y) + totR r.rows = totT rows + totR y.rows
  | [], _, _, _, h => by simp at h
  | x :: l, 0, r, y, h => by
    simp at h
    subst h
    simp [totT]
    omega
  | x :: l, k + 1, r, y, h => by
    have ih := totT_set (rows := l) (k := k) (y := y) (by simpa using h)
    simp [totT] at ih ⊢
    omega
theorem totT_erase : ∀ {rows : List TRow} {k : Nat}, totT (rows.eraseIdx k) ≤ totT rows
  | [], _ => by simp
  | x :: l, 0 => by simp [totT]
  | x :: l, k + 1 => by
    have := totT_erase (rows := l) (k := k)
    simp [totT] at this ⊢
    omega
theorem totT_with {rows : List TRow} {k : Nat} {r y : TRow} {gv : Bool} (h : rows[k]? = some r) (hy : totR y.rows ≤ totR r.rows) : totT (withT k y gv rows).2 ≤ totT rows := by
  unfold withT
  split
  · exact totT_erase
  · have := totT_set (y := y) h
    show totT (rows.set k y) ≤ _
    omega
theorem totT_push {e : Ent} {rows : List TRow} : totT (pushT e rows).2 ≤ totT rows + 1 := by
  rcases hfd : findT e.ten rows with _ | k
  · rw [pushT_none hfd]
    split
    · exact Nat.le_succ _
    · simp only
      split
      · have := tot_push (id := e.inv) (wt := e.iw) (x := itOf e) (rows := [])
        simp [totT, totR] at this ⊢
        omega
      · exact Nat.le_succ _
  · obtain ⟨r, hr, -⟩ := findT_at hfd
    rw [pushT_some hfd hr]
    split
    · exact Nat.le_succ _
    · have h1 := totT_set (y := { r with rows := stepPush e.inv e.iw (itOf e) r.rows }) hr
      have h2 := tot_push (id := e.inv) (wt := e.iw) (x := itOf e) (rows := r.rows)
      simp only at h1 ⊢
      omega
theorem totT_drop {id inv i : Int} {gv : Bool} {rows : List TRow} : totT (dropT id inv i gv rows).2.2 ≤ totT rows := by
  rcases hfd : findT id rows with _ | k
  · rw [dropT_none hfd]
    exact Nat.le_refl _
  · obtain ⟨r, hr, -⟩ := findT_at hfd
    rcases hd : (dropE inv i r.gv r.rows).1 with _ | _
    · rw [dropT_not hfd hr hd]
      exact Nat.le_refl _
    · rw [dropT_some hfd hr hd]
      exact totT_with hr drop_tot
theorem tookA_tot (s : Bool × List FRow) : totR (tookA s).2 ≤ totR s.2 := by
  unfold tookA
  split
  · rename_i r rs h
    rw [h]
    exact took_tot r rs
  · exact Nat.le_refl _
theorem totT_took (row : TRow) (rest : List TRow) : totT (tookT row rest).2 ≤ totT (row :: rest) := by
  unfold tookT
  exact totT_with (r := row) rfl (tookA_tot _)
theorem picksT_tot {q : Int} {gv : Bool} {l l2 : List TRow} (h : PicksT q gv l l2) : totT l2 = totT l := by
  induction h with
  | @grant gv x r l2 hp h =>
    have := picks_tot hp
    simp [totT]
    omega
  | @rotate gv x r l3 l2 hp h hr ih =>
    rw [ih]
    have := picks_tot hp
    simp [totT]
    omega
/-- A share in a law's walk. -/
structure SState (q : Int) (w : World) (f k : Nat) (gv : Bool) (rows : List TRow) (ρ : Roles) (wr : World) : Prop where
  ring : ShareAt [0] ρ wr f q gv rows
  few : totT rows ≤ k
  below : Below w.heap.size w wr
  news : NewRoles ρ [0] 0
  old : ∀ j, j < w.heap.size → ρ j = []
section
variable {q : Int} {w wr w' : World} {f k : Nat} {gv : Bool} {rows : List TRow} {ρ : Roles}
theorem SState.on (h : SState q w f k gv rows ρ wr) (hb : Below wr.heap.size wr w') : SState q w f k gv rows ρ w' :=
  ⟨h.ring.below hb, h.few, h.below.trans (hb.mono h.below.size), h.news, h.old⟩
theorem SState.turn (h : SState q w f k gv rows ρ wr) {ρ' : Roles} {gv' : Bool} {rows' : List TRow} {k' : Nat} (hl : Later ρ ρ' wr) (hn : NewRoles ρ' [0] wr.heap.size) (hR : ShareAt [0] ρ' w' f q gv' rows') (hF : Fp (Part ρ [0]) wr w') (hk : totT rows' ≤ k') : SState q w f k' gv' rows' ρ' w' :=
  ⟨hR, hk, below_of_fp (by decide) h.below hF h.old, news_later h.news hl hn, fun j hj => (hl j (Nat.lt_of_lt_of_le hj h.below.size)).trans (h.old j hj)⟩
theorem SState.keep (_h : SState q w f k gv rows ρ wr) (hF : Fp (Part ρ [0]) wr w') {b : Nat} {o : Obj} (hb : wr.heap[b]? = some o) (hr : ρ b = []) : w'.heap[b]? = some o := hF.heap hb (fun ⟨s, hs⟩ => by rw [hr] at hs; simp at hs)
theorem SState.fence (h : SState q w f k gv rows ρ wr) : SState q w f k gv rows (fence ρ wr) wr :=
  ⟨h.ring.later (fence_later ρ wr), h.few, h.below, fun j _ => by
    by_cases hj : j < wr.heap.size
    · have e := fence_later ρ wr j hj
      rcases h.news j (Nat.zero_le _) with h1 | ⟨s, h1⟩
      · exact .inl (e.trans h1)
      · exact .inr ⟨s, e.trans h1⟩
    · exact .inl (by simp [Proofs.Ytohkchilogmneaa.fence, hj]), fun j hj => (fence_later ρ wr j (Nat.lt_of_lt_of_le hj h.below.size)).trans (h.old j hj)⟩
theorem SState.more {k' : Nat} (h : SState q w f k gv rows ρ wr) (hk : k ≤ k') : SState q w f k' gv rows ρ wr := ⟨h.ring, Nat.le_trans h.few hk, h.below, h.news, h.old⟩
theorem SState.rlen (h : SState q w f k gv rows ρ wr) : rows.length ≤ k := Nat.le_trans (totT_len h.ring.fullT) h.few
theorem SState.push (h : SState q w f k gv rows ρ wr) (hk : k < 1000000) (E : Ent) (hten : I64 E.ten) (hinv : I64 E.inv) (hid : I64 E.id) :
    Calls Try.prog 31 #[.pointer (some ⟨f, 0, none⟩), entV E] wr fun e w' => e = .returned (.int .i64 (pushT E rows).1) ∧ ∃ ρ', SState q w f (k + 1) gv (pushT E rows).2 ρ' w' := by
  refine (sharePush_any (by decide) E wr h.ring hten hinv hid (Nat.lt_of_le_of_lt h.few hk) (Nat.lt_of_le_of_lt h.rlen hk)).mono ?_
  rintro e w' ⟨rfl, ρ', hl, hn, hR, hF⟩
  exact ⟨rfl, ρ', h.turn hl hn hR hF (Nat.le_trans totT_push (Nat.succ_le_succ h.few))⟩
end
theorem shareNew_state (q : Int) (w w' : World) (h1 : 1 ≤ q) (h2 : q ≤ 64) (hw : w' = (w.alloc (.cells #[.int .i64 q, .slice none 0 0, .bool false] 100)).alloc (.cells #[.pointer (some ⟨w.heap.size, 0, none⟩)] 131)) : ∃ ρ, SState q w (w.heap.size + 1) 0 false [] ρ w' := by
  refine ⟨fun k => if k = w.heap.size then [0] ++ [1] else if k = w.heap.size + 1 then [0] ++ [6] else [], by rw [hw]; exact shareNew_at w h1 h2 (by simp) (by simp), by simp [totT], by rw [hw]; exact box_below.alloc (by simp) _, fun k _ => ?_, fun k hk => by simp [show k ≠ w.heap.size by omega, show k ≠ w.heap.size + 1 by omega]⟩
  unfold Part
  by_cases h1 : k = w.heap.size
  · simp only [h1, if_true]
    exact .inr ⟨[1], rfl⟩
  · by_cases h2 : k = w.heap.size + 1
    · rw [h2]
      simp
    · simp [h1, h2]
/-! ### The pick as a function -/
def pickR (q : Int) (m : Nat) (gv : Bool) (x : TRow) : TRow := { chargeT q gv x with gv := true, rows := goR q m x.gv x.rows }
def goT (q : Int) (m : Nat) : Nat → Bool → List TRow → List TRow
  | 0, _, l => l
  | _, _, [] => []
  | n + 1, gv, x :: r => if (headIt (goR q m x.gv x.rows)).cost ≤ (chargeT q gv x).df then pickR q m gv x :: r else goT q m n false (r ++ [pickR q m gv x])
def endsT (q : Int) (m : Nat) : Nat → Bool → List TRow → Bool
  | 0, _, _ => false
  | _, _, [] => false
  | n + 1, gv, x :: r => ends q m x.gv x.rows && (decide ((headIt (goR q m x.gv x.rows)).cost ≤ (chargeT q gv x).df) || endsT q m n false (r ++ [pickR q m gv x]))
theorem goT_picks {q : Int} {m : Nat} : ∀ {n : Nat} {gv : Bool} {l : List TRow}, endsT q m n gv l = true → PicksT q gv l (goT q m n gv l)
  | 0, _, _, h => by simp [endsT] at h
  | n + 1, _, [], h => by simp [endsT] at h
  | n + 1, gv, x :: r, h => by
    unfold endsT at h
    unfold goT
    rw [Bool.and_eq_true] at h
    by_cases hc : (headIt (goR q m x.gv x.rows)).cost ≤ (chargeT q gv x).df
    · rw [if_pos hc]
      exact .grant (goR_picks h.1) hc
    · rw [if_neg hc]
      have h2 := h.2
      rw [decide_eq_false hc, Bool.false_or] at h2
      exact .rotate (goR_picks h.1) hc (goT_picks h2)
def liveP (k : Nat) : Ent := entry1 0 1 ((k : Int) + 1)
def liveQ (k : Nat) : Ent := entry1 0 2 (10 + ((k : Int) + 1))
def liveS (k : Nat) : Ent := entry1 5 3 (20 + ((k : Int) + 1))
def liveTR : Nat → List TRow
  | 0 => []
  | k + 1 => (pushT (liveS k) (pushT (liveQ k) (pushT (liveP k) (liveTR k)).2).2).2
def takeT (q : Int) (m n : Nat) (s : Bool × List TRow) : Bool × List TRow := match goT q m n s.1 s.2 with
  | row :: rest => tookT row rest
  | [] => s
def liveTT : Nat → Bool × List TRow
  | 0 => (false, liveTR 3)
  | j + 1 => takeT 2 10 10 (liveTT j)
def liveID (j : Nat) : Int := ((goT 2 10 10 (liveTT j).1 (liveTT j).2).head?.map TRow.id).getD (-1)
def liveN : Nat → Nat
  | 0 => 0
  | j + 1 => liveN j + (if liveID j = 5 then 1 else 0)
theorem live16_push : ∀ k : Nat, k < 3 → (pushT (liveP k) (liveTR k)).1 = 0 ∧ (pushT (liveQ k) (pushT (liveP k) (liveTR k)).2).1 = 0 ∧ (pushT (liveS k) (pushT (liveQ k) (pushT (liveP k) (liveTR k)).2).2).1 = 0 := by decide
theorem live16_take : ∀ j : Nat, j < 4 → endsT 2 10 10 (liveTT j).1 (liveTT j).2 = true ∧ (liveTT j).2.isEmpty = false ∧ (goT 2 10 10 (liveTT j).1 (liveTT j).2).head?.map TRow.id = some (liveID j) := by decide
theorem live16_end : liveN 4 = 2 ∧ totT (liveTT 4).2 = 5 := by decide
theorem liveN_le : ∀ j, liveN j ≤ j
  | 0 => Nat.le_refl _
  | j + 1 => by
    have := liveN_le j
    unfold liveN
    split <;> omega
set_option maxRecDepth 100000 in
set_option maxHeartbeats 8000000 in
/-- THE WALK: live. -/
theorem live16_any (w : World) : Calls Try.prog 29 #[] w (TrueBelow w) := by
  go_enter Try.func29, Try.ntmps29
  go_wp2_with fail
  refine (shareNew_any 2 _ (by decide) (by decide)).mono ?_
  rintro e w1 ⟨rfl, hw1⟩
  have HS := Lib.hid (shareNew_state 2 w w1 (by decide) (by decide) hw1)
  clear hw1
  go_wp2_with fail
  go_loopg [2] 3 (fun g i wr => ∃ (k : Nat) (ρ : Roles), g = 3 - k ∧ i = .int .i64 ((k : Int) + 1) ∧ k ≤ 3 ∧ SState 2 w (w.heap.size + 1) (3 * k) false (liveTR k) ρ wr)
  case atStart =>
    obtain ⟨ρ, h⟩ := HS.out
    exact ⟨0, ρ, rfl, rfl, by omega, h⟩
  case round =>
    obtain ⟨k, ρ, hg, rfl, hk, hS⟩ := hrel
    have HG := Lib.hid hg
    have HST := Lib.hid hS
    clear hg hS HS
    by_cases hlt : k < 3
    · have HP := Lib.hid (live16_push k hlt)
      go_wp2_with fail
      refine (entry16_any 0 1 _ _).mono ?_
      rintro e w2 ⟨rfl, hb2⟩
      have HS2 := Lib.hid (HST.out.on hb2)
      clear hb2
      go_wp2_with fail
      refine (HS2.out.push (by omega) (liveP k) (show I64 0 from i64_of (by omega)) (show I64 1 from i64_of (by omega)) (i64_of (n := (k : Int) + 1) (by omega))).mono ?_
      rintro e w3 ⟨rfl, ρ3, hS3⟩
      rw [HP.out.1]
      have HS3 := Lib.hid hS3
      clear hS3
      go_wp2_with fail
      refine (num16_any 0 _).mono ?_
      rintro e w4 ⟨rfl, rfl⟩
      go_wp2_with fail
      refine (entry16_any 0 2 _ _).mono ?_
      rintro e w5 ⟨rfl, hb5⟩
      have HS5 := Lib.hid (HS3.out.on hb5)
      clear hb5
      go_wp2_with fail
      refine (HS5.out.push (by omega) (liveQ k) (show I64 0 from i64_of (by omega)) (show I64 2 from i64_of (by omega)) (i64_of (n := 10 + ((k : Int) + 1)) (by omega))).mono ?_
      rintro e w6 ⟨rfl, ρ6, hS6⟩
      rw [HP.out.2.1]
      have HS6 := Lib.hid hS6
      clear hS6
      go_wp2_with fail
      refine (num16_any 0 _).mono ?_
      rintro e w7 ⟨rfl, rfl⟩
      go_wp2_with fail
      refine (entry16_any 5 3 _ _).mono ?_
      rintro e w8 ⟨rfl, hb8⟩
      have HS8 := Lib.hid (HS6.out.on hb8)
      clear hb8
      go_wp2_with fail
      refine (HS8.out.push (by omega) (liveS k) (show I64 5 from i64_of (by omega)) (show I64 3 from i64_of (by omega)) (i64_of (n := 20 + ((k : Int) + 1)) (by omega))).mono ?_
      rintro e w9 ⟨rfl, ρ9, hS9⟩
      rw [HP.out.2.2]
      have HS9 := Lib.hid hS9
      clear hS9
      go_wp2_with fail
      refine (num16_any 0 _).mono ?_
      rintro e w10 ⟨rfl, rfl⟩
      go_wp2_with fail
      go_roundg (3 - (k + 1))
      case rel => exact ⟨k + 1, ρ9, rfl, by go_num, by omega, HS9.out.more (by omega)⟩
      case measure => have := HG.out; omega
    · obtain rfl : k = 3 := by omega
      go_wp2_with fail
      go_loopg [4, 3] 4 (fun g i n wr => ∃ (j : Nat) (ρ : Roles), g = 4 - j ∧ i = .int .i64 j ∧ n = .int .i64 (liveN j) ∧ j ≤ 4 ∧ SState 2 w (w.heap.size + 1) 9 (liveTT j).1 (liveTT j).2 ρ wr)
      case atStart => exact ⟨0, ρ, rfl, rfl, rfl, by omega, HST.out⟩
      case round =>
        obtain ⟨j, ρ, hg, rfl, rfl, hj, hS⟩ := hrel
        have HG := Lib.hid hg
        have HSJ := Lib.hid hS
        clear hg hS
        by_cases hlt : j < 4
        · have HT := Lib.hid (live16_take j hlt)
          have HN := Lib.hid (liveN_le j)
          go_wp2_with fail
          refine (shareTake_cons (pre := [0]) (by decide) _ HSJ.out.ring (fun e => by have h := HT.out.2.1; rw [e] at h; simp at h)).mono ?_
          rintro e w3 ⟨row, rest, ρ', rfl, hp, hl, hn, hR3, hF⟩
          have hg := hp.once (goT_picks HT.out.1)
          have hnext : liveTT (j + 1) = tookT row rest := by
            show takeT 2 10 10 (liveTT j) = _
            unfold takeT
            rw [← hg]
          have hid := HT.out.2.2
          rw [← hg] at hid
          have hid2 : row.id = liveID j := Option.some.inj hid
          rw [← hnext] at hR3
          have HS3 := Lib.hid (HSJ.out.turn (k' := 9) hl hn hR3 hF (by rw [hnext]; exact Nat.le_trans (totT_took row rest) (by rw [picksT_tot hp]; exact HSJ.out.few)))
          obtain ⟨E, hE⟩ : ∃ E, E = entOf row := ⟨_, rfl⟩
          have HET := Lib.hid (show E.ten = liveID j by rw [hE, ← hid2]; rfl)
          rw [← hE]
          clear hp hl hn hR3 hF hg hnext hid hid2 hE
          unfold entV entC
          go_upto_region 12 with fail
          have HS4 := Lib.hid (HS3.out.on (box_below (o := .cells #[.string E.need, .int .i64 E.cls, .int .i64 E.ten, .int .i64 E.tw, .int .i64 E.inv, .int .i64 E.iw, .int .i64 E.id, .int .i64 E.cost] 70)))
          have z2 : (w3.alloc (.cells #[.string E.need, .int .i64 E.cls, .int .i64 E.ten, .int .i64 E.tw, .int .i64 E.inv, .int .i64 E.iw, .int .i64 E.id, .int .i64 E.cost] 70)).cell? ⟨w3.heap.size, 2, none⟩ = some (.int .i64 E.ten) := fr_cell_of_heap fr_alloc_at rfl
          by_cases h5 : E.ten = 5
          · have hb : (E.ten == 5) = true := beq_iff_eq.2 h5
            have H5 := Lib.hid (show liveN (j + 1) = liveN j + 1 by
              rw [HET.out] at h5
              show liveN j + (if liveID j = 5 then 1 else 0) = _
              rw [if_pos h5])
            clear h5
            go_wp2_with fail
            go_roundg (4 - (j + 1))
            case rel =>
              have hn := HN.out
              refine ⟨j + 1, ρ', rfl, by go_num, ?_, by omega, HS4.out⟩
              rw [H5.out, show wrap64 (((liveN j : Nat) : Int) + 1) = ((liveN j + 1 : Nat) : Int) by unfold wrap64; omega]
            case measure => have := HG.out; omega
          · have hb : (E.ten == 5) = false := beq_eq_false_iff_ne.2 h5
            have H5 := Lib.hid (show liveN (j + 1) = liveN j by
              rw [HET.out] at h5
              show liveN j + (if liveID j = 5 then 1 else 0) = _
              rw [if_neg h5]
              rfl)
            clear h5
            go_wp2_with fail
            go_roundg (4 - (j + 1))
            case rel => exact ⟨j + 1, ρ', rfl, by go_num, by rw [H5.out], by omega, HS4.out⟩
            case measure => have := HG.out; omega
        · obtain rfl : j = 4 := by omega
          rw [live16_end.1]
          go_wp2_with fail
          refine (shareLen_any _ HSJ.out.ring (Nat.le_trans HSJ.out.few (by decide))).mono ?_
          rintro e w3 ⟨rfl, hb3⟩
          rw [live16_end.2]
          have HB3 := Lib.hid (HSJ.out.below.trans (hb3.mono HSJ.out.below.size))
          clear hb3
          go_wp2_with fail
          go_ret
          exact ⟨rfl, HB3.out⟩
end Go.Proofs.Ytohkchilogmneaa
/-
  Two entries that are the same: what '==' tells.
-/
namespace Go.Proofs.Ytohkchilogmneaa
open Go.RowKit

theorem eqFields_same {P : Program} (d : Nat) (xs : Array Value) (w : World) : ∀ (fs : List Field), (∀ f ∈ fs, ∃ v, (part f.type xs f.offset).run P w = .ok v w ∧ (Op.equalIn d f.type v v).run P w = .ok true w) → (Op.eqFields d xs xs fs).run P w = .ok true w
  | [], _ => by simp [Op.eqFields]
  | f :: fs, h => by
    obtain ⟨v, h1, h2⟩ := h f (by simp)
    have ih := eqFields_same d xs w fs (fun g hg => h g (by simp [hg]))
    rw [Op.eqFields]
    split
    · simp only [Sem.run_bind, h1, Result.andThen_ok, h2, Bool.not_true, Bool.false_eq_true, if_false]
      exact ih
    · exact ih
theorem ent_eq_self (o : Ent) (w : World) : (binOp .eql 70 (entV o) (entV o)).run Try.prog w = .ok (.bool true) w := by
  unfold entV
  rw [run_eql_struct, show (10000 : Nat) = 9999 + 1 from rfl, run_equalIn_agg w 9999 70 _ _ (by kernel_rfl) (by kernel_rfl)]
  have h : (Op.eqFields 9999 (entC o) (entC o) (Try.prog.fieldsOf 70).toList).run Try.prog w = .ok true w := by
    refine eqFields_same _ _ _ _ ?_
    simp only [Program.fieldsOf, Try.underlying70]
    simp only [List.forall_mem_cons]
    refine ⟨⟨.string o.need, by (simp only [entC]; go_simp), by (go_simp; try simp)⟩, ⟨.int .i64 o.cls, by (simp only [entC]; go_simp), by (go_simp; try simp)⟩, ⟨.int .i64 o.ten, by (simp only [entC]; go_simp), by (go_simp; try simp)⟩, ⟨.int .i64 o.tw, by (simp only [entC]; go_simp), by (go_simp; try simp)⟩, ⟨.int .i64 o.inv, by (simp only [entC]; go_simp), by (go_simp; try simp)⟩, ⟨.int .i64 o.iw, by (simp only [entC]; go_simp), by (go_simp; try simp)⟩, ⟨.int .i64 o.id, by (simp only [entC]; go_simp), by (go_simp; try simp)⟩, ⟨.int .i64 o.cost, by (simp only [entC]; go_simp), by (go_simp; try simp)⟩, ?_⟩
    simp
  rw [h]
  rfl
theorem ent_guard : Try.prog.eqGuardType Try.prog.depth 70 = false := by kernel_rfl
/-- '==' of an entry and itself. -/
theorem wpList_ent_eql {w : World} {ops : Array Oper} {rest : List Oper} {o : Oper} {a : Act} {Q : Exit → Act → World → Prop} {p : Ent} {tr : TypeId} (hgd : o.guard = none) (x y : Operand) (ho : o.op = .binOp .eql 70 x y tr)
    (hx : a.eval x = entV p) (hy : a.eval y = entV p) (h : wpList Try.prog ops Q rest (a.put o.dst (.bool true)) w) : wpList Try.prog ops Q (o :: rest) a w := by
  refine wpList_plain hgd fun K hK => ?_
  have hrun : (execOp a.eval o).run Try.prog w = .ok (.value (.bool true)) w := by
    simp only [execOp, ho, hx, hy, Sem.run_bind, entV, run_eqGuard_agg _ _ _ _ _ _ _ ent_guard, Result.andThen_ok]
    have h := ent_eq_self p w
    unfold entV at h
    rw [h]
    rfl
  unfold Oper.wp
  rw [hrun, Oper.upon_value]
  exact hK _ _ h
end Go.Proofs.Ytohkchilogmneaa
/-
  law16: a share and the document's, side by side.
-/
namespace Go.Proofs.Ytohkchilogmneaa
open Go.RowKit Go.Sort

theorem ShareAt.once {pre : List Int} {ρ : Roles} {w : World} {f : Nat} {q : Int} {gv : Bool} {rows : List TRow} (h : ShareAt pre ρ w f q gv rows) : ∀ x ∈ rows, ∀ r ∈ x.rows, (r.its.map It.id).Nodup := by
  obtain ⟨sp, v, ns, fb, a, h, rfl⟩ := h
  intro x hx
  obtain ⟨n, hn, rfl⟩ := List.mem_map.1 hx
  exact (h.pre'.ring n hn).once
theorem ShareAt.qs {pre : List Int} {ρ : Roles} {w : World} {f : Nat} {q : Int} {gv : Bool} {rows : List TRow} (h : ShareAt pre ρ w f q gv rows) : 1 ≤ q ∧ q ≤ 64 := by
  obtain ⟨sp, v, ns, fb, a, h, rfl⟩ := h
  exact ⟨h.pre'.q1, h.pre'.q2⟩
/-- A share and the document's, each with its rows. -/
structure BothS (q : Int) (w : World) (f b k : Nat) (gv : Bool) (rows : List TRow) (ρ : Roles) (wr : World) (gd : Bool) (v : Value) (l : List DV) : Prop where
  st : SState q w f k gv rows ρ wr
  doc : RefS (Free ρ b) wr b q gd v l
  nb : ρ b = []
  wb : w.heap.size ≤ b
section
variable {q : Int} {w wr w' : World} {f b k k' : Nat} {gv gd gv' gd' : Bool} {rows rows' : List TRow} {ρ ρ' : Roles} {v v' : Value} {l l' : List DV}
theorem BothS.on (h : BothS q w f b k gv rows ρ wr gd v l) (hb : Below wr.heap.size wr w') : BothS q w f b k gv rows ρ w' gd v l := ⟨h.st.on hb, h.doc.below hb, h.nb, h.wb⟩
theorem BothS.more (h : BothS q w f b k gv rows ρ wr gd v l) (hk : k ≤ k') : BothS q w f b k' gv rows ρ wr gd v l := ⟨h.st.more hk, h.doc, h.nb, h.wb⟩
theorem BothS.ring (h : BothS q w f b k gv rows ρ wr gd v l) (hl : Later ρ ρ' wr) (hn : NewRoles ρ' [0] wr.heap.size) (hR : ShareAt [0] ρ' w' f q gv' rows') (hF : Fp (Part ρ [0]) wr w') (hk : totT rows' ≤ k') : BothS q w f b k' gv' rows' (fence ρ' w') w' gd v l := by
  have hS : ∀ j, ρ j = [] → ¬ Part ρ [0] j := fun j hj ⟨s, hs⟩ => by
    rw [hj] at hs
    simp at hs
  have hbw := fp_lt_of_heap h.doc.head
  have hfl := fence_later ρ' w'
  have hlt : ∀ j, j < wr.heap.size → ρ j = [] → fence ρ' w' j = [] := fun j hj h0 => by
    rw [hfl j (Nat.lt_of_lt_of_le hj hF.size), hl j hj, h0]
  refine ⟨(h.st.turn hl hn hR hF hk).fence, h.doc.move hF (hS b h.nb) (fun j hj hG => ⟨⟨hG.1, hlt j hj hG.2⟩, hS j hG.2⟩) (fun hb => hb.1 rfl) (fun j hj => ⟨fun e => ?_, by simp [fence, Nat.not_lt.2 hj]⟩), hlt b hbw h.nb, h.wb⟩
  have := hF.size
  omega
theorem BothS.docs (h : BothS q w f b k gv rows ρ wr gd v l) (hF : Fp (fun j => j = b) wr w') (hR : RefS (Free ρ b) w' b q gd' v' l') : BothS q w f b k gv rows ρ w' gd' v' l' := by
  refine ⟨⟨h.st.ring.frame hF (fun j _ ⟨s, hs⟩ e => ?_), h.st.few, ?_, h.st.news, h.st.old⟩, hR, h.nb, h.wb⟩
  · rw [e, h.nb] at hs
    simp at hs
  · exact h.st.below.trans (hF.below h.st.below.size (fun j hj e => by have := h.wb; omega))
theorem BothS.ring_kept (_h : BothS q w f b k gv rows ρ wr gd v l) (hl : Later ρ ρ' wr) (hF : Fp (Part ρ [0]) wr w') : Kept ρ (fence ρ' w') b wr w' := fun j o hj hf => by
  have hlt := fp_lt_of_heap hj
  refine ⟨hF.heap hj (fun ⟨s, hs⟩ => by rw [hf.2] at hs; simp at hs), hf.1, ?_⟩
  rw [fence_later ρ' w' j (Nat.lt_of_lt_of_le hlt hF.size), hl j hlt, hf.2]
theorem BothS.push_ring (h : BothS q w f b k gv rows ρ wr gd v l) (hk : k < 1000000) (E : Ent) (hten : I64 E.ten) (hinv : I64 E.inv) (hid : I64 E.id) :
    Calls Try.prog 31 #[.pointer (some ⟨f, 0, none⟩), entV E] wr fun e w' => e = .returned (.int .i64 (pushT E rows).1) ∧ ∃ ρ', BothS q w f b (k + 1) gv (pushT E rows).2 ρ' w' gd v l ∧ Kept ρ ρ' b wr w' := by
  refine (sharePush_any (by decide) E wr h.st.ring hten hinv hid (Nat.lt_of_le_of_lt h.st.few hk) (Nat.lt_of_le_of_lt h.st.rlen hk)).mono ?_
  rintro e w' ⟨rfl, ρ', hl, hn, hR, hF⟩
  exact ⟨rfl, _, h.ring hl hn hR hF (Nat.le_trans totT_push (Nat.succ_le_succ h.st.few)), h.ring_kept hl hF⟩
theorem BothS.push_doc (h : BothS q w f b k gv rows ρ wr gd v l) (E : Ent) {dr : List TRow} (hm : l.map Prod.fst = dr) (hfull : ∀ x ∈ dr, x.rows ≠ [] ∧ ∀ r ∈ x.rows, r.its ≠ []) (hf : totT dr < 1000000) :
    Calls Try.prog 71 #[.pointer (some ⟨b, 0, none⟩), entV E] wr fun e w' => e = .returned (.int .i64 (pushT E dr).1) ∧ ∃ v' l', BothS q w f b k gv rows ρ w' gd v' l' ∧ l'.map Prod.fst = (pushT E dr).2 ∧ Kept ρ ρ b wr w' := by
  subst hm
  refine (r16Push_any E b q gd v l wr h.doc hfull hf (by have := totT_len hfull; rw [List.length_map] at this; omega)).mono ?_
  rintro e w' ⟨rfl, hF, v', l', hR, hm⟩
  exact ⟨rfl, v', l', h.docs hF hR, hm, docs_kept hF⟩
theorem BothS.drop_ring (h : BothS q w f b k gv rows ρ wr gd v l) (id inv i : Int) (hi : I64 i) :
    Calls Try.prog 35 #[.pointer (some ⟨f, 0, none⟩), .int .i64 id, .int .i64 inv, .int .i64 i] wr fun e w' => e = .returned (.bool (dropT id inv i gv rows).1) ∧ ∃ ρ', BothS q w f b k (dropT id inv i gv rows).2.1 (dropT id inv i gv rows).2.2 ρ' w' gd v l ∧ Kept ρ ρ' b wr w' := by
  refine (shareDrop_any id inv i wr h.st.ring hi).mono ?_
  rintro e w' ⟨rfl, hR, hF⟩
  have hn : NewRoles ρ [0] wr.heap.size := fun j _ => h.st.news j (Nat.zero_le _)
  exact ⟨rfl, _, h.ring (Later.refl _ _) hn hR hF (Nat.le_trans totT_drop h.st.few), h.ring_kept (Later.refl _ _) hF⟩
theorem BothS.drop_doc (h : BothS q w f b k gv rows ρ wr gd v l) (id inv i : Int) {dr : List TRow} (hm : l.map Prod.fst = dr) (hfull : ∀ x ∈ dr, x.rows ≠ [] ∧ ∀ r ∈ x.rows, r.its ≠ []) :
    Calls Try.prog 74 #[.pointer (some ⟨b, 0, none⟩), .int .i64 id, .int .i64 inv, .int .i64 i] wr fun e w' => e = .returned (.bool (dropT id inv i gd dr).1) ∧ ∃ v' l', BothS q w f b k gv rows ρ w' (dropT id inv i gd dr).2.1 v' l' ∧ l'.map Prod.fst = (dropT id inv i gd dr).2.2 ∧ Kept ρ ρ b wr w' := by
  subst hm
  refine (r16Drop_any id inv i b q gd v l wr h.doc (fun x hx => (hfull x hx).2)).mono ?_
  rintro e w' ⟨rfl, hF, v', l', hR, hm⟩
  exact ⟨rfl, v', l', h.docs hF hR, hm, docs_kept hF⟩
end
def TwinS (q : Int) (w : World) (f b k : Nat) (wr : World) : Prop := ∃ gv rows ρ v l, BothS q w f b k gv rows ρ wr gv v l ∧ l.map Prod.fst = rows
def TwinSPost (q : Int) (w : World) (f b k : Nat) (e : Ending) (w' : World) : Prop := e = .returned (.bool true) ∧ TwinS q w f b k w'
/-- A call. -/
structure Sc where
  kind : Int
  e : Ent
def encSc (x : Sc) : List Value := [.int .i64 x.kind, .string x.e.need, .int .i64 x.e.cls, .int .i64 x.e.ten, .int .i64 x.e.tw, .int .i64 x.e.inv, .int .i64 x.e.iw, .int .i64 x.e.id, .int .i64 x.e.cost]
theorem encSc_len (x : Sc) : (encSc x).length = 9 := rfl
def EntOk (e : Ent) : Prop := I64 e.cls ∧ I64 e.ten ∧ I64 e.tw ∧ I64 e.inv ∧ I64 e.iw ∧ I64 e.id ∧ I64 e.cost
def scV (x : Sc) : Value := .agg #[.int .i64 x.kind, .string x.e.need, .int .i64 x.e.cls, .int .i64 x.e.ten, .int .i64 x.e.tw, .int .i64 x.e.inv, .int .i64 x.e.iw, .int .i64 x.e.id, .int .i64 x.e.cost]
def scO (x : Sc) : Obj := .cells #[.int .i64 x.kind, .string x.e.need, .int .i64 x.e.cls, .int .i64 x.e.ten, .int .i64 x.e.tw, .int .i64 x.e.inv, .int .i64 x.e.iw, .int .i64 x.e.id, .int .i64 x.e.cost] 72 (0, 0)
/-- The entry's cells in a call's box. -/
def ScCells (w : World) (bx : Nat) (x : Sc) : Prop := w.cell? ⟨bx, 1, none⟩ = some (.string x.e.need) ∧ w.cell? ⟨bx, 2, none⟩ = some (.int .i64 x.e.cls) ∧ w.cell? ⟨bx, 3, none⟩ = some (.int .i64 x.e.ten) ∧ w.cell? ⟨bx, 4, none⟩ = some (.int .i64 x.e.tw) ∧ w.cell? ⟨bx, 5, none⟩ = some (.int .i64 x.e.inv) ∧ w.cell? ⟨bx, 6, none⟩ = some (.int .i64 x.e.iw) ∧ w.cell? ⟨bx, 7, none⟩ = some (.int .i64 x.e.id) ∧ w.cell? ⟨bx, 8, none⟩ = some (.int .i64 x.e.cost)
theorem sc_cells {w : World} {bx : Nat} {x : Sc} (h : w.heap[bx]? = some (scO x)) : ScCells w bx x :=
  ⟨fr_cell_of_heap h rfl, fr_cell_of_heap h rfl, fr_cell_of_heap h rfl, fr_cell_of_heap h rfl, fr_cell_of_heap h rfl, fr_cell_of_heap h rfl, fr_cell_of_heap h rfl, fr_cell_of_heap h rfl⟩
theorem sc_cells3 {w : World} {bx : Nat} {x : Sc} (h : w.heap[bx]? = some (scO x)) : w.cell? ⟨bx, 3, none⟩ = some (.int .i64 x.e.ten) ∧ w.cell? ⟨bx, 5, none⟩ = some (.int .i64 x.e.inv) ∧ w.cell? ⟨bx, 7, none⟩ = some (.int .i64 x.e.id) :=
  ⟨fr_cell_of_heap h rfl, fr_cell_of_heap h rfl, fr_cell_of_heap h rfl⟩
section
variable {q : Int} {w wr : World} {f b k : Nat} {gv : Bool} {rows : List TRow} {ρ : Roles} {v : Value} {l : List DV}
set_option maxRecDepth 100000 in
set_option maxHeartbeats 4000000 in
theorem does16_push (x : Sc) (hx : EntOk x.e) (hk0 : x.kind = 0) (h : BothS q w f b k gv rows ρ wr gv v l) (hm : l.map Prod.fst = rows) (hk : k < 1000000) :
    Calls Try.prog 38 #[.pointer (some ⟨f, 0, none⟩), .pointer (some ⟨b, 0, none⟩), scV x] wr (TwinSPost q w f b (k + 1)) := by
  have HX := Lib.hid hx
  have HM := Lib.hid hm
  have HK := Lib.hid hk
  have HFULL := Lib.hid h.st.ring.fullT
  have HTOT := Lib.hid (show totT rows < 1000000 by have := h.st.few; omega)
  have hkb : (x.kind == 0) = true := beq_iff_eq.2 hk0
  have H := Lib.hid h
  clear h hx hm hk hk0
  unfold scV
  go_enter Try.func38, Try.ntmps38
  go_upto_region 1 with fail
  obtain ⟨w1, hw1⟩ : ∃ w1 : World, w1 = wr.alloc (.cells #[.int .i64 x.kind, .string x.e.need, .int .i64 x.e.cls, .int .i64 x.e.ten, .int .i64 x.e.tw, .int .i64 x.e.inv, .int .i64 x.e.iw, .int .i64 x.e.id, .int .i64 x.e.cost] 72) := ⟨_, rfl⟩
  obtain ⟨bx, hbx⟩ : ∃ bx : Nat, bx = wr.heap.size := ⟨_, rfl⟩
  rw [← hw1, ← hbx]
  have hx1 : w1.heap[bx]? = some (scO x) := by rw [hw1, hbx]; exact fr_alloc_at
  have HX1 := Lib.hid hx1
  have HXF := Lib.hid (show Free ρ b bx by rw [hbx]; exact H.out.doc.up _ (Nat.le_refl _))
  have HBD := Lib.hid (show BothS q w f b k gv rows ρ w1.drew gv v l by rw [hw1]; exact (H.out.on box_below).on ⟨rfl, rfl, rfl, Nat.le_refl _, fun _ _ => rfl⟩)
  have HXD := Lib.hid (show w1.drew.heap[bx]? = some (scO x) from hx1)
  have c0 : w1.cell? ⟨bx, 0, none⟩ = some (.int .i64 x.kind) := fr_cell_of_heap hx1 rfl
  obtain ⟨c1, c2, c3, c4, c5, c6, c7, c8⟩ := sc_cells hx1
  clear hw1 hbx hx1
  go_upto_region 3 with fail
  go_region_held3 (fun w' => w'.cell? ⟨bx, 1, none⟩ = some (.string x.e.need) ∧ w'.cell? ⟨bx, 2, none⟩ = some (.int .i64 x.e.cls) ∧ w'.cell? ⟨bx, 3, none⟩ = some (.int .i64 x.e.ten) ∧ w'.cell? ⟨bx, 4, none⟩ = some (.int .i64 x.e.tw) ∧ w'.cell? ⟨bx, 5, none⟩ = some (.int .i64 x.e.inv) ∧ w'.cell? ⟨bx, 6, none⟩ = some (.int .i64 x.e.iw) ∧ w'.cell? ⟨bx, 7, none⟩ = some (.int .i64 x.e.id) ∧ w'.cell? ⟨bx, 8, none⟩ = some (.int .i64 x.e.cost))
    (first | go_keep | exact sc_cells hx7.out | exact sc_cells hx8.out | exact sc_cells hx9.out)
    (first
      | (go_at_call 30; refine (num16_any _ _).mono ?_; rintro e w10 ⟨rfl, rfl⟩)
      | (go_at_call 31; refine (HB8.out.push_ring HK.out x.e HX.out.2.1 HX.out.2.2.2.1 HX.out.2.2.2.2.2.1).mono ?_; rintro e w9 ⟨rfl, ρ9, hb9, hk9⟩; (have HB9 := Lib.hid hb9); (have hx9 := Lib.hid (hk9 _ _ hx8.out HXF.out).1); (have HT := Lib.hid (show TwinS q w f b (k + 1) w9 from ⟨_, _, _, _, _, hb9, HM8.out⟩)); clear hb9 hk9)
      | (go_at_call 31; refine (HBD.out.push_ring HK.out x.e HX.out.2.1 HX.out.2.2.2.1 HX.out.2.2.2.2.2.1).mono ?_; rintro e w7 ⟨rfl, ρ7, hb7, hk7⟩; (have HB7 := Lib.hid hb7); (have hx7 := Lib.hid (hk7 _ _ HXD.out HXF.out).1); (have HXF7 := Lib.hid (hk7 _ _ HXD.out HXF.out).2); clear hb7 hk7)
      | (go_at_call 71; refine (HB7.out.push_doc x.e HM.out HFULL.out HTOT.out).mono ?_; rintro e w9 ⟨rfl, v9, l9, hb9, hm9, hk9⟩; (have hx9 := Lib.hid (hk9 _ _ hx7.out HXF7.out).1); (have HT := Lib.hid (show TwinS q w f b (k + 1) w9 from ⟨_, _, _, _, _, hb9, hm9⟩)); clear hb9 hm9 hk9)
      | (go_at_call 71; refine (HBD.out.push_doc x.e HM.out HFULL.out HTOT.out).mono ?_; rintro e w8 ⟨rfl, v8, l8, hb8, hm8, hk8⟩; (have HB8 := Lib.hid hb8); (have HM8 := Lib.hid hm8); (have hx8 := Lib.hid (hk8 _ _ HXD.out HXF.out).1); clear hb8 hm8 hk8))
  all_goals
    go_wp2_with fail
    go_ret
    exact ⟨ret_bool (by simp), HT.out⟩
set_option maxRecDepth 100000 in
set_option maxHeartbeats 4000000 in
theorem does16_drop (x : Sc) (hx : EntOk x.e) (hk0 : x.kind ≠ 0) (hk1 : x.kind ≠ 1) (hk2 : x.kind ≠ 2) (h : BothS q w f b k gv rows ρ wr gv v l) (hm : l.map Prod.fst = rows) :
    Calls Try.prog 38 #[.pointer (some ⟨f, 0, none⟩), .pointer (some ⟨b, 0, none⟩), scV x] wr (TwinSPost q w f b k) := by
  have hkb : (x.kind == 0) = false := beq_eq_false_iff_ne.2 hk0
  have hkb1 : (x.kind == 1) = false := beq_eq_false_iff_ne.2 hk1
  have hkb2 : (x.kind == 2) = false := beq_eq_false_iff_ne.2 hk2
  have HX := Lib.hid hx
  have H := Lib.hid h
  have HM := Lib.hid hm
  have HFULL := Lib.hid h.st.ring.fullT
  clear h hm hk0 hk1 hk2 hx
  unfold scV
  go_enter Try.func38, Try.ntmps38
  go_upto_region 1 with fail
  obtain ⟨w1, hw1⟩ : ∃ w1 : World, w1 = wr.alloc (.cells #[.int .i64 x.kind, .string x.e.need, .int .i64 x.e.cls, .int .i64 x.e.ten, .int .i64 x.e.tw, .int .i64 x.e.inv, .int .i64 x.e.iw, .int .i64 x.e.id, .int .i64 x.e.cost] 72) := ⟨_, rfl⟩
  obtain ⟨bx, hbx⟩ : ∃ bx : Nat, bx = wr.heap.size := ⟨_, rfl⟩
  rw [← hw1, ← hbx]
  have hx1 : w1.heap[bx]? = some (scO x) := by rw [hw1, hbx]; exact fr_alloc_at
  have HXF := Lib.hid (show Free ρ b bx by rw [hbx]; exact H.out.doc.up _ (Nat.le_refl _))
  have HBD := Lib.hid (show BothS q w f b k gv rows ρ w1.drew gv v l by rw [hw1]; exact (H.out.on box_below).on ⟨rfl, rfl, rfl, Nat.le_refl _, fun _ _ => rfl⟩)
  have HXD := Lib.hid (show w1.drew.heap[bx]? = some (scO x) from hx1)
  have c0 : w1.cell? ⟨bx, 0, none⟩ = some (.int .i64 x.kind) := fr_cell_of_heap hx1 rfl
  obtain ⟨c3, c5, c7⟩ := sc_cells3 hx1
  clear hw1 hbx hx1
  go_upto_region 12 with fail
  go_region_held3 (fun w' => w'.cell? ⟨bx, 3, none⟩ = some (.int .i64 x.e.ten) ∧ w'.cell? ⟨bx, 5, none⟩ = some (.int .i64 x.e.inv) ∧ w'.cell? ⟨bx, 7, none⟩ = some (.int .i64 x.e.id))
    (first | go_keep | exact sc_cells3 hx7.out | exact sc_cells3 hx8.out | exact sc_cells3 hx9.out)
    (first
      | (go_at_call 35; refine (HB8.out.drop_ring x.e.ten x.e.inv x.e.id HX.out.2.2.2.2.2.1).mono ?_; rintro e w9 ⟨rfl, ρ9, hb9, hk9⟩; (have HB9 := Lib.hid hb9); (have hx9 := Lib.hid (hk9 _ _ hx8.out HXF.out).1); (have HT := Lib.hid (show TwinS q w f b k w9 from ⟨_, _, _, _, _, hb9, HM8.out⟩)); clear hb9 hk9)
      | (go_at_call 35; refine (HBD.out.drop_ring x.e.ten x.e.inv x.e.id HX.out.2.2.2.2.2.1).mono ?_; rintro e w7 ⟨rfl, ρ7, hb7, hk7⟩; (have HB7 := Lib.hid hb7); (have hx7 := Lib.hid (hk7 _ _ HXD.out HXF.out).1); (have HXF7 := Lib.hid (hk7 _ _ HXD.out HXF.out).2); clear hb7 hk7)
      | (go_at_call 74; refine (HB7.out.drop_doc x.e.ten x.e.inv x.e.id HM.out HFULL.out).mono ?_; rintro e w9 ⟨rfl, v9, l9, hb9, hm9, hk9⟩; (have hx9 := Lib.hid (hk9 _ _ hx7.out HXF7.out).1); (have HT := Lib.hid (show TwinS q w f b k w9 from ⟨_, _, _, _, _, hb9, hm9⟩)); clear hb9 hm9 hk9)
      | (go_at_call 74; refine (HBD.out.drop_doc x.e.ten x.e.inv x.e.id HM.out HFULL.out).mono ?_; rintro e w8 ⟨rfl, v8, l8, hb8, hm8, hk8⟩; (have HB8 := Lib.hid hb8); (have HM8 := Lib.hid hm8); (have hx8 := Lib.hid (hk8 _ _ HXD.out HXF.out).1); clear hb8 hm8 hk8))
  all_goals
    go_wp2_with fail
    go_ret
    exact ⟨ret_bool (by simp), HT.out⟩
end
end Go.Proofs.Ytohkchilogmneaa
/-
  law16: a Take, a Pick by both; a call by both, in one law: the walks.
-/
namespace Go.Proofs.Ytohkchilogmneaa
open Go.RowKit Go.Sort
def entO (E : Ent) : Obj := .cells (entC E) 70 (0, 0)
theorem ent_cells {w : World} {bx : Nat} {E : Ent} (h : w.heap[bx]? = some (entO E)) : w.cell? ⟨bx, 0, none⟩ = some (.string E.need) ∧ w.cell? ⟨bx, 1, none⟩ = some (.int .i64 E.cls) ∧ w.cell? ⟨bx, 2, none⟩ = some (.int .i64 E.ten) ∧ w.cell? ⟨bx, 3, none⟩ = some (.int .i64 E.tw) ∧ w.cell? ⟨bx, 4, none⟩ = some (.int .i64 E.inv) ∧ w.cell? ⟨bx, 5, none⟩ = some (.int .i64 E.iw) ∧ w.cell? ⟨bx, 6, none⟩ = some (.int .i64 E.id) ∧ w.cell? ⟨bx, 7, none⟩ = some (.int .i64 E.cost) :=
  ⟨fr_cell_of_heap h rfl, fr_cell_of_heap h rfl, fr_cell_of_heap h rfl, fr_cell_of_heap h rfl, fr_cell_of_heap h rfl, fr_cell_of_heap h rfl, fr_cell_of_heap h rfl, fr_cell_of_heap h rfl⟩
section
variable {q : Int} {w wr : World} {f b k : Nat} {gv : Bool} {rows : List TRow} {ρ : Roles} {v : Value} {l : List DV}
set_option maxRecDepth 100000 in
set_option maxHeartbeats 8000000 in
theorem does16_take (x : Sc) (hk1 : x.kind = 1) (h : BothS q w f b k gv rows ρ wr gv v l) (hm : l.map Prod.fst = rows) :
    Calls Try.prog 38 #[.pointer (some ⟨f, 0, none⟩), .pointer (some ⟨b, 0, none⟩), scV x] wr (TwinSPost q w f b k) := by
  have hkb : (x.kind == 0) = false := by rw [hk1]; rfl
  have hkb1 : (x.kind == 1) = true := beq_iff_eq.2 hk1
  have H := Lib.hid h
  have HM := Lib.hid hm
  clear h hm hk1
  unfold scV
  go_enter Try.func38, Try.ntmps38
  go_upto_region 1 with fail
  obtain ⟨w1, hw1⟩ : ∃ w1 : World, w1 = wr.alloc (.cells #[.int .i64 x.kind, .string x.e.need, .int .i64 x.e.cls, .int .i64 x.e.ten, .int .i64 x.e.tw, .int .i64 x.e.inv, .int .i64 x.e.iw, .int .i64 x.e.id, .int .i64 x.e.cost] 72) := ⟨_, rfl⟩
  obtain ⟨bx, hbx⟩ : ∃ bx : Nat, bx = wr.heap.size := ⟨_, rfl⟩
  rw [← hw1, ← hbx]
  have hx1 : w1.heap[bx]? = some (scO x) := by rw [hw1, hbx]; exact fr_alloc_at
  have HB1 := Lib.hid (show BothS q w f b k gv rows ρ w1 gv v l by rw [hw1]; exact H.out.on box_below)
  have c0 : w1.cell? ⟨bx, 0, none⟩ = some (.int .i64 x.kind) := fr_cell_of_heap hx1 rfl
  clear hw1 hbx hx1
  by_cases hne : rows = []
  · subst hne
    have hl0 : l = [] := by have h := HM.out; simpa using h
    subst hl0
    go_upto_region 5 with fail
    clear c0
    go_wp2_with fail
    refine (shareTake_nil _ HB1.out.st.ring).mono ?_
    rintro e w3 ⟨rfl, hb3⟩
    obtain ⟨E, hE⟩ : ∃ E, E = ent0 := ⟨_, rfl⟩
    rw [← hE]
    have HE0 := Lib.hid hE
    clear hE
    have HB3 := Lib.hid (HB1.out.on hb3)
    clear hb3
    unfold entV entC
    go_upto_region 6 with fail
    obtain ⟨w4, hw4⟩ : ∃ w4 : World, w4 = w3.alloc (.cells #[.string E.need, .int .i64 E.cls, .int .i64 E.ten, .int .i64 E.tw, .int .i64 E.inv, .int .i64 E.iw, .int .i64 E.id, .int .i64 E.cost] 70) := ⟨_, rfl⟩
    obtain ⟨b1, hb1⟩ : ∃ b1 : Nat, b1 = w3.heap.size := ⟨_, rfl⟩
    rw [← hw4, ← hb1]
    have HB4 := Lib.hid (show BothS q w f b k gv [] ρ w4 gv v [] by rw [hw4]; exact HB3.out.on box_below)
    have HK4 := Lib.hid (show w4.heap[b1]? = some (entO E) by rw [hw4, hb1]; exact fr_alloc_at)
    clear hw4 hb1
    go_wp2_with fail
    refine (r16Take_nil b q gv v _ HB4.out.doc).mono ?_
    rintro e w5 ⟨rfl, hb5⟩
    have HB5 := Lib.hid (HB4.out.on hb5)
    have HK5 := Lib.hid ((hb5.block b1 (fp_lt_of_heap HK4.out)).trans HK4.out)
    rw [← HE0.out]
    clear hb5
    unfold entV entC
    go_upto_region 7 with fail
    obtain ⟨w6, hw6⟩ : ∃ w6 : World, w6 = w5.alloc (.cells #[.string E.need, .int .i64 E.cls, .int .i64 E.ten, .int .i64 E.tw, .int .i64 E.inv, .int .i64 E.iw, .int .i64 E.id, .int .i64 E.cost] 70) := ⟨_, rfl⟩
    obtain ⟨b2, hb2⟩ : ∃ b2 : Nat, b2 = w5.heap.size := ⟨_, rfl⟩
    rw [← hw6, ← hb2]
    have HB6 := Lib.hid (show BothS q w f b k gv [] ρ w6 gv v [] by rw [hw6]; exact HB5.out.on box_below)
    obtain ⟨a0, a1, a2, a3, a4, a5, a6, a7⟩ := ent_cells (show w6.heap[b1]? = some (entO E) by rw [hw6]; exact fr_alloc_old HK5.out)
    obtain ⟨d0, d1, d2, d3, d4, d5, d6, d7⟩ := ent_cells (show w6.heap[b2]? = some (entO E) by rw [hw6, hb2]; exact fr_alloc_at)
    clear hw6 hb2
    go_wp2_with (refine wpList_ent_eql (p := E) rfl _ _ rfl rfl rfl ?_)
    go_ret
    exact ⟨rfl, _, _, _, _, _, HB6.out, rfl⟩
  · have HNE := Lib.hid hne
    clear hne
    go_upto_region 5 with fail
    clear c0
    go_wp2_with fail
    refine (shareTake_cons (by decide) _ HB1.out.st.ring HNE.out).mono ?_
    rintro e w3 ⟨row, rest, ρ3, rfl, hp, hl3, hn3, hR3, hF3⟩
    have HP := Lib.hid hp
    have hB3 := HB1.out.ring hl3 hn3 hR3 hF3 (Nat.le_trans (totT_took row rest) (by rw [picksT_tot hp]; exact HB1.out.st.few))
    obtain ⟨E, hE⟩ : ∃ E, E = entOf row := ⟨_, rfl⟩
    rw [← hE]
    have HE := Lib.hid hE
    obtain ⟨ρ', hρ'⟩ : ∃ ρ', ρ' = fence ρ3 w3 := ⟨_, rfl⟩
    rw [← hρ'] at hB3
    have HB3 := Lib.hid hB3
    have hok := HB1.out.st.ring.rowsOk
    have hon := HB1.out.st.ring.once
    have hq := HB1.out.st.ring.qs
    rw [← HM.out] at hok hon
    have HOK := Lib.hid hok
    have HON := Lib.hid hon
    have HQ := Lib.hid hq
    have HLN := Lib.hid (show l ≠ [] from fun e => HNE.out (by rw [← HM.out, e]; rfl))
    clear hp hl3 hn3 hR3 hF3 hB3 hE hρ' hok hon hq
    unfold entV entC
    go_upto_region 6 with fail
    obtain ⟨b1, hb1⟩ : ∃ b1 : Nat, b1 = w3.heap.size := ⟨_, rfl⟩
    obtain ⟨w4, hw4⟩ : ∃ w4 : World, w4 = w3.alloc (.cells #[.string E.need, .int .i64 E.cls, .int .i64 E.ten, .int .i64 E.tw, .int .i64 E.inv, .int .i64 E.iw, .int .i64 E.id, .int .i64 E.cost] 70) := ⟨_, rfl⟩
    rw [← hw4, ← hb1]
    have HB4 := Lib.hid (show BothS q w f b k (tookT row rest).1 (tookT row rest).2 ρ' w4 gv v l by rw [hw4]; exact HB3.out.on box_below)
    have HK4 := Lib.hid (show w4.heap[b1]? = some (entO E) by rw [hw4, hb1]; exact fr_alloc_at)
    have HF1 := Lib.hid (show Free ρ' b b1 by rw [hb1]; exact HB3.out.doc.up _ (Nat.le_refl _))
    clear hw4 hb1
    go_wp2_with fail
    refine (r16Take_cons b q gv v l _ HB4.out.doc HLN.out HQ.out.1 HQ.out.2 HOK.out HON.out).mono ?_
    rintro e w5 ⟨row', rest', v5, l5, rfl, hp5, hR5, hm5, hF5⟩
    rw [HM.out] at hp5
    have hag := hp5.once HP.out
    rw [List.cons.injEq] at hag
    obtain ⟨rfl, rfl⟩ := hag
    have HB5 := Lib.hid (HB4.out.docs hF5 hR5)
    have HM5 := Lib.hid hm5
    have HK5 := Lib.hid (docs_kept (ρ := ρ') hF5 _ _ HK4.out HF1.out).1
    rw [← HE.out]
    clear hp5 hR5 hm5 hF5
    unfold entV entC
    go_upto_region 7 with fail
    obtain ⟨w6, hw6⟩ : ∃ w6 : World, w6 = w5.alloc (.cells #[.string E.need, .int .i64 E.cls, .int .i64 E.ten, .int .i64 E.tw, .int .i64 E.inv, .int .i64 E.iw, .int .i64 E.id, .int .i64 E.cost] 70) := ⟨_, rfl⟩
    obtain ⟨b2, hb2⟩ : ∃ b2 : Nat, b2 = w5.heap.size := ⟨_, rfl⟩
    rw [← hw6, ← hb2]
    have HB6 := Lib.hid (show BothS q w f b k _ _ ρ' w6 _ _ _ by rw [hw6]; exact HB5.out.on box_below)
    obtain ⟨a0, a1, a2, a3, a4, a5, a6, a7⟩ := ent_cells (show w6.heap[b1]? = some (entO E) by rw [hw6]; exact fr_alloc_old HK5.out)
    obtain ⟨d0, d1, d2, d3, d4, d5, d6, d7⟩ := ent_cells (show w6.heap[b2]? = some (entO E) by rw [hw6, hb2]; exact fr_alloc_at)
    clear hw6 hb2
    go_wp2_with (refine wpList_ent_eql (p := E) rfl _ _ rfl rfl rfl ?_)
    go_ret
    exact ⟨rfl, _, _, _, _, _, HB6.out, HM5.out⟩
set_option maxRecDepth 100000 in
set_option maxHeartbeats 8000000 in
theorem does16_pick (x : Sc) (hk2 : x.kind = 2) (h : BothS q w f b k gv rows ρ wr gv v l) (hm : l.map Prod.fst = rows) :
    Calls Try.prog 38 #[.pointer (some ⟨f, 0, none⟩), .pointer (some ⟨b, 0, none⟩), scV x] wr (TwinSPost q w f b k) := by
  have hkb : (x.kind == 0) = false := by rw [hk2]; rfl
  have hkb1 : (x.kind == 1) = false := by rw [hk2]; rfl
  have hkb2 : (x.kind == 2) = true := beq_iff_eq.2 hk2
  have H := Lib.hid h
  have HM := Lib.hid hm
  clear h hm hk2
  unfold scV
  go_enter Try.func38, Try.ntmps38
  go_upto_region 1 with fail
  obtain ⟨w1, hw1⟩ : ∃ w1 : World, w1 = wr.alloc (.cells #[.int .i64 x.kind, .string x.e.need, .int .i64 x.e.cls, .int .i64 x.e.ten, .int .i64 x.e.tw, .int .i64 x.e.inv, .int .i64 x.e.iw, .int .i64 x.e.id, .int .i64 x.e.cost] 72) := ⟨_, rfl⟩
  obtain ⟨bx, hbx⟩ : ∃ bx : Nat, bx = wr.heap.size := ⟨_, rfl⟩
  rw [← hw1, ← hbx]
  have hx1 : w1.heap[bx]? = some (scO x) := by rw [hw1, hbx]; exact fr_alloc_at
  have HB1 := Lib.hid (show BothS q w f b k gv rows ρ w1 gv v l by rw [hw1]; exact H.out.on box_below)
  have c0 : w1.cell? ⟨bx, 0, none⟩ = some (.int .i64 x.kind) := fr_cell_of_heap hx1 rfl
  clear hw1 hbx hx1
  by_cases hne : rows = []
  · subst hne
    have hl0 : l = [] := by have h := HM.out; simpa using h
    subst hl0
    go_upto_region 9 with fail
    clear c0
    go_wp2_with fail
    refine (sharePick_nil _ HB1.out.st.ring).mono ?_
    rintro e w3 ⟨rfl, hb3⟩
    obtain ⟨E, hE⟩ : ∃ E, E = ent0 := ⟨_, rfl⟩
    rw [← hE]
    have HE0 := Lib.hid hE
    clear hE
    have HB3 := Lib.hid (HB1.out.on hb3)
    clear hb3
    unfold entV entC
    go_upto_region 10 with fail
    obtain ⟨w4, hw4⟩ : ∃ w4 : World, w4 = w3.alloc (.cells #[.string E.need, .int .i64 E.cls, .int .i64 E.ten, .int .i64 E.tw, .int .i64 E.inv, .int .i64 E.iw, .int .i64 E.id, .int .i64 E.cost] 70) := ⟨_, rfl⟩
    obtain ⟨b1, hb1⟩ : ∃ b1 : Nat, b1 = w3.heap.size := ⟨_, rfl⟩
    rw [← hw4, ← hb1]
    have HB4 := Lib.hid (show BothS q w f b k gv [] ρ w4 gv v [] by rw [hw4]; exact HB3.out.on box_below)
    have HK4 := Lib.hid (show w4.heap[b1]? = some (entO E) by rw [hw4, hb1]; exact fr_alloc_at)
    clear hw4 hb1
    go_wp2_with fail
    refine (r16Pick_nil b q gv v _ HB4.out.doc).mono ?_
    rintro e w5 ⟨rfl, hb5⟩
    have HB5 := Lib.hid (HB4.out.on hb5)
    have HK5 := Lib.hid ((hb5.block b1 (fp_lt_of_heap HK4.out)).trans HK4.out)
    rw [← HE0.out]
    clear hb5
    unfold entV entC
    go_upto_region 11 with fail
    obtain ⟨w6, hw6⟩ : ∃ w6 : World, w6 = w5.alloc (.cells #[.string E.need, .int .i64 E.cls, .int .i64 E.ten, .int .i64 E.tw, .int .i64 E.inv, .int .i64 E.iw, .int .i64 E.id, .int .i64 E.cost] 70) := ⟨_, rfl⟩
    obtain ⟨b2, hb2⟩ : ∃ b2 : Nat, b2 = w5.heap.size := ⟨_, rfl⟩
    rw [← hw6, ← hb2]
    have HB6 := Lib.hid (show BothS q w f b k gv [] ρ w6 gv v [] by rw [hw6]; exact HB5.out.on box_below)
    obtain ⟨a0, a1, a2, a3, a4, a5, a6, a7⟩ := ent_cells (show w6.heap[b1]? = some (entO E) by rw [hw6]; exact fr_alloc_old HK5.out)
    obtain ⟨d0, d1, d2, d3, d4, d5, d6, d7⟩ := ent_cells (show w6.heap[b2]? = some (entO E) by rw [hw6, hb2]; exact fr_alloc_at)
    clear hw6 hb2
    go_wp2_with (refine wpList_ent_eql (p := E) rfl _ _ rfl rfl rfl ?_)
    go_ret
    exact ⟨rfl, _, _, _, _, _, HB6.out, rfl⟩
  · have HNE := Lib.hid hne
    clear hne
    go_upto_region 9 with fail
    clear c0
    go_wp2_with fail
    refine (sharePick_cons (by decide) _ HB1.out.st.ring HNE.out).mono ?_
    rintro e w3 ⟨row, rest, ρ3, rfl, hp, hl3, hn3, hR3, hF3⟩
    have HP := Lib.hid hp
    have hB3 := HB1.out.ring hl3 hn3 hR3 hF3 (by rw [picksT_tot hp]; exact HB1.out.st.few)
    obtain ⟨E, hE⟩ : ∃ E, E = entOf row := ⟨_, rfl⟩
    rw [← hE]
    have HE := Lib.hid hE
    obtain ⟨ρ', hρ'⟩ : ∃ ρ', ρ' = fence ρ3 w3 := ⟨_, rfl⟩
    rw [← hρ'] at hB3
    have HB3 := Lib.hid hB3
    have hok := HB1.out.st.ring.rowsOk
    have hon := HB1.out.st.ring.once
    have hq := HB1.out.st.ring.qs
    rw [← HM.out] at hok hon
    have HOK := Lib.hid hok
    have HON := Lib.hid hon
    have HQ := Lib.hid hq
    have HLN := Lib.hid (show l ≠ [] from fun e => HNE.out (by rw [← HM.out, e]; rfl))
    clear hp hl3 hn3 hR3 hF3 hB3 hE hρ' hok hon hq
    unfold entV entC
    go_upto_region 10 with fail
    obtain ⟨b1, hb1⟩ : ∃ b1 : Nat, b1 = w3.heap.size := ⟨_, rfl⟩
    obtain ⟨w4, hw4⟩ : ∃ w4 : World, w4 = w3.alloc (.cells #[.string E.need, .int .i64 E.cls, .int .i64 E.ten, .int .i64 E.tw, .int .i64 E.inv, .int .i64 E.iw, .int .i64 E.id, .int .i64 E.cost] 70) := ⟨_, rfl⟩
    rw [← hw4, ← hb1]
    have HB4 := Lib.hid (show BothS q w f b k true (row :: rest) ρ' w4 gv v l by rw [hw4]; exact HB3.out.on box_below)
    have HK4 := Lib.hid (show w4.heap[b1]? = some (entO E) by rw [hw4, hb1]; exact fr_alloc_at)
    have HF1 := Lib.hid (show Free ρ' b b1 by rw [hb1]; exact HB3.out.doc.up _ (Nat.le_refl _))
    clear hw4 hb1
    go_wp2_with fail
    refine (r16Pick_cons b q gv v l _ HB4.out.doc HLN.out HQ.out.1 HQ.out.2 HOK.out).mono ?_
    rintro e w5 ⟨row', rest', v5, l5, rfl, hp5, hR5, hm5, hF5⟩
    rw [HM.out] at hp5
    have hag := hp5.once HP.out
    rw [List.cons.injEq] at hag
    obtain ⟨rfl, rfl⟩ := hag
    have HB5 := Lib.hid (HB4.out.docs hF5 hR5)
    have HM5 := Lib.hid hm5
    have HK5 := Lib.hid (docs_kept (ρ := ρ') hF5 _ _ HK4.out HF1.out).1
    rw [← HE.out]
    clear hp5 hR5 hm5 hF5
    unfold entV entC
    go_upto_region 11 with fail
    obtain ⟨w6, hw6⟩ : ∃ w6 : World, w6 = w5.alloc (.cells #[.string E.need, .int .i64 E.cls, .int .i64 E.ten, .int .i64 E.tw, .int .i64 E.inv, .int .i64 E.iw, .int .i64 E.id, .int .i64 E.cost] 70) := ⟨_, rfl⟩
    obtain ⟨b2, hb2⟩ : ∃ b2 : Nat, b2 = w5.heap.size := ⟨_, rfl⟩
    rw [← hw6, ← hb2]
    have HB6 := Lib.hid (show BothS q w f b k _ _ ρ' w6 _ _ _ by rw [hw6]; exact HB5.out.on box_below)
    obtain ⟨a0, a1, a2, a3, a4, a5, a6, a7⟩ := ent_cells (show w6.heap[b1]? = some (entO E) by rw [hw6]; exact fr_alloc_old HK5.out)
    obtain ⟨d0, d1, d2, d3, d4, d5, d6, d7⟩ := ent_cells (show w6.heap[b2]? = some (entO E) by rw [hw6, hb2]; exact fr_alloc_at)
    clear hw6 hb2
    go_wp2_with (refine wpList_ent_eql (p := E) rfl _ _ rfl rfl rfl ?_)
    go_ret
    exact ⟨rfl, _, _, _, _, _, HB6.out, HM5.out⟩
theorem does16_any (x : Sc) (hx : EntOk x.e) (h : TwinS q w f b k wr) (hk : k < 1000000) :
    Calls Try.prog 38 #[.pointer (some ⟨f, 0, none⟩), .pointer (some ⟨b, 0, none⟩), scV x] wr (TwinSPost q w f b (k + 1)) := by
  obtain ⟨gv, rows, ρ, v, l, h, hm⟩ := h
  have hup : ∀ e w', TwinSPost q w f b k e w' → TwinSPost q w f b (k + 1) e w' := fun e w' ⟨he, gv, rows, ρ, v, l, h, hm⟩ => ⟨he, gv, rows, ρ, v, l, h.more (Nat.le_succ k), hm⟩
  by_cases h0 : x.kind = 0
  · exact does16_push x hx h0 h hm hk
  · by_cases h1 : x.kind = 1
    · exact (does16_take x h1 h hm).mono hup
    · by_cases h2 : x.kind = 2
      · exact (does16_pick x h2 h hm).mono hup
      · exact (does16_drop x hx h0 h1 h2 h hm).mono hup
end
end Go.Proofs.Ytohkchilogmneaa
