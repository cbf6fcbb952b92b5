/-
  share.Share: Len: the walk; how many items wait in a share.
-/
import Derived.Test.YtdbjihkgafhakaaGreatDoorShareAll
import Derived.Test.YtdbjihkgafhakaaGreatDoorRef15All
import Derived.Test.YtdbjihkgafhakaaGreatDoorTot
namespace Go.Proofs.YtdbjihkgafhakaaGreatDoor
open Go.RowKit Go.Sort

theorem encTV_len5 (p : TV) : (encTV p).length = 5 := rfl
/-- A share's rows, wherever they lie. -/
structure TRowsAt (w : World) (v : Value) (l : List TV) : Prop where
  rows : ∃ a cap, v = .slice a l.length cap ∧ l.length ≤ cap ∧ ∀ (j : Nat) u, (flatTV l)[j]? = some u → ∃ g off, a = some ⟨g, off, none⟩ ∧ w.cell? ⟨g, off + j, none⟩ = some u
  inv : ∀ p ∈ l, RowsAt w p.2.1 p.2.2 ∧ p.2.2.map Prod.fst = p.1.rows
theorem TRowsAt.form {w : World} {v : Value} {l : List TV} (h : TRowsAt w v l) : ∃ a cap, v = .slice a l.length cap ∧ l.length ≤ cap := by
  obtain ⟨⟨a, cap, hv, hle, _⟩, _⟩ := h
  exact ⟨a, cap, hv, hle⟩
theorem TRowsAt.below {w w' : World} {v : Value} {l : List TV} (h : TRowsAt w v l) (hb : Below w.heap.size w w') : TRowsAt w' v l := by
  obtain ⟨⟨a, cap, rfl, hle, hc⟩, hi⟩ := h
  exact ⟨⟨a, cap, rfl, hle, fun j u hu => by obtain ⟨g, off, ha, h0⟩ := hc j u hu; exact ⟨g, off, ha, cell_below hb h0⟩⟩, fun p hp => ⟨(hi p hp).1.below hb, (hi p hp).2⟩⟩
theorem TRowsAt.at {w : World} {v : Value} {l : List TV} (h : TRowsAt w v l) {k : Nat} {p : TV} (hp : l[k]? = some p) : ∃ g off cap, v = .slice (some ⟨g, off, none⟩) l.length cap ∧ l.length ≤ cap ∧ w.cell? ⟨g, off + k * 5, none⟩ = some (.int .i64 p.1.id) ∧ w.cell? ⟨g, off + k * 5 + 1, none⟩ = some (.int .i64 p.1.wt) ∧
    w.cell? ⟨g, off + k * 5 + 2, none⟩ = some (.int .i64 p.1.df) ∧ w.cell? ⟨g, off + k * 5 + 3, none⟩ = some p.2.1 ∧ w.cell? ⟨g, off + k * 5 + 4, none⟩ = some (.bool p.1.gv) := by
  obtain ⟨⟨a, cap, rfl, hle, hc⟩, _⟩ := h
  have key : ∀ i u, (encTV p)[i]? = some u → (flatTV l)[k * 5 + i]? = some u := fun i u hu => by
    have hi : i < 5 := (List.getElem?_eq_some_iff.1 hu).1
    unfold flatTV
    rw [flat_at encTV 5 encTV_len5 i hp hi]
    exact hu
  obtain ⟨g, off, rfl, h0⟩ := hc _ _ (key 0 _ rfl)
  have get : ∀ i u, (encTV p)[i]? = some u → w.cell? ⟨g, off + k * 5 + i, none⟩ = some u := fun i u hu => by
    obtain ⟨g', off', he, h1⟩ := hc _ _ (key i u hu)
    cases he
    rw [Nat.add_assoc]
    exact h1
  exact ⟨g, off, cap, rfl, hle, get 0 _ rfl, get 1 _ rfl, get 2 _ rfl, get 3 _ rfl, get 4 _ rfl⟩
theorem TRowsIn.rows {w : World} {base : Nat} {v : Value} {l : List TV} (h : TRowsIn w base v l) : TRowsAt w v l := by
  obtain ⟨a, cap, rfl, hle, _, _, hc⟩ := own_cells h.own
  exact ⟨⟨a, cap, rfl, hle, fun j u hu => by obtain ⟨g, ha, _, _, h0, _⟩ := hc j u hu; exact ⟨g, 0, ha, by rw [Nat.zero_add]; exact h0⟩⟩, fun p hp => ⟨(h.inv p hp).1.rows, (h.inv p hp).2⟩⟩
/-- Rows that are not too many, in any of them. -/
def FewT (rows : List TRow) : Prop := rows.length ≤ 1000000 ∧ ∀ x ∈ rows, x.rows.length ≤ 1000000 ∧ ∀ r ∈ x.rows, r.its.length ≤ 1000000
theorem few_tv {w : World} {v : Value} {l : List TV} (h : TRowsAt w v l) (hf : FewT (l.map Prod.fst)) : l.length ≤ 1000000 ∧ ∀ p ∈ l, p.2.2.length ≤ 1000000 := by
  refine ⟨by have := hf.1; rwa [List.length_map] at this, fun p hp => ?_⟩
  have hx := hf.2 p.1 (List.mem_map_of_mem hp)
  rw [← (h.inv p hp).2, List.length_map] at hx
  exact hx.1
theorem findT_at {id : Int} {rows : List TRow} {k : Nat} (h : findT id rows = some k) : ∃ r, rows[k]? = some r ∧ r.id = id := by
  obtain ⟨hk, hr, _⟩ := List.findIdx?_eq_some_iff_getElem.1 h
  exact ⟨rows[k], List.getElem?_eq_getElem hk, by simpa using hr⟩
theorem totT_len : ∀ {rows : List TRow}, (∀ x ∈ rows, x.rows ≠ [] ∧ ∀ r ∈ x.rows, r.its ≠ []) → rows.length ≤ totT rows
  | [], _ => by simp [totT]
  | x :: l, h => by
    have ih := totT_len (rows := l) (fun y hy => h y (List.mem_cons_of_mem _ hy))
    have hx := h x List.mem_cons_self
    have h1 := tot_len hx.2
    have h2 := List.length_pos_iff.2 hx.1
    simp [totT] at ih ⊢
    omega
theorem ShareAt.fullT {pre : List Int} {ρ : Roles} {w : World} {f : Nat} {q : Int} {gv : Bool} {rows : List TRow} (h : ShareAt pre ρ w f q gv rows) : ∀ x ∈ rows, x.rows ≠ [] ∧ ∀ r ∈ x.rows, r.its ≠ [] := by
  obtain ⟨sp, v, ns, fb, a, h, rfl⟩ := h
  intro x hx
  obtain ⟨n, hn, rfl⟩ := List.mem_map.1 hx
  exact ⟨h.full n hn, (h.pre'.ring n hn).full⟩
theorem few_tot {rows : List TRow} (hfull : ∀ x ∈ rows, x.rows ≠ [] ∧ ∀ r ∈ x.rows, r.its ≠ []) (hf : totT rows ≤ 1000000) : FewT rows :=
  ⟨Nat.le_trans (totT_len hfull) hf, fun x hx => ⟨Nat.le_trans (tot_len (hfull x hx).2) (Nat.le_trans (totT_mem hx) hf), fun _ hr => Nat.le_trans (tot_mem hr) (Nat.le_trans (totT_mem hx) hf)⟩⟩
theorem totT_take {rows : List TRow} {k : Nat} {x : TRow} (h : rows[k]? = some x) : totT (rows.take (k + 1)) = totT (rows.take k) + totR x.rows := by
  rw [List.take_add_one, h]
  simp [totT]
theorem totR_take {rows : List FRow} {k : Nat} {x : FRow} (h : rows[k]? = some x) : totR (rows.take (k + 1)) = totR (rows.take k) + x.its.length := by
  rw [List.take_add_one, h]
  simp [totR]
theorem totT_le (rows : List TRow) (k : Nat) : totT (rows.take k) ≤ totT rows := by
  have h : totT rows = totT (rows.take k) + totT (rows.drop k) := by
    conv => lhs; rw [← List.take_append_drop k rows]
    simp only [totT, List.map_append, List.sum_append]
  omega
theorem totR_le (rows : List FRow) (k : Nat) : totR (rows.take k) ≤ totR rows := by
  have h : totR rows = totR (rows.take k) + totR (rows.drop k) := by
    conv => lhs; rw [← List.take_append_drop k rows]
    simp only [totR, List.map_append, List.sum_append]
  omega
section
variable {pre : List Int} {ρ : Roles} {f : Nat} {q : Int} {gv : Bool} {rows : List TRow}
set_option maxRecDepth 100000 in
set_option maxHeartbeats 4000000 in
/-- THE WALK: Len. -/
theorem shareLen_any (w : World) (hR : ShareAt pre ρ w f q gv rows) (hf : totT rows ≤ 1000000) : Calls Tryz.prog 33 #[.pointer (some ⟨f, 0, none⟩)] w fun e w' => e = .returned (.int .i64 (totT rows)) ∧ Below w.heap.size w w' := by
  have HFT := Lib.hid (few_tot hR.fullT hf)
  have HF := Lib.hid hf
  have HR := Lib.hid hR
  clear hR hf
  go_enter Tryz.func33, Tryz.ntmps33
  go_wp2_with fail
  refine (shareRows_any w HR.out).mono ?_
  rintro e w1 ⟨v1, l, rfl, hr1, hm, hb1⟩
  have hr1 := hr1.rows
  have hfe := few_tv hr1 (by rw [hm]; exact HFT.out)
  have HFE := Lib.hid hfe
  have HR1 := Lib.hid hr1
  have HM := Lib.hid hm
  have HB1 := Lib.hid hb1
  obtain ⟨a, cap, rfl, -⟩ := hr1.form
  clear hr1 hm hb1 hfe
  go_wp2_with fail
  go_loopg [11, 3] l.length (fun g i n wr => ∃ k : Nat, g = l.length - k ∧ i = .int .i64 k ∧ n = .int .i64 (totT (rows.take k)) ∧ k ≤ l.length ∧ Below w1.heap.size w1 wr)
  case atStart => exact ⟨0, rfl, rfl, rfl, Nat.zero_le _, Below.refl _ _⟩
  case round =>
    obtain ⟨k, hg, rfl, rfl, hk, hb⟩ := hrel
    have HG := Lib.hid hg
    have HB := Lib.hid hb
    clear hg hb
    by_cases hlt : k < l.length
    · obtain ⟨p, hp⟩ : ∃ p, l[k]? = some p := ⟨_, List.getElem?_eq_getElem hlt⟩
      have hmem := List.mem_of_getElem? hp
      have hin := HR1.out.inv p hmem
      have HIN := Lib.hid hin.1
      have HSM := Lib.hid hin.2
      have HX := Lib.hid (show rows[k]? = some p.1 by rw [← HM.out, List.getElem?_map, hp]; rfl)
      have HFP := Lib.hid (HFE.out.2 p hmem)
      obtain ⟨g, off, cap', hv, -, c0, c1, c2, c3, c4⟩ := (HR1.out.below HB.out).at hp
      cases hv
      obtain ⟨pa, pc, hpv, -⟩ := hin.1.form
      rw [hpv] at c3
      have HPV := Lib.hid hpv
      have hkl : (k : Int) < (l.length : Int) := by omega
      obtain ⟨A, hA⟩ : ∃ A, A = totT (rows.take k) := ⟨_, rfl⟩
      rw [← hA]
      have HA := Lib.hid hA
      have HAS := Lib.hid (totT_take HX.out)
      have HAL := Lib.hid (totT_le rows (k + 1))
      have HLEN := Lib.hid (show p.2.2.length = p.1.rows.length by rw [← HSM.out, List.length_map])
      clear hp hmem hpv hA hin
      go_upto_region 5 with fail
      obtain ⟨w2, hw2⟩ : ∃ w2 : World, w2 = wr.alloc (.cells #[.int .i64 p.1.id, .int .i64 p.1.wt, .int .i64 p.1.df, .slice pa p.2.2.length pc, .bool p.1.gv] 140) := ⟨_, rfl⟩
      obtain ⟨xb, hxb⟩ : ∃ xb : Nat, xb = wr.heap.size := ⟨_, rfl⟩
      rw [← hw2, ← hxb]
      have hx2 : w2.heap[xb]? = some (.cells #[.int .i64 p.1.id, .int .i64 p.1.wt, .int .i64 p.1.df, .slice pa p.2.2.length pc, .bool p.1.gv] 140 (0, 0)) := by rw [hw2, hxb]; exact fr_alloc_at
      have HB2 := Lib.hid (show Below w1.heap.size w1 w2 by rw [hw2]; exact HB.out.alloc HB.out.size _)
      have c3 : w2.cell? ⟨xb, 3, none⟩ = some (.slice pa p.2.2.length pc) := fr_cell_of_heap hx2 rfl
      clear hw2 hxb hx2
      go_wp2_with fail
      go_loopg [18, 3] p.2.2.length (fun g i n wr' => ∃ j : Nat, g = p.2.2.length - j ∧ i = .int .i64 j ∧ n = .int .i64 ((A + totR (p.1.rows.take j) : Nat) : Int) ∧ j ≤ p.2.2.length ∧ Below w1.heap.size w1 wr')
      case atStart => exact ⟨0, rfl, rfl, rfl, Nat.zero_le _, HB2.out⟩
      case round =>
        obtain ⟨j, hg, rfl, rfl, hj, hb⟩ := hrel
        have HG' := Lib.hid hg
        have HBJ := Lib.hid hb
        clear hg hb
        by_cases hjl : j < p.2.2.length
        · obtain ⟨⟨r', u⟩, hp⟩ : ∃ r, p.2.2[j]? = some r := ⟨_, List.getElem?_eq_getElem hjl⟩
          have hy : p.1.rows[j]? = some r' := by rw [← HSM.out, List.getElem?_map, hp]; rfl
          have HTS := Lib.hid (totR_take hy)
          have HTL := Lib.hid (totR_le p.1.rows (j + 1))
          obtain ⟨gr, offr, capr, hv3, -, d0, d1, d2, d3⟩ := (HIN.out.below HBJ.out).at hp
          rw [HPV.out] at hv3
          cases hv3
          obtain ⟨ai, ci, hu⟩ : ∃ ai ci, u = .slice ai r'.its.length ci := its_form (HIN.out.its _ (List.mem_of_getElem? hp))
          simp only at d0 d1 d2 d3
          rw [hu] at d3
          have hjl2 : (j : Int) < (p.2.2.length : Int) := by omega
          clear hp hy hu
          go_upto_region 8 with fail
          obtain ⟨w3, hw3⟩ : ∃ w3 : World, w3 = wr.alloc (.cells #[.int .i64 r'.id, .int .i64 r'.wt, .int .i64 r'.df, .slice ai r'.its.length ci] 143) := ⟨_, rfl⟩
          obtain ⟨yb, hyb⟩ : ∃ yb : Nat, yb = wr.heap.size := ⟨_, rfl⟩
          rw [← hw3, ← hyb]
          have hx3 : w3.heap[yb]? = some (.cells #[.int .i64 r'.id, .int .i64 r'.wt, .int .i64 r'.df, .slice ai r'.its.length ci] 143 (0, 0)) := by rw [hw3, hyb]; exact fr_alloc_at
          have HB3 := Lib.hid (show Below w1.heap.size w1 w3 by rw [hw3]; exact HBJ.out.alloc HBJ.out.size _)
          have z3 : w3.cell? ⟨yb, 3, none⟩ = some (.slice ai r'.its.length ci) := fr_cell_of_heap hx3 rfl
          clear hw3 hyb hx3 d0 d1 d2 d3
          go_wp2_with fail
          go_roundg (p.2.2.length - (j + 1))
          case rel =>
            have h1 := HAS.out
            have h2 := HAL.out
            have h3 := HF.out
            have h4 := HTS.out
            have h5 := HTL.out
            have h6 := HFP.out
            have h7 := HA.out
            refine ⟨j + 1, rfl, by rw [show wrap64 ((j : Int) + 1) = ((j + 1 : Nat) : Int) by unfold wrap64; omega], ?_, by omega, HB3.out⟩
            rw [show wrap64 ((A : Int) + (totR (p.1.rows.take j) : Int) + (r'.its.length : Int)) = ((A + totR (p.1.rows.take (j + 1)) : Nat) : Int) by unfold wrap64; omega]
          case measure => have := HG'.out; omega
        · have HJ := Lib.hid (show p.1.rows.take j = p.1.rows from List.take_of_length_le (by have := HLEN.out; omega))
          go_wp2_with fail
          go_roundg (l.length - (k + 1))
          case rel =>
            have h0 := HFE.out.1
            refine ⟨k + 1, rfl, by rw [show wrap64 ((k : Int) + 1) = ((k + 1 : Nat) : Int) by unfold wrap64; omega], ?_, by omega, HBJ.out⟩
            rw [HJ.out, HAS.out, HA.out]
          case measure => have := HG.out; omega
    · have HK := Lib.hid (show rows.take k = rows from List.take_of_length_le (by rw [← HM.out, List.length_map]; omega))
      go_wp2_with fail
      go_ret
      exact ⟨ret_int (by rw [HK.out]), HB1.out.trans (HB.out.mono HB1.out.size)⟩
end
theorem totT_set : ∀ {rows : List TRow} {k : Nat} {r y : TRow}, rows[k]? = some r → totT (rows.set k y) + totR r.rows = totT rows + totR y.rows
  | [], _, _, _, h => by simp at h
  | x :: l, 0, r, y, h => by
    simp at h
    subst h
    simp [totT]
    omega
  | x :: l, k + 1, r, y, h => by
    have ih := totT_set (rows := l) (k := k) (y := y) (by simpa using h)
    simp [totT] at ih ⊢
    omega
theorem totT_erase : ∀ {rows : List TRow} {k : Nat}, totT (rows.eraseIdx k) ≤ totT rows
  | [], _ => by simp
  | x :: l, 0 => by simp [totT]
  | x :: l, k + 1 => by
    have := totT_erase (rows := l) (k := k)
    simp [totT] at this ⊢
    omega
theorem totT_with {rows : List TRow} {k : Nat} {r y : TRow} {gv : Bool} (h : rows[k]? = some r) (hy : totR y.rows ≤ totR r.rows) : totT (withT k y gv rows).2 ≤ totT rows := by
  unfold withT
  split
  · exact totT_erase
  · have := totT_set (y := y) h
    show totT (rows.set k y) ≤ _
    omega
theorem totT_push {e : Ent} {rows : List TRow} : totT (pushT e rows).2 ≤ totT rows + 1 := by
  rcases hfd : findT e.ten rows with _ | k
  · rw [pushT_none hfd]
    split
    · exact Nat.le_succ _
    · simp only
      split
      · have := tot_push (id := e.inv) (wt := e.iw) (x := itOf e) (rows := [])
        simp [totT, totR] at this ⊢
        omega
      · exact Nat.le_succ _
  · obtain ⟨r, hr, -⟩ := findT_at hfd
    rw [pushT_some hfd hr]
    split
    · exact Nat.le_succ _
    · have h1 := totT_set (y := { r with rows := stepPush e.inv e.iw (itOf e) r.rows }) hr
      have h2 := tot_push (id := e.inv) (wt := e.iw) (x := itOf e) (rows := r.rows)
      simp only at h1 ⊢
      omega
theorem totT_drop {id inv i : Int} {gv : Bool} {rows : List TRow} : totT (dropT id inv i gv rows).2.2 ≤ totT rows := by
  rcases hfd : findT id rows with _ | k
  · rw [dropT_none hfd]
    exact Nat.le_refl _
  · obtain ⟨r, hr, -⟩ := findT_at hfd
    rcases hd : (dropE inv i r.gv r.rows).1 with _ | _
    · rw [dropT_not hfd hr hd]
      exact Nat.le_refl _
    · rw [dropT_some hfd hr hd]
      exact totT_with hr drop_tot
theorem tookA_tot (s : Bool × List FRow) : totR (tookA s).2 ≤ totR s.2 := by
  unfold tookA
  split
  · rename_i r rs h
    rw [h]
    exact took_tot r rs
  · exact Nat.le_refl _
theorem totT_took (row : TRow) (rest : List TRow) : totT (tookT row rest).2 ≤ totT (row :: rest) := by
  unfold tookT
  exact totT_with (r := row) rfl (tookA_tot _)
theorem picksT_tot {q : Int} {gv : Bool} {l l2 : List TRow} (h : PicksT q gv l l2) : totT l2 = totT l := by
  induction h with
  | @grant gv x r l2 hp h =>
    have := picks_tot hp
    simp [totT]
    omega
  | @rotate gv x r l3 l2 hp h hr ih =>
    rw [ih]
    have := picks_tot hp
    simp [totT]
    omega
end Go.Proofs.YtdbjihkgafhakaaGreatDoor
