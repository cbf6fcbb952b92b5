/-
  law15: a call, by both: the walk.
-/
import Derived.Test.YtohkchilogmneaaTwin
namespace Go.Proofs.Ytohkchilogmneaa
open Go.RowKit Go.Sort

theorem RingAt.once {pre : List Int} {ρ : Roles} {w : World} {f : Nat} {q : Int} {gv : Bool} {rows : List FRow} (h : RingAt pre ρ w f q gv rows) : ∀ r ∈ rows, (r.its.map It.id).Nodup := by
  obtain ⟨sp, v, ns, qb, its, h, rfl⟩ := h
  intro r hr
  obtain ⟨n, hn, rfl⟩ := List.mem_map.1 hr
  exact (h.que n hn).good.once
theorem RingAt.qs {pre : List Int} {ρ : Roles} {w : World} {f : Nat} {q : Int} {gv : Bool} {rows : List FRow} (h : RingAt pre ρ w f q gv rows) : 1 ≤ q ∧ q ≤ 64 := by
  obtain ⟨sp, v, ns, qb, its, h, rfl⟩ := h
  exact ⟨h.q1, h.q2⟩
/-- Other blocks stay as they are, and nobody's. -/
def Kept (ρ ρ' : Roles) (b : Nat) (w w' : World) : Prop := ∀ j o, w.heap[j]? = some o → Free ρ b j → w'.heap[j]? = some o ∧ Free ρ' b j
theorem Kept.below {ρ ρ' : Roles} {b : Nat} {w w1 w' : World} (hb : Below w.heap.size w w1) (h : Kept ρ ρ' b w1 w') : Kept ρ ρ' b w w' := fun j o hj hf => h j o ((hb.block j (fp_lt_of_heap hj)).trans hj) hf
section
variable {q : Int} {w wr w' : World} {f b k k' : Nat} {gv gd gv' gd' : Bool} {rows rows' : List FRow} {ρ ρ' : Roles} {v v' : Value} {l l' : List (FRow × Value)}
theorem Both.ring_kept (_h : Both q w f b k gv rows ρ wr gd v l) (hl : Later ρ ρ' wr) (hF : Fp (Part ρ [0]) wr w') : Kept ρ (fence ρ' w') b wr w' := fun j o hj hf => by
  have hlt := fp_lt_of_heap hj
  refine ⟨hF.heap hj (fun ⟨s, hs⟩ => by rw [hf.2] at hs; simp at hs), hf.1, ?_⟩
  rw [fence_later ρ' w' j (Nat.lt_of_lt_of_le hlt hF.size), hl j hlt, hf.2]
theorem docs_kept (hF : Fp (fun j => j = b) wr w') : Kept ρ ρ b wr w' := fun _ _ hj hf => ⟨hF.heap hj hf.1, hf⟩
theorem Both.push_ring (h : Both q w f b k gv rows ρ wr gd v l) (hk : k < 1000000) (id wt : Int) (x : It) (hid : I64 id) (hx : I64 x.id) :
    Calls Try.prog 13 #[.pointer (some ⟨f, 0, none⟩), .int .i64 id, .int .i64 wt, .agg #[.int .i64 x.id, .int .i64 x.cost]] wr fun e w' => e = .returned (.int .i64 (pushE id wt x rows)) ∧ ∃ ρ', Both q w f b (k + 1) gv (stepPush id wt x rows) ρ' w' gd v l ∧ Kept ρ ρ' b wr w' := by
  refine (flowPush_any (pre := [0]) (by decide) id wt x wr h.st.ring hid hx (by have := h.st.few; omega)).mono ?_
  rintro e w' ⟨rfl, ρ', hl, hn, hR, hF⟩
  exact ⟨rfl, _, h.ring hl hn hR hF (by have := h.st.few; have := tot_push (id := id) (wt := wt) (x := x) (rows := rows); omega), h.ring_kept hl hF⟩
theorem Both.push_doc (h : Both q w f b k gv rows ρ wr gd v l) (id wt : Int) (x : It) {dr : List FRow} (hm : l.map Prod.fst = dr) (hfull : ∀ r ∈ dr, r.its ≠ []) (hf : totR dr < 1000000) :
    Calls Try.prog 58 #[.pointer (some ⟨b, 0, none⟩), .int .i64 id, .int .i64 wt, .agg #[.int .i64 x.id, .int .i64 x.cost]] wr fun e w' => e = .returned (.int .i64 (pushE id wt x dr)) ∧ ∃ v' l', Both q w f b k gv rows ρ w' gd v' l' ∧ l'.map Prod.fst = stepPush id wt x dr ∧ Kept ρ ρ b wr w' := by
  subst hm
  refine (r15Push_any id wt x b q gd v l wr h.doc hfull hf).mono ?_
  rintro e w' ⟨rfl, hF, v', l', hR, hm⟩
  exact ⟨rfl, v', l', h.docs hF hR, hm, docs_kept hF⟩
theorem Both.drop_ring (h : Both q w f b k gv rows ρ wr gd v l) (id i : Int) (hi : I64 i) :
    Calls Try.prog 16 #[.pointer (some ⟨f, 0, none⟩), .int .i64 id, .int .i64 i] wr fun e w' => e = .returned (.bool (dropE id i gv rows).1) ∧ ∃ ρ', Both q w f b k (dropE id i gv rows).2.1 (dropE id i gv rows).2.2 ρ' w' gd v l ∧ Kept ρ ρ' b wr w' := by
  refine (flowDrop_any id i wr h.st.ring hi).mono ?_
  rintro e w' ⟨rfl, hR, hF⟩
  have hn : NewRoles ρ [0] wr.heap.size := fun j _ => h.st.news j (Nat.zero_le _)
  exact ⟨rfl, _, h.ring (Later.refl _ _) hn hR hF (Nat.le_trans drop_tot h.st.few), h.ring_kept (Later.refl _ _) hF⟩
theorem Both.drop_doc (h : Both q w f b k gv rows ρ wr gd v l) (id i : Int) {dr : List FRow} (hm : l.map Prod.fst = dr) (hfull : ∀ r ∈ dr, r.its ≠ []) :
    Calls Try.prog 61 #[.pointer (some ⟨b, 0, none⟩), .int .i64 id, .int .i64 i] wr fun e w' => e = .returned (.bool (dropE id i gd dr).1) ∧ ∃ v' l', Both q w f b k gv rows ρ w' (dropE id i gd dr).2.1 v' l' ∧ l'.map Prod.fst = (dropE id i gd dr).2.2 ∧ Kept ρ ρ b wr w' := by
  subst hm
  refine (r15Drop_any id i b q gd v l wr h.doc hfull).mono ?_
  rintro e w' ⟨rfl, hF, v', l', hR, hm⟩
  exact ⟨rfl, v', l', h.docs hF hR, hm, docs_kept hF⟩
end
/-- The box of a call. -/
def acO (x : Ac) : Obj := .cells #[.int .i64 x.kind, .int .i64 x.flow, .int .i64 x.wt, .int .i64 x.id, .int .i64 x.cost] 32 (0, 0)
theorem ac_cell {w : World} {bx : Nat} {x : Ac} (h : w.heap[bx]? = some (acO x)) : w.cell? ⟨bx, 0, none⟩ = some (.int .i64 x.kind) ∧ w.cell? ⟨bx, 1, none⟩ = some (.int .i64 x.flow) ∧ w.cell? ⟨bx, 2, none⟩ = some (.int .i64 x.wt) ∧ w.cell? ⟨bx, 3, none⟩ = some (.int .i64 x.id) ∧ w.cell? ⟨bx, 4, none⟩ = some (.int .i64 x.cost) :=
  ⟨fr_cell_of_heap h rfl, fr_cell_of_heap h rfl, fr_cell_of_heap h rfl, fr_cell_of_heap h rfl, fr_cell_of_heap h rfl⟩
theorem ac_cell4 {w : World} {bx : Nat} {x : Ac} (h : w.heap[bx]? = some (acO x)) : w.cell? ⟨bx, 1, none⟩ = some (.int .i64 x.flow) ∧ w.cell? ⟨bx, 2, none⟩ = some (.int .i64 x.wt) ∧ w.cell? ⟨bx, 3, none⟩ = some (.int .i64 x.id) ∧ w.cell? ⟨bx, 4, none⟩ = some (.int .i64 x.cost) := (ac_cell h).2
theorem ac_cell2 {w : World} {bx : Nat} {x : Ac} (h : w.heap[bx]? = some (acO x)) : w.cell? ⟨bx, 1, none⟩ = some (.int .i64 x.flow) ∧ w.cell? ⟨bx, 3, none⟩ = some (.int .i64 x.id) := ⟨(ac_cell h).2.1, (ac_cell h).2.2.2.1⟩
section
variable {q : Int} {w wr : World} {f b k : Nat} {gv : Bool} {rows : List FRow} {ρ : Roles} {v : Value} {l : List (FRow × Value)}
set_option maxRecDepth 100000 in
set_option maxHeartbeats 4000000 in
theorem does15_push (x : Ac) (hx : AcOk x) (hk0 : x.kind = 0) (h : Both q w f b k gv rows ρ wr gv v l) (hm : l.map Prod.fst = rows) (hk : k < 1000000) :
    Calls Try.prog 22 #[.pointer (some ⟨f, 0, none⟩), .pointer (some ⟨b, 0, none⟩), .agg #[.int .i64 x.kind, .int .i64 x.flow, .int .i64 x.wt, .int .i64 x.id, .int .i64 x.cost]] wr (TwinPost q w f b (k + 1)) := by
  have HX := Lib.hid hx
  have HM := Lib.hid hm
  have HK := Lib.hid hk
  have HFULL := Lib.hid h.st.ring.full
  have HTOT := Lib.hid (show totR rows < 1000000 by have := h.st.few; omega)
  have hkb : (x.kind == 0) = true := beq_iff_eq.2 hk0
  have H := Lib.hid h
  clear h hx hm hk hk0
  go_enter Try.func22, Try.ntmps22
  go_upto_region 1 with fail
  obtain ⟨w1, hw1⟩ : ∃ w1 : World, w1 = wr.alloc (.cells #[.int .i64 x.kind, .int .i64 x.flow, .int .i64 x.wt, .int .i64 x.id, .int .i64 x.cost] 32) := ⟨_, rfl⟩
  obtain ⟨bx, hbx⟩ : ∃ bx : Nat, bx = wr.heap.size := ⟨_, rfl⟩
  rw [← hw1, ← hbx]
  have hx1 : w1.heap[bx]? = some (acO x) := by rw [hw1, hbx]; exact fr_alloc_at
  have HX1 := Lib.hid hx1
  have HXF := Lib.hid (show Free ρ b bx by rw [hbx]; exact H.out.doc.up _ (Nat.le_refl _))
  have HBD := Lib.hid (show Both q w f b k gv rows ρ w1.drew gv v l by rw [hw1]; exact (H.out.on box_below).on ⟨rfl, rfl, rfl, Nat.le_refl _, fun _ _ => rfl⟩)
  have HXD := Lib.hid (show w1.drew.heap[bx]? = some (acO x) from hx1)
  obtain ⟨c0, c1, c2, c3, c4⟩ := ac_cell hx1
  clear hw1 hbx hx1
  go_upto_region 3 with fail
  go_region_held3 (fun w' => w'.cell? ⟨bx, 1, none⟩ = some (.int .i64 x.flow) ∧ w'.cell? ⟨bx, 2, none⟩ = some (.int .i64 x.wt) ∧ w'.cell? ⟨bx, 3, none⟩ = some (.int .i64 x.id) ∧ w'.cell? ⟨bx, 4, none⟩ = some (.int .i64 x.cost))
    (first | go_keep | exact ac_cell4 hx7.out | exact ac_cell4 hx8.out | exact ac_cell4 hx9.out)
    (first
      | (go_at_call 12; refine (num15_any _ _).mono ?_; rintro e w10 ⟨rfl, rfl⟩)
      | (go_at_call 13; refine (HB8.out.push_ring HK.out x.flow x.wt ⟨x.id, x.cost⟩ HX.out.2.1 HX.out.2.2.2.1).mono ?_; rintro e w9 ⟨rfl, ρ9, hb9, hk9⟩; (have HB9 := Lib.hid hb9); (have hx9 := Lib.hid (hk9 _ _ hx8.out HXF.out).1); (have HT := Lib.hid (show Twin q w f b (k + 1) w9 from ⟨_, _, _, _, _, hb9, HM8.out⟩)); clear hb9 hk9)
      | (go_at_call 13; refine (HBD.out.push_ring HK.out x.flow x.wt ⟨x.id, x.cost⟩ HX.out.2.1 HX.out.2.2.2.1).mono ?_; rintro e w7 ⟨rfl, ρ7, hb7, hk7⟩; (have HB7 := Lib.hid hb7); (have hx7 := Lib.hid (hk7 _ _ HXD.out HXF.out).1); (have HXF7 := Lib.hid (hk7 _ _ HXD.out HXF.out).2); clear hb7 hk7)
      | (go_at_call 58; refine (HB7.out.push_doc x.flow x.wt ⟨x.id, x.cost⟩ HM.out HFULL.out HTOT.out).mono ?_; rintro e w9 ⟨rfl, v9, l9, hb9, hm9, hk9⟩; (have hx9 := Lib.hid (hk9 _ _ hx7.out HXF7.out).1); (have HT := Lib.hid (show Twin q w f b (k + 1) w9 from ⟨_, _, _, _, _, hb9, hm9⟩)); clear hb9 hm9 hk9)
      | (go_at_call 58; refine (HBD.out.push_doc x.flow x.wt ⟨x.id, x.cost⟩ HM.out HFULL.out HTOT.out).mono ?_; rintro e w8 ⟨rfl, v8, l8, hb8, hm8, hk8⟩; (have HB8 := Lib.hid hb8); (have HM8 := Lib.hid hm8); (have hx8 := Lib.hid (hk8 _ _ HXD.out HXF.out).1); clear hb8 hm8 hk8))
  all_goals
    go_wp2_with fail
    go_ret
    exact ⟨ret_bool (by simp), HT.out⟩
set_option maxRecDepth 100000 in
set_option maxHeartbeats 4000000 in
theorem does15_take (x : Ac) (hk1 : x.kind = 1) (h : Both q w f b k gv rows ρ wr gv v l) (hm : l.map Prod.fst = rows) :
    Calls Try.prog 22 #[.pointer (some ⟨f, 0, none⟩), .pointer (some ⟨b, 0, none⟩), .agg #[.int .i64 x.kind, .int .i64 x.flow, .int .i64 x.wt, .int .i64 x.id, .int .i64 x.cost]] wr (TwinPost q w f b k) := by
  have hkb : (x.kind == 0) = false := by rw [hk1]; rfl
  have hkb1 : (x.kind == 1) = true := beq_iff_eq.2 hk1
  have H := Lib.hid h
  have HM := Lib.hid hm
  clear h hm hk1
  go_enter Try.func22, Try.ntmps22
  go_upto_region 1 with fail
  obtain ⟨w1, hw1⟩ : ∃ w1 : World, w1 = wr.alloc (.cells #[.int .i64 x.kind, .int .i64 x.flow, .int .i64 x.wt, .int .i64 x.id, .int .i64 x.cost] 32) := ⟨_, rfl⟩
  obtain ⟨bx, hbx⟩ : ∃ bx : Nat, bx = wr.heap.size := ⟨_, rfl⟩
  rw [← hw1, ← hbx]
  have hx1 : w1.heap[bx]? = some (acO x) := by rw [hw1, hbx]; exact fr_alloc_at
  have HB1 := Lib.hid (show Both q w f b k gv rows ρ w1 gv v l by rw [hw1]; exact H.out.on box_below)
  obtain ⟨c0, -, -, -, -⟩ := ac_cell hx1
  clear hw1 hbx hx1
  by_cases hne : rows = []
  · subst hne
    have hl0 : l = [] := by have h := HM.out; simpa using h
    subst hl0
    go_upto_region 5 with fail
    clear c0
    go_wp2_with fail
    refine (flowTake_nil _ HB1.out.st.ring).mono ?_
    rintro e w3 ⟨rfl, hb3⟩
    have HB3 := Lib.hid ((HB1.out.on hb3).on (box_below (o := .cells #[.int .i64 0, .int .i64 0] 37)))
    clear hb3
    go_wp2_with fail
    refine (r15Take_nil b q gv v _ HB3.out.doc).mono ?_
    rintro e w4 ⟨rfl, hb4⟩
    have HB4 := Lib.hid ((HB3.out.on hb4).on (box_below (o := .cells #[.int .i64 0, .int .i64 0] 37)))
    have hk3 := (hb4.block w3.heap.size (by simp)).trans fr_alloc_at
    have HK3 := Lib.hid hk3
    clear hb4 hk3
    go_upto_region 7 with fail
    have a0 : (w4.alloc (.cells #[.int .i64 0, .int .i64 0] 37)).cell? ⟨w3.heap.size, 0, none⟩ = some (.int .i64 0) := fr_cell_of_heap (fr_alloc_old HK3.out) rfl
    have a1 : (w4.alloc (.cells #[.int .i64 0, .int .i64 0] 37)).cell? ⟨w3.heap.size, 1, none⟩ = some (.int .i64 0) := fr_cell_of_heap (fr_alloc_old HK3.out) rfl
    go_wp2_with fail
    go_ret
    exact ⟨rfl, _, _, _, _, _, HB4.out, rfl⟩
  · have HNE := Lib.hid hne
    clear hne
    go_upto_region 5 with fail
    clear c0
    go_wp2_with fail
    refine (flowTake_cons (by decide) _ HB1.out.st.ring HNE.out).mono ?_
    rintro e w3 ⟨row, rest, ρ3, rfl, hp, hl3, hn3, hR3, hF3⟩
    have HP := Lib.hid hp
    have hB3 := HB1.out.ring hl3 hn3 hR3 hF3 (Nat.le_trans (took_tot row rest) (by rw [picks_tot hp]; exact HB1.out.st.few))
    obtain ⟨y, hy⟩ : ∃ y, y = row.its.headD ⟨0, 0⟩ := ⟨_, rfl⟩
    rw [← hy]
    have HY := Lib.hid hy
    unfold itV
    obtain ⟨ρ', hρ'⟩ : ∃ ρ', ρ' = fence ρ3 w3 := ⟨_, rfl⟩
    rw [← hρ'] at hB3
    have HB3 := Lib.hid hB3
    have hok := HB1.out.st.ring.rowsOk
    have hon := HB1.out.st.ring.once
    have hq := HB1.out.st.ring.qs
    rw [← HM.out] at hok hon
    have HOK := Lib.hid hok
    have HON := Lib.hid hon
    have HQ := Lib.hid hq
    have HLN := Lib.hid (show l ≠ [] from fun e => HNE.out (by rw [← HM.out, e]; rfl))
    clear hp hl3 hn3 hR3 hF3 hB3 hy hρ' hok hon hq
    go_upto_region 6 with fail
    obtain ⟨b1, hb1⟩ : ∃ b1 : Nat, b1 = w3.heap.size := ⟨_, rfl⟩
    obtain ⟨w4, hw4⟩ : ∃ w4 : World, w4 = w3.alloc (.cells #[.int .i64 y.id, .int .i64 y.cost] 37) := ⟨_, rfl⟩
    rw [← hw4, ← hb1]
    have HB4 := Lib.hid (show Both q w f b k (tookR row rest).1 (tookR row rest).2 ρ' w4 gv v l by rw [hw4]; exact HB3.out.on box_below)
    have HK4 := Lib.hid (show w4.heap[b1]? = some (.cells #[.int .i64 y.id, .int .i64 y.cost] 37 (0, 0)) by rw [hw4, hb1]; exact fr_alloc_at)
    have HF1 := Lib.hid (show Free ρ' b b1 by rw [hb1]; exact HB3.out.doc.up _ (Nat.le_refl _))
    clear hw4 hb1
    go_wp2_with fail
    refine (r15Take_cons b q gv v l _ HB4.out.doc HLN.out HQ.out.1 HQ.out.2 HOK.out HON.out).mono ?_
    rintro e w5 ⟨row', rest', v5, l5, rfl, hp5, hR5, hm5, hF5⟩
    rw [HM.out] at hp5
    have hag := hp5.once HP.out
    rw [List.cons.injEq] at hag
    obtain ⟨rfl, rfl⟩ := hag
    have HB5 := Lib.hid (HB4.out.docs hF5 hR5)
    have HM5 := Lib.hid hm5
    have hk5 := (docs_kept (ρ := ρ') hF5 _ _ HK4.out HF1.out).1
    rw [← HY.out]
    unfold itV
    clear hp5 hR5 hm5 hF5
    go_upto_region 7 with fail
    obtain ⟨w6, hw6⟩ : ∃ w6 : World, w6 = w5.alloc (.cells #[.int .i64 y.id, .int .i64 y.cost] 37) := ⟨_, rfl⟩
    obtain ⟨b2, hb2⟩ : ∃ b2 : Nat, b2 = w5.heap.size := ⟨_, rfl⟩
    rw [← hw6, ← hb2]
    have hh1 : w6.heap[b1]? = some (.cells #[.int .i64 y.id, .int .i64 y.cost] 37 (0, 0)) := by rw [hw6]; exact fr_alloc_old hk5
    have hh2 : w6.heap[b2]? = some (.cells #[.int .i64 y.id, .int .i64 y.cost] 37 (0, 0)) := by rw [hw6, hb2]; exact fr_alloc_at
    have HB6 := Lib.hid (show Both q w f b k _ _ ρ' w6 _ _ _ by rw [hw6]; exact HB5.out.on box_below)
    clear hw6 hb2 hk5
    have a0 : w6.cell? ⟨b1, 0, none⟩ = some (.int .i64 y.id) := fr_cell_of_heap hh1 rfl
    have a1 : w6.cell? ⟨b1, 1, none⟩ = some (.int .i64 y.cost) := fr_cell_of_heap hh1 rfl
    have d0 : w6.cell? ⟨b2, 0, none⟩ = some (.int .i64 y.id) := fr_cell_of_heap hh2 rfl
    have d1 : w6.cell? ⟨b2, 1, none⟩ = some (.int .i64 y.cost) := fr_cell_of_heap hh2 rfl
    clear hh1 hh2
    go_wp2_with fail
    go_ret
    exact ⟨rfl, _, _, _, _, _, HB6.out, HM5.out⟩
set_option maxRecDepth 100000 in
set_option maxHeartbeats 4000000 in
theorem does15_drop (x : Ac) (hk0 : x.kind ≠ 0) (hk1 : x.kind ≠ 1) (hk2 : x.kind ≠ 2) (h : Both q w f b k gv rows ρ wr gv v l) (hm : l.map Prod.fst = rows) (hx : AcOk x) :
    Calls Try.prog 22 #[.pointer (some ⟨f, 0, none⟩), .pointer (some ⟨b, 0, none⟩), .agg #[.int .i64 x.kind, .int .i64 x.flow, .int .i64 x.wt, .int .i64 x.id, .int .i64 x.cost]] wr (TwinPost q w f b k) := by
  have hkb : (x.kind == 0) = false := beq_eq_false_iff_ne.2 hk0
  have hkb1 : (x.kind == 1) = false := beq_eq_false_iff_ne.2 hk1
  have hkb2 : (x.kind == 2) = false := beq_eq_false_iff_ne.2 hk2
  have HX := Lib.hid hx
  have H := Lib.hid h
  have HM := Lib.hid hm
  have HFULL := Lib.hid h.st.ring.full
  clear h hm hk0 hk1 hk2 hx
  go_enter Try.func22, Try.ntmps22
  go_upto_region 1 with fail
  obtain ⟨w1, hw1⟩ : ∃ w1 : World, w1 = wr.alloc (.cells #[.int .i64 x.kind, .int .i64 x.flow, .int .i64 x.wt, .int .i64 x.id, .int .i64 x.cost] 32) := ⟨_, rfl⟩
  obtain ⟨bx, hbx⟩ : ∃ bx : Nat, bx = wr.heap.size := ⟨_, rfl⟩
  rw [← hw1, ← hbx]
  have hx1 : w1.heap[bx]? = some (acO x) := by rw [hw1, hbx]; exact fr_alloc_at
  have HXF := Lib.hid (show Free ρ b bx by rw [hbx]; exact H.out.doc.up _ (Nat.le_refl _))
  have HBD := Lib.hid (show Both q w f b k gv rows ρ w1.drew gv v l by rw [hw1]; exact (H.out.on box_below).on ⟨rfl, rfl, rfl, Nat.le_refl _, fun _ _ => rfl⟩)
  have HXD := Lib.hid (show w1.drew.heap[bx]? = some (acO x) from hx1)
  obtain ⟨c0, c1, c2, c3, c4⟩ := ac_cell hx1
  clear hw1 hbx hx1 c2 c4
  go_upto_region 12 with fail
  go_region_held3 (fun w' => w'.cell? ⟨bx, 1, none⟩ = some (.int .i64 x.flow) ∧ w'.cell? ⟨bx, 3, none⟩ = some (.int .i64 x.id))
    (first | go_keep | exact ac_cell2 hx7.out | exact ac_cell2 hx8.out | exact ac_cell2 hx9.out)
    (first
      | (go_at_call 16; refine (HB8.out.drop_ring x.flow x.id HX.out.2.2.2.1).mono ?_; rintro e w9 ⟨rfl, ρ9, hb9, hk9⟩; (have HB9 := Lib.hid hb9); (have hx9 := Lib.hid (hk9 _ _ hx8.out HXF.out).1); (have HT := Lib.hid (show Twin q w f b k w9 from ⟨_, _, _, _, _, hb9, HM8.out⟩)); clear hb9 hk9)
      | (go_at_call 16; refine (HBD.out.drop_ring x.flow x.id HX.out.2.2.2.1).mono ?_; rintro e w7 ⟨rfl, ρ7, hb7, hk7⟩; (have HB7 := Lib.hid hb7); (have hx7 := Lib.hid (hk7 _ _ HXD.out HXF.out).1); (have HXF7 := Lib.hid (hk7 _ _ HXD.out HXF.out).2); clear hb7 hk7)
      | (go_at_call 61; refine (HB7.out.drop_doc x.flow x.id HM.out HFULL.out).mono ?_; rintro e w9 ⟨rfl, v9, l9, hb9, hm9, hk9⟩; (have hx9 := Lib.hid (hk9 _ _ hx7.out HXF7.out).1); (have HT := Lib.hid (show Twin q w f b k w9 from ⟨_, _, _, _, _, hb9, hm9⟩)); clear hb9 hm9 hk9)
      | (go_at_call 61; refine (HBD.out.drop_doc x.flow x.id HM.out HFULL.out).mono ?_; rintro e w8 ⟨rfl, v8, l8, hb8, hm8, hk8⟩; (have HB8 := Lib.hid hb8); (have HM8 := Lib.hid hm8); (have hx8 := Lib.hid (hk8 _ _ HXD.out HXF.out).1); clear hb8 hm8 hk8))
  all_goals
    go_wp2_with fail
    go_ret
    exact ⟨ret_bool (by simp), HT.out⟩
end
end Go.Proofs.Ytohkchilogmneaa
