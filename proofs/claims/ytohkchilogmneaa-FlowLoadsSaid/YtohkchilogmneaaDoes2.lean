/-
  law15: a Pick by both; a call by both, in one law: the walks.
-/
import Derived.Test.YtohkchilogmneaaDoes
namespace Go.Proofs.Ytohkchilogmneaa
open Go.RowKit Go.Sort
section
variable {q : Int} {w wr : World} {f b k : Nat} {gv : Bool} {rows : List FRow} {ρ : Roles} {v : Value} {l : List (FRow × Value)}
set_option maxRecDepth 100000 in
set_option maxHeartbeats 8000000 in
theorem does15_pick (x : Ac) (hk2 : x.kind = 2) (h : Both q w f b k gv rows ρ wr gv v l) (hm : l.map Prod.fst = rows) :
    Calls Try.prog 22 #[.pointer (some ⟨f, 0, none⟩), .pointer (some ⟨b, 0, none⟩), .agg #[.int .i64 x.kind, .int .i64 x.flow, .int .i64 x.wt, .int .i64 x.id, .int .i64 x.cost]] wr (TwinPost q w f b k) := by
  have hkb : (x.kind == 0) = false := by rw [hk2]; rfl
  have hkb1 : (x.kind == 1) = false := by rw [hk2]; rfl
  have hkb2 : (x.kind == 2) = true := beq_iff_eq.2 hk2
  have H := Lib.hid h
  have HM := Lib.hid hm
  clear h hm hk2
  go_enter Try.func22, Try.ntmps22
  go_upto_region 1 with fail
  obtain ⟨w1, hw1⟩ : ∃ w1 : World, w1 = wr.alloc (.cells #[.int .i64 x.kind, .int .i64 x.flow, .int .i64 x.wt, .int .i64 x.id, .int .i64 x.cost] 32) := ⟨_, rfl⟩
  obtain ⟨bx, hbx⟩ : ∃ bx : Nat, bx = wr.heap.size := ⟨_, rfl⟩
  rw [← hw1, ← hbx]
  have hx1 : w1.heap[bx]? = some (acO x) := by rw [hw1, hbx]; exact fr_alloc_at
  have HB1 := Lib.hid (show Both q w f b k gv rows ρ w1 gv v l by rw [hw1]; exact H.out.on box_below)
  obtain ⟨c0, -, -, -, -⟩ := ac_cell hx1
  clear hw1 hbx hx1
  by_cases hne : rows = []
  · subst hne
    have hl0 : l = [] := by have h := HM.out; simpa using h
    subst hl0
    go_upto_region 9 with fail
    clear c0
    go_wp2_with fail
    refine (flowPick_nil _ HB1.out.st.ring).mono ?_
    rintro e w3 ⟨rfl, hb3⟩
    have HB3 := Lib.hid ((HB1.out.on hb3).on (box_below (o := .cells #[.int .i64 0, .int .i64 0] 37)))
    clear hb3
    go_wp2_with fail
    refine (r15Pick_nil b q gv v _ HB3.out.doc).mono ?_
    rintro e w4 ⟨rfl, hb4⟩
    have HB4 := Lib.hid (HB3.out.on hb4)
    have hk3 := (hb4.block w3.heap.size (by simp)).trans fr_alloc_at
    clear hb4
    go_upto_region 11 with fail
    have a0 : w4.cell? ⟨w3.heap.size, 0, none⟩ = some (.int .i64 0) := fr_cell_of_heap hk3 rfl
    have a1 : w4.cell? ⟨w3.heap.size, 1, none⟩ = some (.int .i64 0) := fr_cell_of_heap hk3 rfl
    clear hk3
    go_quiet (fail)
    clear a0 a1
    go_wp2_with fail
    go_ret
    exact ⟨rfl, _, _, _, _, _, HB4.out.on (below_drewN (Below.refl _ _) _), rfl⟩
  · have HNE := Lib.hid hne
    clear hne
    go_upto_region 9 with fail
    clear c0
    go_wp2_with fail
    refine (flowPick_cons (by decide) _ HB1.out.st.ring HNE.out).mono ?_
    rintro e w3 ⟨row, rest, ρ3, rfl, hp, hl3, hn3, hR3, hF3⟩
    have HP := Lib.hid hp
    have hB3 := HB1.out.ring hl3 hn3 hR3 hF3 (by rw [picks_tot hp]; exact HB1.out.st.few)
    obtain ⟨y, ys, hy⟩ : ∃ y ys, row.its = y :: ys := by
      have := hR3.full row List.mem_cons_self
      cases h : row.its with
      | nil => exact absurd h this
      | cons y ys => exact ⟨y, ys, rfl⟩
    have hhd : row.its.headD ⟨0, 0⟩ = y := by rw [hy]; rfl
    rw [hhd]
    have HY := Lib.hid hy
    unfold itV
    obtain ⟨ρ', hρ'⟩ : ∃ ρ', ρ' = fence ρ3 w3 := ⟨_, rfl⟩
    rw [← hρ'] at hB3
    have HB3 := Lib.hid hB3
    have hok := HB1.out.st.ring.rowsOk
    have hq := HB1.out.st.ring.qs
    rw [← HM.out] at hok
    have HOK := Lib.hid hok
    have HQ := Lib.hid hq
    have HLN := Lib.hid (show l ≠ [] from fun e => HNE.out (by rw [← HM.out, e]; rfl))
    clear hp hl3 hn3 hR3 hF3 hB3 hy hhd hρ' hok hq
    go_upto_region 10 with fail
    obtain ⟨b1, hb1⟩ : ∃ b1 : Nat, b1 = w3.heap.size := ⟨_, rfl⟩
    obtain ⟨w4, hw4⟩ : ∃ w4 : World, w4 = w3.alloc (.cells #[.int .i64 y.id, .int .i64 y.cost] 37) := ⟨_, rfl⟩
    rw [← hw4, ← hb1]
    have HB4 := Lib.hid (show Both q w f b k true (row :: rest) ρ' w4 gv v l by rw [hw4]; exact HB3.out.on box_below)
    have HK4 := Lib.hid (show w4.heap[b1]? = some (.cells #[.int .i64 y.id, .int .i64 y.cost] 37 (0, 0)) by rw [hw4, hb1]; exact fr_alloc_at)
    have HF1 := Lib.hid (show Free ρ' b b1 by rw [hb1]; exact HB3.out.doc.up _ (Nat.le_refl _))
    clear hw4 hb1
    go_wp2_with fail
    refine (r15Pick_cons b q gv v l _ HB4.out.doc HLN.out HQ.out.1 HQ.out.2 HOK.out).mono ?_
    rintro e w5 ⟨rfl, v5, l5, hR5, hp5, hF5⟩
    rw [HM.out] at hp5
    have hag := hp5.once HP.out
    obtain ⟨⟨r1, u1⟩, l6, rfl⟩ : ∃ p l6, l5 = p :: l6 := by
      cases l5 with
      | nil => cases hag
      | cons p l6 => exact ⟨p, l6, rfl⟩
    have hr1 : r1 = row := by
      rw [List.map_cons, List.cons.injEq] at hag
      exact hag.1
    subst hr1
    have HAG := Lib.hid hag
    have HB5 := Lib.hid (HB4.out.docs hF5 hR5)
    have hk5 := (docs_kept (ρ := ρ') hF5 _ _ HK4.out HF1.out).1
    obtain ⟨g, off, cap, rfl, -, r0, -, -, r3⟩ := hR5.rows.at (k := 0) rfl
    have hit := hR5.rows.its _ List.mem_cons_self
    simp only at hit r0 r3
    obtain ⟨gi, offi, ci, rfl, i0, i1⟩ := its_at hit (k := 0) (x := y) (by rw [HY.out]; rfl)
    simp only [Nat.zero_mul, Nat.add_zero] at r0 r3 i0 i1
    have hil : r1.its.length = ys.length + 1 := by rw [HY.out]; rfl
    rw [hil] at r3
    have a0 : w5.cell? ⟨b1, 0, none⟩ = some (.int .i64 y.id) := fr_cell_of_heap hk5 rfl
    have a1 : w5.cell? ⟨b1, 1, none⟩ = some (.int .i64 y.cost) := fr_cell_of_heap hk5 rfl
    have d1 : w5.cell? ⟨b, 1, none⟩ = some (.slice (some ⟨g, off, none⟩) (l6.length + 1) cap) := fr_cell_of_heap hR5.head rfl
    have hz1 : (0 : Int) < (l6.length : Int) + 1 := by omega
    have hz2 : (0 : Int) < (ys.length : Int) + 1 := by omega
    clear hp5 hR5 hF5 hag hk5 hit hil
    go_upto_region 11 with fail
    go_quiet (fail)
    clear a0 a1 d1 r0 r3 i0 i1 hz1 hz2
    go_wp2_with fail
    go_ret
    exact ⟨rfl, _, _, _, _, _, HB5.out.on (below_drewN (Below.refl _ _) _), HAG.out⟩
theorem does15_any (x : Ac) (hx : AcOk x) (h : Twin q w f b k wr) (hk : k < 1000000) :
    Calls Try.prog 22 #[.pointer (some ⟨f, 0, none⟩), .pointer (some ⟨b, 0, none⟩), .agg #[.int .i64 x.kind, .int .i64 x.flow, .int .i64 x.wt, .int .i64 x.id, .int .i64 x.cost]] wr (TwinPost q w f b (k + 1)) := by
  obtain ⟨gv, rows, ρ, v, l, h, hm⟩ := h
  have hup : ∀ e w', TwinPost q w f b k e w' → TwinPost q w f b (k + 1) e w' := fun e w' ⟨he, gv, rows, ρ, v, l, h, hm⟩ => ⟨he, gv, rows, ρ, v, l, h.more (Nat.le_succ k), hm⟩
  by_cases h0 : x.kind = 0
  · exact does15_push x hx h0 h hm hk
  · by_cases h1 : x.kind = 1
    · exact (does15_take x h1 h hm).mono hup
    · by_cases h2 : x.kind = 2
      · exact (does15_pick x h2 h hm).mono hup
      · exact (does15_drop x h0 h1 h2 h hm hx).mono hup
end
end Go.Proofs.Ytohkchilogmneaa
