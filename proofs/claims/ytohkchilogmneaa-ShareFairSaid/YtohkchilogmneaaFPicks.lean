/-
  law15.FlowPicks: the walk.
-/
import Derived.Test.YtohkchilogmneaaOpen15
import Derived.Deep.RegionHeld3
import Derived.Deep.RegionWith
namespace Go.Proofs.Ytohkchilogmneaa
open Go.RowKit

theorem picks_tot {q : Int} {gv : Bool} {l l2 : List FRow} (h : PicksR q gv l l2) : totR l2 = totR l := by
  induction h with
  | @grant gv x r h => simp [totR, (chargeR_its q gv x).1]
  | @rotate gv x r l2 h hr ih =>
    rw [ih]
    simp [totR, (chargeR_its q gv x).1]
    omega
theorem took_tot (row : FRow) (rest : List FRow) : totR (tookR row rest).2 ≤ totR (row :: rest) := by
  unfold tookR withR
  split
  · simp [totR]
  · simp [totR]
/-- Where a walk of a law stands: a ring, with so many items at most. -/
structure RState (q : Int) (w : World) (f k : Nat) (gv : Bool) (rows : List FRow) (ρ : Roles) (wr : World) : Prop where
  ring : RingAt [0] ρ wr f q gv rows
  few : totR rows ≤ k
  below : Below w.heap.size w wr
  news : NewRoles ρ [0] 0
  old : ∀ j, j < w.heap.size → ρ j = []
section
variable {q : Int} {w wr w' : World} {f k : Nat} {gv : Bool} {rows : List FRow} {ρ : Roles}
theorem RState.on (h : RState q w f k gv rows ρ wr) (hb : Below wr.heap.size wr w') : RState q w f k gv rows ρ w' :=
  ⟨h.ring.below hb, h.few, h.below.trans (hb.mono h.below.size), h.news, h.old⟩
theorem RState.turn (h : RState q w f k gv rows ρ wr) {ρ' : Roles} {gv' : Bool} {rows' : List FRow} {k' : Nat} (hl : Later ρ ρ' wr) (hn : NewRoles ρ' [0] wr.heap.size) (hR : RingAt [0] ρ' w' f q gv' rows') (hF : Fp (Part ρ [0]) wr w') (hk : totR rows' ≤ k') : RState q w f k' gv' rows' ρ' w' :=
  ⟨hR, hk, below_of_fp (by decide) h.below hF h.old, news_later h.news hl hn, fun j hj => (hl j (Nat.lt_of_lt_of_le hj h.below.size)).trans (h.old j hj)⟩
/-- A block that is no ring's, and lies there: it stays as it is. -/
theorem RState.keep (_h : RState q w f k gv rows ρ wr) (hF : Fp (Part ρ [0]) wr w') {b : Nat} {o : Obj} (hb : wr.heap[b]? = some o) (hr : ρ b = []) : w'.heap[b]? = some o := hF.heap hb (fun ⟨s, hs⟩ => by rw [hr] at hs; simp at hs)
/-- The roles told anew: blocks that come are nobody's yet. -/
theorem RState.fence (h : RState q w f k gv rows ρ wr) : RState q w f k gv rows (fence ρ wr) wr :=
  ⟨h.ring.later (fence_later ρ wr), h.few, h.below, fun j _ => by
    by_cases hj : j < wr.heap.size
    · have e := fence_later ρ wr j hj
      rcases h.news j (Nat.zero_le _) with h1 | ⟨s, h1⟩
      · exact .inl (e.trans h1)
      · exact .inr ⟨s, e.trans h1⟩
    · exact .inl (by simp [Proofs.Ytohkchilogmneaa.fence, hj]), fun j hj => (fence_later ρ wr j (Nat.lt_of_lt_of_le hj h.below.size)).trans (h.old j hj)⟩
end
theorem picks_again {q : Int} {gv : Bool} {l l3 : List FRow} {row : FRow} {rest : List FRow} (h : PicksR q gv l (row :: rest)) (h' : PicksR q true (row :: rest) l3) : l3 = row :: rest := by
  obtain ⟨x, r, he, hle⟩ := h.le
  cases he
  exact (h'.once (.grant (by rw [show chargeR q true row = row from rfl]; exact hle)))
theorem flowNew_state (q : Int) (w w' : World) (h1 : 1 ≤ q) (h2 : q ≤ 64) (hw : w' = (w.alloc (.cells #[.int .i64 q, .slice none 0 0, .bool false] 100)).alloc (.cells #[.pointer (some ⟨w.heap.size, 0, none⟩)] 102)) : ∃ ρ, RState q w (w.heap.size + 1) 0 false [] ρ w' := by
  refine ⟨fun k => if k = w.heap.size then [0] ++ [1] else if k = w.heap.size + 1 then [0] ++ [6] else [], by rw [hw]; exact flowNew_at w h1 h2 (by simp) (by simp), by simp [totR], by rw [hw]; exact box_below.alloc (by simp) _, fun k _ => ?_, fun k hk => by simp [show k ≠ w.heap.size by omega, show k ≠ w.heap.size + 1 by omega]⟩
  unfold Part
  by_cases h1 : k = w.heap.size
  · simp only [h1, if_true]
    exact .inr ⟨[1], rfl⟩
  · by_cases h2 : k = w.heap.size + 1
    · rw [h2]
      simp
    · simp [h1, h2]
theorem below_chain {w W w9 : World} (h1 : Below w.heap.size w W) (h2 : Below W.heap.size W w9) : Below w.heap.size w w9 := h1.trans (h2.mono h1.size)
theorem rows_head {T : TypeId} {w : World} {base : Nat} {v : Value} {l : List (FRow × Value)} {row : FRow} {rest : List FRow} {x : It} {xs : List It} (h : RowsIn T w base v l) (hm : l.map Prod.fst = row :: rest) (hx : row.its = x :: xs) :
    ∃ g cap gi ci, v = .slice (some ⟨g, 0, none⟩) (rest.length + 1) cap ∧ w.cell? ⟨g, 0, none⟩ = some (.int .i64 row.id) ∧ w.cell? ⟨g, 3, none⟩ = some (.slice (some ⟨gi, 0, none⟩) (xs.length + 1) ci) ∧ w.cell? ⟨gi, 0, none⟩ = some (.int .i64 x.id) ∧ w.cell? ⟨gi, 1, none⟩ = some (.int .i64 x.cost) := by
  obtain ⟨p, l', rfl⟩ : ∃ p l', l = p :: l' := by
    cases l with
    | nil => cases hm
    | cons p l' => exact ⟨p, l', rfl⟩
  rw [List.map_cons, List.cons.injEq] at hm
  obtain ⟨h1, h2⟩ := hm
  obtain ⟨a, cap, hv, _, _, _, hc⟩ := own_cells h.own
  have hi := h.its p List.mem_cons_self
  obtain ⟨ai, ci, hvi, _, _, _, hci⟩ := own_cells hi
  obtain ⟨g, rfl, _, _, c0, _⟩ := hc 0 (.int .i64 p.1.id) rfl
  obtain ⟨g', hg', _, _, c3, _⟩ := hc 3 p.2 rfl
  cases hg'
  rw [h1, hx] at hci hvi
  obtain ⟨gi, rfl, _, _, i0, _⟩ := hci 0 (.int .i64 x.id) rfl
  obtain ⟨g', hg', _, _, i1, _⟩ := hci 1 (.int .i64 x.cost) rfl
  cases hg'
  refine ⟨g, cap, gi, ci, ?_, by rw [← h1]; exact c0, by rw [c3, hvi, List.length_cons], i0, i1⟩
  rw [hv, List.length_cons, ← h2, List.length_map]
def FPRel (q : Int) (w : World) (l : List Ac) (g : Nat) (i : Value) (wr : World) : Prop := ∃ (k : Nat) (gv : Bool) (rows : List FRow) (ρ : Roles), g = l.length - k ∧ i = .int .i64 k ∧ k ≤ l.length ∧ RState q w (w.heap.size + 1) k gv rows ρ wr
set_option maxRecDepth 100000 in
set_option maxHeartbeats 16000000 in
/-- THE WALK: FlowPicks. -/
theorem flowPicks_any (q : Int) (v : Value) (l : List Ac) (w : World) (hl : AcsAt w v l) (hok : ∀ y ∈ l, AcOk y) : Calls Try.prog 4 #[.int .i64 q, v] w (TrueBelow w) := by
  have HA := Lib.hid hl
  have HOK := Lib.hid hok
  obtain ⟨a, cap, rfl⟩ := hl.form
  clear hl hok
  by_cases hq : 1 ≤ q ∧ q ≤ 64
  · obtain ⟨q1, q2⟩ := hq
    have HQ1 := Lib.hid q1
    have HQ2 := Lib.hid q2
    clear q1 q2
    go_enter Try.func4, Try.ntmps4
    go_wp2_with fail
    refine (flowNew_any q _ HQ1.out HQ2.out).mono ?_
    rintro e w1 ⟨rfl, hw1⟩
    obtain ⟨ρ1, hs1⟩ := flowNew_state q w w1 HQ1.out HQ2.out hw1
    have HS1 := Lib.hid hs1
    clear hw1 hs1
    by_cases hlen : 200 < l.length
    · have hd : decide (200 < (l.length : Int)) = true := decide_eq_true (by omega)
      go_wp2_with fail
      refine (live15_any _).mono ?_
      rintro e w2 ⟨rfl, hb⟩
      have HB := Lib.hid (HS1.out.below.trans (hb.mono HS1.out.below.size))
      clear hb
      go_wp2_with fail
      go_ret
      exact ⟨rfl, HB.out⟩
    · have hd : decide (200 < (l.length : Int)) = false := decide_eq_false (by omega)
      go_wp2_with fail
      go_loopg [6] l.length (fun g i wr => FPRel q w l g i wr)
      case atStart => exact ⟨0, false, [], ρ1, rfl, rfl, Nat.zero_le _, HS1.out⟩
      case round =>
        obtain ⟨k, gv, rows, ρ, hg, rfl, hk, hS⟩ := hrel
        have HG := Lib.hid hg
        have HS := Lib.hid hS
        clear hg hS
        by_cases hlt : k < l.length
        · obtain ⟨x, hx⟩ : ∃ x, l[k]? = some x := ⟨_, List.getElem?_eq_getElem hlt⟩
          have HXX := Lib.hid hx
          obtain ⟨g, off, cap', hv, hc⟩ := (HA.out.below HS.out.below).at hx
          cases hv
          have HC := Lib.hid hc
          have x0 : wr.cell? ⟨g, off + k * 5, none⟩ = some (.int .i64 x.kind) := hc 0 _ rfl
          clear hx hc
          go_upto_if 40 with fail
          go_cut [] (fun wx => ∃ (gv' : Bool) (rows' : List FRow) (ρ' : Roles), RState q w (w.heap.size + 1) (k + 1) gv' rows' ρ' wx)
          case first =>
            by_cases hk0 : x.kind = 0
            · have hkb : (x.kind == 0) = true := beq_iff_eq.2 hk0
              have x1 : wr.cell? ⟨g, off + k * 5 + 1, none⟩ = some (.int .i64 x.flow) := by have := HC.out 1 _ rfl; rwa [← Nat.add_assoc] at this
              have x2 : wr.cell? ⟨g, off + k * 5 + 2, none⟩ = some (.int .i64 x.wt) := by have := HC.out 2 _ rfl; rwa [← Nat.add_assoc] at this
              have x3 : wr.cell? ⟨g, off + k * 5 + 3, none⟩ = some (.int .i64 x.id) := by have := HC.out 3 _ rfl; rwa [← Nat.add_assoc] at this
              have x4 : wr.cell? ⟨g, off + k * 5 + 4, none⟩ = some (.int .i64 x.cost) := by have := HC.out 4 _ rfl; rwa [← Nat.add_assoc] at this
              have HX := Lib.hid (HOK.out x (List.mem_of_getElem? HXX.out))
              have hgw : g < w.heap.size := by
                have hb := HA.out.at HXX.out
                obtain ⟨g', off', c', he, hc'⟩ := hb
                cases he
                exact World.block_lt_of_cell? w _ (hc' 0 _ rfl)
              have HSD := Lib.hid (HS.out.on (w' := wr.drew) ⟨rfl, rfl, rfl, Nat.le_refl _, fun _ _ => rfl⟩)
              have HF := Lib.hid (show totR rows < 1000000 by have := HS.out.few; omega)
              clear hk0
              go_upto_region 8 with fail
              go_region_held3 (fun w' => w'.cell? ⟨g, off + k * 5 + 1, none⟩ = some (.int .i64 x.flow) ∧ w'.cell? ⟨g, off + k * 5 + 2, none⟩ = some (.int .i64 x.wt) ∧ w'.cell? ⟨g, off + k * 5 + 3, none⟩ = some (.int .i64 x.id) ∧ w'.cell? ⟨g, off + k * 5 + 4, none⟩ = some (.int .i64 x.cost))
                (first | go_keep | exact ⟨(hbw.cell (p := ⟨g, off + k * 5 + 1, none⟩) hgw).trans ((HS.out.below.cell (p := ⟨g, off + k * 5 + 1, none⟩) hgw).symm.trans x1), (hbw.cell (p := ⟨g, off + k * 5 + 2, none⟩) hgw).trans ((HS.out.below.cell (p := ⟨g, off + k * 5 + 2, none⟩) hgw).symm.trans x2), (hbw.cell (p := ⟨g, off + k * 5 + 3, none⟩) hgw).trans ((HS.out.below.cell (p := ⟨g, off + k * 5 + 3, none⟩) hgw).symm.trans x3), (hbw.cell (p := ⟨g, off + k * 5 + 4, none⟩) hgw).trans ((HS.out.below.cell (p := ⟨g, off + k * 5 + 4, none⟩) hgw).symm.trans x4)⟩)
                (first | (go_at_call 13; refine (flowPush_any (pre := [0]) (ρ := ρ) (by decide) x.flow x.wt ⟨x.id, x.cost⟩ _ HSD.out.ring HX.out.2.1 HX.out.2.2.2.1 HF.out).mono ?_; rintro e w9 ⟨rfl, ρ9, hl9, hn9, hR9, hF9⟩; (have hs9 := HSD.out.turn (k' := k + 1) hl9 hn9 hR9 hF9 (by have := HS.out.few; have := tot_push (id := x.flow) (wt := x.wt) (x := ⟨x.id, x.cost⟩) (rows := rows); omega)); have hbw := hs9.below))
              have HS9 := Lib.hid hs9
              go_wp2_with fail
              go_meet
              case rel => exact ⟨_, _, _, HS9.out⟩
            · have hkb : (x.kind == 0) = false := beq_eq_false_iff_ne.2 hk0
              clear hk0
              go_wp2_with fail
              go_meet
              case rel => exact ⟨_, _, _, ⟨HS.out.ring, Nat.le_succ_of_le HS.out.few, HS.out.below, HS.out.news, HS.out.old⟩⟩
          case rest =>
            obtain ⟨gv1, rows1, ρ1', hs1⟩ := hcut
            have HS1' := Lib.hid hs1
            clear hs1 x0
            have x0 : wc.cell? ⟨g, off + k * 5, none⟩ = some (.int .i64 x.kind) := by
              obtain ⟨g', off', c', he, hc'⟩ := (HA.out.below HS1'.out.below).at HXX.out
              cases he
              exact hc' 0 _ rfl
            go_upto_if 69 with fail
            go_cut [] (fun wx => ∃ (gv' : Bool) (rows' : List FRow) (ρ' : Roles), RState q w (w.heap.size + 1) (k + 1) gv' rows' ρ' wx)
            case first =>
              by_cases hk1 : x.kind = 1
              · have hkb : (x.kind == 1) = true := beq_iff_eq.2 hk1
                clear hk1
                by_cases hne : rows1 = []
                · subst hne
                  go_wp2_with fail
                  refine (flowTake_nil _ HS1'.out.ring).mono ?_
                  rintro e w9 ⟨rfl, hb9⟩
                  have HS9 := Lib.hid (HS1'.out.on hb9)
                  clear hb9
                  go_wp2_with fail
                  go_meet
                  case rel => exact ⟨_, _, _, HS9.out⟩
                · have HNE := Lib.hid hne
                  clear hne
                  go_wp2_with fail
                  refine (flowTake_cons (by decide) _ HS1'.out.ring HNE.out).mono ?_
                  rintro e w9 ⟨row, rest, ρ9, rfl, hp, hl9, hn9, hR9, hF9⟩
                  have HS9 := Lib.hid (HS1'.out.turn (k' := k + 1) hl9 hn9 hR9 hF9 (by have h1 := HS1'.out.few; have h2 := picks_tot hp; have h3 := took_tot row rest; omega))
                  clear hp hl9 hn9 hR9 hF9
                  go_wp2_with fail
                  go_meet
                  case rel => exact ⟨_, _, _, HS9.out⟩
              · have hkb : (x.kind == 1) = false := beq_eq_false_iff_ne.2 hk1
                clear hk1
                go_wp2_with fail
                go_meet
                case rel => exact ⟨_, _, _, HS1'.out⟩
            case rest =>
              obtain ⟨gv2, rows2, ρ2, hs2⟩ := hcut
              have HS2 := Lib.hid hs2
              clear hs2 x0
              rcases rows2 with _ | ⟨r0, rs⟩
              · go_wp2_with fail
                refine (flowPick_nil _ HS2.out.ring).mono ?_
                rintro e w3 ⟨rfl, hb3⟩
                have HS3 := Lib.hid ((HS2.out.on hb3).on (box_below (o := .cells #[.int .i64 0, .int .i64 0] 37)))
                clear hb3
                go_wp2_with fail
                refine (flowPick_nil _ HS3.out.ring).mono ?_
                rintro e w4 ⟨rfl, hb4⟩
                have HS4 := Lib.hid ((HS3.out.on hb4).on (box_below (o := .cells #[.int .i64 0, .int .i64 0] 37)))
                have hk3 := (hb4.block w3.heap.size (by simp)).trans fr_alloc_at
                have HK3 := Lib.hid hk3
                clear hb4 hk3
                go_upto_region 13 with fail
                have a0 : (w4.alloc (.cells #[.int .i64 0, .int .i64 0] 37)).cell? ⟨w3.heap.size, 0, none⟩ = some (.int .i64 0) := fr_cell_of_heap (fr_alloc_old HK3.out) rfl
                have a1 : (w4.alloc (.cells #[.int .i64 0, .int .i64 0] 37)).cell? ⟨w3.heap.size, 1, none⟩ = some (.int .i64 0) := fr_cell_of_heap (fr_alloc_old HK3.out) rfl
                go_upto_region 15 with fail
                clear a0 a1
                go_quiet (fail)
                go_wp2_with fail
                go_roundg (l.length - (k + 1))
                case rel => exact ⟨k + 1, _, _, _, rfl, by go_num, by omega, HS4.out.on ⟨rfl, rfl, rfl, Nat.le_refl _, fun _ _ => rfl⟩⟩
                case measure => have := HG.out; omega
              · go_wp2_with fail
                refine (flowPick_cons (by decide) _ HS2.out.ring (by simp)).mono ?_
                rintro e w3 ⟨row, rest, ρ3, rfl, hp, hl3, hn3, hR3, hF3⟩
                have HP := Lib.hid hp
                have HS3 := Lib.hid ((HS2.out.turn (k' := k + 1) hl3 hn3 hR3 hF3 (by rw [picks_tot hp]; exact HS2.out.few)).fence)
                obtain ⟨x, xs, hx⟩ : ∃ x xs, row.its = x :: xs := by
                  have := HS3.out.ring.full row List.mem_cons_self
                  cases h : row.its with
                  | nil => exact absurd h this
                  | cons x xs => exact ⟨x, xs, rfl⟩
                have HX := Lib.hid hx
                have hhd : row.its.headD ⟨0, 0⟩ = x := by rw [hx]; rfl
                rw [hhd]
                unfold itV
                clear hp hl3 hn3 hR3 hF3 hx hhd
                go_upto_region 12 with fail
                obtain ⟨b1, hb1⟩ : ∃ b1 : Nat, b1 = w3.heap.size := ⟨_, rfl⟩
                obtain ⟨w4, hw4⟩ : ∃ w4 : World, w4 = w3.alloc (.cells #[.int .i64 x.id, .int .i64 x.cost] 37) := ⟨_, rfl⟩
                rw [← hw4, ← hb1]
                have HS4 := Lib.hid (show RState q w (w.heap.size + 1) (k + 1) true (row :: rest) (fence ρ3 w3) w4 by rw [hw4]; exact HS3.out.on box_below)
                have HK4 := Lib.hid (show w4.heap[b1]? = some (.cells #[.int .i64 x.id, .int .i64 x.cost] 37 (0, 0)) by rw [hw4, hb1]; exact fr_alloc_at)
                have HBR := Lib.hid (show fence ρ3 w3 b1 = [] by rw [hb1]; simp [fence])
                clear hw4 hb1
                go_wp2_with fail
                refine (flowPick_cons (by decide) _ HS4.out.ring (by simp)).mono ?_
                rintro e w5 ⟨row', rest', ρ5, rfl, hp5, hl5, hn5, hR5, hF5⟩
                have hag := picks_again HP.out hp5
                cases hag
                have hhd : row.its.headD ⟨0, 0⟩ = x := by rw [HX.out]; rfl
                have HS5 := Lib.hid ((HS4.out.turn (k' := k + 1) hl5 hn5 hR5 hF5 HS4.out.few).on (box_below (o := .cells #[.int .i64 x.id, .int .i64 x.cost] 37)))
                have hk5 := HS4.out.keep hF5 HK4.out HBR.out
                have HLE := Lib.hid (show ¬ row.df < x.cost by
                  obtain ⟨y, r, he, hle⟩ := HP.out.le
                  cases he
                  have e : headC row.its = x.cost := by unfold headC; rw [hhd]
                  rw [e] at hle
                  omega)
                rw [hhd]
                unfold itV
                clear hp5 hl5 hn5 hR5 hF5 hhd
                go_upto_region 13 with fail
                obtain ⟨w6, hw6⟩ : ∃ w6 : World, w6 = w5.alloc (.cells #[.int .i64 x.id, .int .i64 x.cost] 37) := ⟨_, rfl⟩
                obtain ⟨b2, hb2⟩ : ∃ b2 : Nat, b2 = w5.heap.size := ⟨_, rfl⟩
                rw [← hw6, ← hb2]
                have hh1 : w6.heap[b1]? = some (.cells #[.int .i64 x.id, .int .i64 x.cost] 37 (0, 0)) := by rw [hw6]; exact fr_alloc_old hk5
                have hh2 : w6.heap[b2]? = some (.cells #[.int .i64 x.id, .int .i64 x.cost] 37 (0, 0)) := by rw [hw6, hb2]; exact fr_alloc_at
                have HS6 := Lib.hid (show RState q w (w.heap.size + 1) (k + 1) true (row :: rest) ρ5 w6 by rw [hw6]; exact HS5.out)
                clear hw6 hb2 hk5
                have a0 : w6.cell? ⟨b1, 0, none⟩ = some (.int .i64 x.id) := fr_cell_of_heap hh1 rfl
                have a1 : w6.cell? ⟨b1, 1, none⟩ = some (.int .i64 x.cost) := fr_cell_of_heap hh1 rfl
                have d0 : w6.cell? ⟨b2, 0, none⟩ = some (.int .i64 x.id) := fr_cell_of_heap hh2 rfl
                have d1 : w6.cell? ⟨b2, 1, none⟩ = some (.int .i64 x.cost) := fr_cell_of_heap hh2 rfl
                clear hh1 hh2
                go_upto_region 15 with fail
                clear d0 d1
                have h0 : Below w6.heap.size w6 w6.drew := ⟨rfl, rfl, rfl, Nat.le_refl _, fun _ _ => rfl⟩
                have hdf : dfF row.id (row :: rest) = row.df := by simp [dfF, atF]
                have hz1 : (((rest.length : Int) + 1) == 0) = false := by rw [beq_eq_false_iff_ne]; omega
                have hz2 : (((xs.length : Int) + 1) == 0) = false := by rw [beq_eq_false_iff_ne]; omega
                have hl1 : decide (row.df < x.cost) = false := decide_eq_false (Int.not_lt.2 HLE.out)
                have HDF := Lib.hid hdf
                clear hdf
                refine wp_region_noPanic ?_
                refine wp_region_held_drew (S := (fun w' => w'.cell? ⟨b1, 0, none⟩ = some (.int .i64 x.id) ∧ w'.cell? ⟨b1, 1, none⟩ = some (.int .i64 x.cost))) (by kernel_rfl) ⟨a0, a1⟩ (fun hHeld => ?_)
                refine wpAnyH_take (i := 0) (oi := ⟨some 97, _, _, _, _, _⟩) (v := ?_) rfl (by kernel_rfl) (by kernel_rfl) (by kernel_rfl) (fun _ _ _ h => h) (Or.inl ⟨by rfl, ?_⟩) (by assumption) ?_
                rotate_left 1
                · intro w hSw
                  try dsimp only at hSw
                  go_simp
                  try with_reducible rfl
                try simp only [Act.put, List.setIfInBounds_toArray, List.set_cons_zero, List.set_cons_succ]
                refine wpAnyH_take (i := 1) (oi := ⟨some 98, _, _, _, _, _⟩) (v := ?_) rfl (by kernel_rfl) (by kernel_rfl) (by kernel_rfl) (fun _ _ _ h => h) (Or.inl ⟨by rfl, ?_⟩) (by assumption) ?_
                rotate_left 1
                · intro w hSw
                  try dsimp only at hSw
                  go_simp
                  try with_reducible rfl
                try simp only [Act.put, List.setIfInBounds_toArray, List.set_cons_zero, List.set_cons_succ]
                refine wpAnyH_take (i := 2) (oi := ⟨some 99, _, _, _, _, _⟩) (v := ?_) rfl (by kernel_rfl) (by kernel_rfl) (by kernel_rfl) (fun _ _ _ h => h) (Or.inl ⟨by rfl, ?_⟩) (by assumption) ?_
                rotate_left 1
                · intro w hSw
                  try dsimp only at hSw
                  go_simp
                  try with_reducible rfl
                try simp only [Act.put, List.setIfInBounds_toArray, List.set_cons_zero, List.set_cons_succ]
                refine wpAnyH_ready (rs := [3]) (by kernel_rfl) (by simp) ?_
                refine AllReadyH.cons (o := ⟨some 100, _, _, _, _, _⟩) rfl (fun K hK => ?_) AllReadyH.nil
                go_simp
                first | (refine (flowRows_any _ (HS6.out.ring.below (by assumption))).mono ?_; rintro e w9 ⟨v9, l9, rfl, h9, hm9, hb9⟩; obtain ⟨g9, c9, gi9, ci9, hv9, r0', r3, i0, i1⟩ := rows_head h9 hm9 HX.out; subst hv9; (have hw9 := below_chain (w := w6) (by assumption) hb9); (have k0 := cell_below (a := ⟨b1, 0, none⟩) (v := .int .i64 x.id) hb9 hHeld.1); (have k1 := cell_below (a := ⟨b1, 1, none⟩) (v := .int .i64 x.cost) hb9 hHeld.2); clear h9 hm9) | (refine (flowDeficit_any row.id _ (HS6.out.ring.below (by assumption))).mono ?_; rintro e w9 ⟨rfl, hb9⟩; rw [HDF.out]; (have hw9 := below_chain (w := w6) (by assumption) hb9); (have k0 := cell_below (a := ⟨b1, 0, none⟩) (v := .int .i64 x.id) hb9 hHeld.1); (have k1 := cell_below (a := ⟨b1, 1, none⟩) (v := .int .i64 x.cost) hb9 hHeld.2)) | (refine (flowGiven_any _ (HS6.out.ring.below (by assumption))).mono ?_; rintro e w9 ⟨rfl, hb9⟩; (have hw9 := below_chain (w := w6) (by assumption) hb9); (have k0 := cell_below (a := ⟨b1, 0, none⟩) (v := .int .i64 x.id) hb9 hHeld.1); (have k1 := cell_below (a := ⟨b1, 1, none⟩) (v := .int .i64 x.cost) hb9 hHeld.2))
                refine hK.out _ _ (by first | assumption | exact ⟨k0, k1⟩) (fun hHeld => ?_)
                clear hK K
                try simp only [Act.put, List.setIfInBounds_toArray, List.set_cons_zero, List.set_cons_succ]
                refine wpAnyH_take (i := 4) (oi := ⟨some 101, _, _, _, _, _⟩) (v := ?_) rfl (by kernel_rfl) (by kernel_rfl) (by kernel_rfl) (fun _ _ _ h => h) (Or.inl ⟨by rfl, ?_⟩) (by assumption) ?_
                rotate_left 1
                · intro w hSw
                  try dsimp only at hSw
                  go_simp
                  try with_reducible rfl
                try simp only [Act.put, List.setIfInBounds_toArray, List.set_cons_zero, List.set_cons_succ]
                refine wpAnyH_take (i := 5) (oi := ⟨some 102, _, _, _, _, _⟩) (v := ?_) rfl (by kernel_rfl) (by kernel_rfl) (by kernel_rfl) (fun _ _ _ h => h) (Or.inl ⟨by rfl, ?_⟩) (by assumption) ?_
                rotate_left 1
                · intro w hSw
                  try dsimp only at hSw
                  go_simp
                  try with_reducible rfl
                try simp only [Act.put, List.setIfInBounds_toArray, List.set_cons_zero, List.set_cons_succ]
                refine wpAnyH_take (i := 6) (oi := ⟨some 103, _, _, _, _, _⟩) (v := ?_) rfl (by kernel_rfl) (by kernel_rfl) (by kernel_rfl) (fun _ _ _ h => h) (Or.inl ⟨by rfl, ?_⟩) (by assumption) ?_
                rotate_left 1
                · intro w hSw
                  try dsimp only at hSw
                  go_simp
                  try with_reducible rfl
                try simp only [Act.put, List.setIfInBounds_toArray, List.set_cons_zero, List.set_cons_succ]
                refine wpAnyH_take (i := 7) (oi := ⟨some 104, _, _, _, _, _⟩) (v := ?_) rfl (by kernel_rfl) (by kernel_rfl) (by kernel_rfl) (fun _ _ _ h => h) (Or.inl ⟨by rfl, ?_⟩) (by assumption) ?_
                rotate_left 1
                · intro w hSw
                  try dsimp only at hSw
                  go_simp
                  try with_reducible rfl
                try simp only [Act.put, List.setIfInBounds_toArray, List.set_cons_zero, List.set_cons_succ]
                refine wpAnyH_take (i := 12) (oi := ⟨some 109, _, _, _, _, _⟩) (v := ?_) rfl (by kernel_rfl) (by kernel_rfl) (by kernel_rfl) (fun _ _ _ h => h) (Or.inl ⟨by rfl, ?_⟩) (by assumption) ?_
                rotate_left 1
                · intro w hSw
                  try dsimp only at hSw
                  go_simp
                  try with_reducible rfl
                try simp only [Act.put, List.setIfInBounds_toArray, List.set_cons_zero, List.set_cons_succ]
                refine wpAnyH_ready (rs := [8]) (by kernel_rfl) (by simp) ?_
                refine AllReadyH.cons (o := ⟨some 105, _, _, _, _, _⟩) rfl (fun K hK => ?_) AllReadyH.nil
                go_simp
                first | (refine (flowRows_any _ (HS6.out.ring.below (by assumption))).mono ?_; rintro e w9 ⟨v9, l9, rfl, h9, hm9, hb9⟩; obtain ⟨g9, c9, gi9, ci9, hv9, r0', r3, i0, i1⟩ := rows_head h9 hm9 HX.out; subst hv9; (have hw9 := below_chain (w := w6) (by assumption) hb9); (have k0 := cell_below (a := ⟨b1, 0, none⟩) (v := .int .i64 x.id) hb9 hHeld.1); (have k1 := cell_below (a := ⟨b1, 1, none⟩) (v := .int .i64 x.cost) hb9 hHeld.2); clear h9 hm9) | (refine (flowDeficit_any row.id _ (HS6.out.ring.below (by assumption))).mono ?_; rintro e w9 ⟨rfl, hb9⟩; rw [HDF.out]; (have hw9 := below_chain (w := w6) (by assumption) hb9); (have k0 := cell_below (a := ⟨b1, 0, none⟩) (v := .int .i64 x.id) hb9 hHeld.1); (have k1 := cell_below (a := ⟨b1, 1, none⟩) (v := .int .i64 x.cost) hb9 hHeld.2)) | (refine (flowGiven_any _ (HS6.out.ring.below (by assumption))).mono ?_; rintro e w9 ⟨rfl, hb9⟩; (have hw9 := below_chain (w := w6) (by assumption) hb9); (have k0 := cell_below (a := ⟨b1, 0, none⟩) (v := .int .i64 x.id) hb9 hHeld.1); (have k1 := cell_below (a := ⟨b1, 1, none⟩) (v := .int .i64 x.cost) hb9 hHeld.2))
                refine hK.out _ _ (by first | assumption | exact ⟨k0, k1⟩) (fun hHeld => ?_)
                clear hK K
                try simp only [Act.put, List.setIfInBounds_toArray, List.set_cons_zero, List.set_cons_succ]
                refine wpAnyH_take (i := 9) (oi := ⟨some 106, _, _, _, _, _⟩) (v := ?_) rfl (by kernel_rfl) (by kernel_rfl) (by kernel_rfl) (fun _ _ _ h => h) (Or.inl ⟨by rfl, ?_⟩) (by assumption) ?_
                rotate_left 1
                · intro w hSw
                  try dsimp only at hSw
                  go_simp
                  try with_reducible rfl
                try simp only [Act.put, List.setIfInBounds_toArray, List.set_cons_zero, List.set_cons_succ]
                refine wpAnyH_take (i := 10) (oi := ⟨some 107, _, _, _, _, _⟩) (v := ?_) rfl (by kernel_rfl) (by kernel_rfl) (by kernel_rfl) (fun _ _ _ h => h) (Or.inl ⟨by rfl, ?_⟩) (by assumption) ?_
                rotate_left 1
                · intro w hSw
                  try dsimp only at hSw
                  go_simp
                  try with_reducible rfl
                try simp only [Act.put, List.setIfInBounds_toArray, List.set_cons_zero, List.set_cons_succ]
                refine wpAnyH_ready (rs := [11]) (by kernel_rfl) (by simp) ?_
                refine AllReadyH.cons (o := ⟨some 108, _, _, _, _, _⟩) rfl (fun K hK => ?_) AllReadyH.nil
                go_simp
                refine hK.out _ _ (by first | assumption | exact ⟨k0, k1⟩) (fun hHeld => ?_)
                clear hK K
                try simp only [Act.put, List.setIfInBounds_toArray, List.set_cons_zero, List.set_cons_succ]
                refine wpAnyH_take (i := 13) (oi := ⟨some 110, _, _, _, _, _⟩) (v := ?_) rfl (by kernel_rfl) (by kernel_rfl) (by kernel_rfl) (fun _ _ _ h => h) (Or.inl ⟨by rfl, ?_⟩) (by assumption) ?_
                rotate_left 1
                · intro w hSw
                  try dsimp only at hSw
                  go_simp
                  try with_reducible rfl
                try simp only [Act.put, List.setIfInBounds_toArray, List.set_cons_zero, List.set_cons_succ]
                refine wpAnyH_take (i := 14) (oi := ⟨some 111, _, _, _, _, _⟩) (v := ?_) rfl (by kernel_rfl) (by kernel_rfl) (by kernel_rfl) (fun _ _ _ h => h) (Or.inl ⟨by rfl, ?_⟩) (by assumption) ?_
                rotate_left 1
                · intro w hSw
                  try dsimp only at hSw
                  go_simp
                  try with_reducible rfl
                try simp only [Act.put, List.setIfInBounds_toArray, List.set_cons_zero, List.set_cons_succ]
                refine wpAnyH_take (i := 15) (oi := ⟨some 112, _, _, _, _, _⟩) (v := ?_) rfl (by kernel_rfl) (by kernel_rfl) (by kernel_rfl) (fun _ _ _ h => h) (Or.inl ⟨by rfl, ?_⟩) (by assumption) ?_
                rotate_left 1
                · intro w hSw
                  try dsimp only at hSw
                  go_simp
                  try with_reducible rfl
                try simp only [Act.put, List.setIfInBounds_toArray, List.set_cons_zero, List.set_cons_succ]
                refine wpAnyH_take (i := 16) (oi := ⟨some 113, _, _, _, _, _⟩) (v := ?_) rfl (by kernel_rfl) (by kernel_rfl) (by kernel_rfl) (fun _ _ _ h => h) (Or.inl ⟨by rfl, ?_⟩) (by assumption) ?_
                rotate_left 1
                · intro w hSw
                  try dsimp only at hSw
                  go_simp
                  try with_reducible rfl
                try simp only [Act.put, List.setIfInBounds_toArray, List.set_cons_zero, List.set_cons_succ]
                refine wpAnyH_ready (rs := [17]) (by kernel_rfl) (by simp) ?_
                refine AllReadyH.cons (o := ⟨some 114, _, _, _, _, _⟩) rfl (fun K hK => ?_) AllReadyH.nil
                go_simp
                first | (refine (flowRows_any _ (HS6.out.ring.below (by assumption))).mono ?_; rintro e w9 ⟨v9, l9, rfl, h9, hm9, hb9⟩; obtain ⟨g9, c9, gi9, ci9, hv9, r0', r3, i0, i1⟩ := rows_head h9 hm9 HX.out; subst hv9; (have hw9 := below_chain (w := w6) (by assumption) hb9); (have k0 := cell_below (a := ⟨b1, 0, none⟩) (v := .int .i64 x.id) hb9 hHeld.1); (have k1 := cell_below (a := ⟨b1, 1, none⟩) (v := .int .i64 x.cost) hb9 hHeld.2); clear h9 hm9) | (refine (flowDeficit_any row.id _ (HS6.out.ring.below (by assumption))).mono ?_; rintro e w9 ⟨rfl, hb9⟩; rw [HDF.out]; (have hw9 := below_chain (w := w6) (by assumption) hb9); (have k0 := cell_below (a := ⟨b1, 0, none⟩) (v := .int .i64 x.id) hb9 hHeld.1); (have k1 := cell_below (a := ⟨b1, 1, none⟩) (v := .int .i64 x.cost) hb9 hHeld.2)) | (refine (flowGiven_any _ (HS6.out.ring.below (by assumption))).mono ?_; rintro e w9 ⟨rfl, hb9⟩; (have hw9 := below_chain (w := w6) (by assumption) hb9); (have k0 := cell_below (a := ⟨b1, 0, none⟩) (v := .int .i64 x.id) hb9 hHeld.1); (have k1 := cell_below (a := ⟨b1, 1, none⟩) (v := .int .i64 x.cost) hb9 hHeld.2))
                refine hK.out _ _ (by first | assumption | exact ⟨k0, k1⟩) (fun hHeld => ?_)
                clear hK K
                try simp only [Act.put, List.setIfInBounds_toArray, List.set_cons_zero, List.set_cons_succ]
                refine wpAnyH_take (i := 18) (oi := ⟨some 115, _, _, _, _, _⟩) (v := ?_) rfl (by kernel_rfl) (by kernel_rfl) (by kernel_rfl) (fun _ _ _ h => h) (Or.inl ⟨by rfl, ?_⟩) (by assumption) ?_
                rotate_left 1
                · intro w hSw
                  try dsimp only at hSw
                  go_simp
                  try with_reducible rfl
                try simp only [Act.put, List.setIfInBounds_toArray, List.set_cons_zero, List.set_cons_succ]
                refine wpAnyH_take (i := 19) (oi := ⟨some 116, _, _, _, _, _⟩) (v := ?_) rfl (by kernel_rfl) (by kernel_rfl) (by kernel_rfl) (fun _ _ _ h => h) (Or.inl ⟨by rfl, ?_⟩) (by assumption) ?_
                rotate_left 1
                · intro w hSw
                  try dsimp only at hSw
                  go_simp
                  try with_reducible rfl
                try simp only [Act.put, List.setIfInBounds_toArray, List.set_cons_zero, List.set_cons_succ]
                refine wpAnyH_ready (rs := [20]) (by kernel_rfl) (by simp) ?_
                refine AllReadyH.cons (o := ⟨some 117, _, _, _, _, _⟩) rfl (fun K hK => ?_) AllReadyH.nil
                go_simp
                refine hK.out _ _ (by first | assumption | exact ⟨k0, k1⟩) (fun hHeld => ?_)
                clear hK K
                try simp only [Act.put, List.setIfInBounds_toArray, List.set_cons_zero, List.set_cons_succ]
                refine wpAnyH_take (i := 21) (oi := ⟨some 118, _, _, _, _, _⟩) (v := ?_) rfl (by kernel_rfl) (by kernel_rfl) (by kernel_rfl) (fun _ _ _ h => h) (Or.inl ⟨by rfl, ?_⟩) (by assumption) ?_
                rotate_left 1
                · intro w hSw
                  try dsimp only at hSw
                  go_simp
                  try with_reducible rfl
                try simp only [Act.put, List.setIfInBounds_toArray, List.set_cons_zero, List.set_cons_succ]
                refine wpAnyH_take (i := 22) (oi := ⟨some 119, _, _, _, _, _⟩) (v := ?_) rfl (by kernel_rfl) (by kernel_rfl) (by kernel_rfl) (fun _ _ _ h => h) (Or.inl ⟨by rfl, ?_⟩) (by assumption) ?_
                rotate_left 1
                · intro w hSw
                  try dsimp only at hSw
                  go_simp
                  try with_reducible rfl
                try simp only [Act.put, List.setIfInBounds_toArray, List.set_cons_zero, List.set_cons_succ]
                refine wpAnyH_take (i := 23) (oi := ⟨some 120, _, _, _, _, _⟩) (v := ?_) rfl (by kernel_rfl) (by kernel_rfl) (by kernel_rfl) (fun _ _ _ h => h) (Or.inl ⟨by rfl, ?_⟩) (by assumption) ?_
                rotate_left 1
                · intro w hSw
                  try dsimp only at hSw
                  go_simp
                  try with_reducible rfl
                try simp only [Act.put, List.setIfInBounds_toArray, List.set_cons_zero, List.set_cons_succ]
                refine wpAnyH_take (i := 24) (oi := ⟨some 121, _, _, _, _, _⟩) (v := ?_) rfl (by kernel_rfl) (by kernel_rfl) (by kernel_rfl) (fun _ _ _ h => h) (Or.inl ⟨by rfl, ?_⟩) (by assumption) ?_
                rotate_left 1
                · intro w hSw
                  try dsimp only at hSw
                  go_simp
                  try with_reducible rfl
                try simp only [Act.put, List.setIfInBounds_toArray, List.set_cons_zero, List.set_cons_succ]
                refine wpAnyH_take (i := 25) (oi := ⟨some 122, _, _, _, _, _⟩) (v := ?_) rfl (by kernel_rfl) (by kernel_rfl) (by kernel_rfl) (fun _ _ _ h => h) (Or.inl ⟨by rfl, ?_⟩) (by assumption) ?_
                rotate_left 1
                · intro w hSw
                  try dsimp only at hSw
                  go_simp
                  try with_reducible rfl
                try simp only [Act.put, List.setIfInBounds_toArray, List.set_cons_zero, List.set_cons_succ]
                refine wpAnyH_take (i := 32) (oi := ⟨some 129, _, _, _, _, _⟩) (v := ?_) rfl (by kernel_rfl) (by kernel_rfl) (by kernel_rfl) (fun _ _ _ h => h) (Or.inl ⟨by rfl, ?_⟩) (by assumption) ?_
                rotate_left 1
                · intro w hSw
                  try dsimp only at hSw
                  go_simp
                  try with_reducible rfl
                try simp only [Act.put, List.setIfInBounds_toArray, List.set_cons_zero, List.set_cons_succ]
                refine wpAnyH_ready (rs := [26]) (by kernel_rfl) (by simp) ?_
                refine AllReadyH.cons (o := ⟨some 123, _, _, _, _, _⟩) rfl (fun K hK => ?_) AllReadyH.nil
                go_simp
                first | (refine (flowRows_any _ (HS6.out.ring.below (by assumption))).mono ?_; rintro e w9 ⟨v9, l9, rfl, h9, hm9, hb9⟩; obtain ⟨g9, c9, gi9, ci9, hv9, r0', r3, i0, i1⟩ := rows_head h9 hm9 HX.out; subst hv9; (have hw9 := below_chain (w := w6) (by assumption) hb9); (have k0 := cell_below (a := ⟨b1, 0, none⟩) (v := .int .i64 x.id) hb9 hHeld.1); (have k1 := cell_below (a := ⟨b1, 1, none⟩) (v := .int .i64 x.cost) hb9 hHeld.2); clear h9 hm9) | (refine (flowDeficit_any row.id _ (HS6.out.ring.below (by assumption))).mono ?_; rintro e w9 ⟨rfl, hb9⟩; rw [HDF.out]; (have hw9 := below_chain (w := w6) (by assumption) hb9); (have k0 := cell_below (a := ⟨b1, 0, none⟩) (v := .int .i64 x.id) hb9 hHeld.1); (have k1 := cell_below (a := ⟨b1, 1, none⟩) (v := .int .i64 x.cost) hb9 hHeld.2)) | (refine (flowGiven_any _ (HS6.out.ring.below (by assumption))).mono ?_; rintro e w9 ⟨rfl, hb9⟩; (have hw9 := below_chain (w := w6) (by assumption) hb9); (have k0 := cell_below (a := ⟨b1, 0, none⟩) (v := .int .i64 x.id) hb9 hHeld.1); (have k1 := cell_below (a := ⟨b1, 1, none⟩) (v := .int .i64 x.cost) hb9 hHeld.2))
                refine hK.out _ _ (by first | assumption | exact ⟨k0, k1⟩) (fun hHeld => ?_)
                clear hK K
                try simp only [Act.put, List.setIfInBounds_toArray, List.set_cons_zero, List.set_cons_succ]
                refine wpAnyH_take (i := 27) (oi := ⟨some 124, _, _, _, _, _⟩) (v := ?_) rfl (by kernel_rfl) (by kernel_rfl) (by kernel_rfl) (fun _ _ _ h => h) (Or.inl ⟨by rfl, ?_⟩) (by assumption) ?_
                rotate_left 1
                · intro w hSw
                  try dsimp only at hSw
                  go_simp
                  try with_reducible rfl
                try simp only [Act.put, List.setIfInBounds_toArray, List.set_cons_zero, List.set_cons_succ]
                refine wpAnyH_take (i := 28) (oi := ⟨some 125, _, _, _, _, _⟩) (v := ?_) rfl (by kernel_rfl) (by kernel_rfl) (by kernel_rfl) (fun _ _ _ h => h) (Or.inl ⟨by rfl, ?_⟩) (by assumption) ?_
                rotate_left 1
                · intro w hSw
                  try dsimp only at hSw
                  go_simp
                  try with_reducible rfl
                try simp only [Act.put, List.setIfInBounds_toArray, List.set_cons_zero, List.set_cons_succ]
                refine wpAnyH_ready (rs := [29]) (by kernel_rfl) (by simp) ?_
                refine AllReadyH.cons (o := ⟨some 126, _, _, _, _, _⟩) rfl (fun K hK => ?_) AllReadyH.nil
                go_simp
                refine hK.out _ _ (by first | assumption | exact ⟨k0, k1⟩) (fun hHeld => ?_)
                clear hK K
                try simp only [Act.put, List.setIfInBounds_toArray, List.set_cons_zero, List.set_cons_succ]
                refine wpAnyH_take (i := 30) (oi := ⟨some 127, _, _, _, _, _⟩) (v := ?_) rfl (by kernel_rfl) (by kernel_rfl) (by kernel_rfl) (fun _ _ _ h => h) (Or.inl ⟨by rfl, ?_⟩) (by assumption) ?_
                rotate_left 1
                · intro w hSw
                  try dsimp only at hSw
                  go_simp
                  try with_reducible rfl
                try simp only [Act.put, List.setIfInBounds_toArray, List.set_cons_zero, List.set_cons_succ]
                refine wpAnyH_ready (rs := [31]) (by kernel_rfl) (by simp) ?_
                refine AllReadyH.cons (o := ⟨some 128, _, _, _, _, _⟩) rfl (fun K hK => ?_) AllReadyH.nil
                go_simp
                refine hK.out _ _ (by first | assumption | exact ⟨k0, k1⟩) (fun hHeld => ?_)
                clear hK K
                try simp only [Act.put, List.setIfInBounds_toArray, List.set_cons_zero, List.set_cons_succ]
                refine wpAnyH_take (i := 33) (oi := ⟨some 130, _, _, _, _, _⟩) (v := ?_) rfl (by kernel_rfl) (by kernel_rfl) (by kernel_rfl) (fun _ _ _ h => h) (Or.inl ⟨by rfl, ?_⟩) (by assumption) ?_
                rotate_left 1
                · intro w hSw
                  try dsimp only at hSw
                  go_simp
                  try with_reducible rfl
                try simp only [Act.put, List.setIfInBounds_toArray, List.set_cons_zero, List.set_cons_succ]
                refine wpAnyH_take (i := 34) (oi := ⟨some 131, _, _, _, _, _⟩) (v := ?_) rfl (by kernel_rfl) (by kernel_rfl) (by kernel_rfl) (fun _ _ _ h => h) (Or.inl ⟨by rfl, ?_⟩) (by assumption) ?_
                rotate_left 1
                · intro w hSw
                  try dsimp only at hSw
                  go_simp
                  try with_reducible rfl
                try simp only [Act.put, List.setIfInBounds_toArray, List.set_cons_zero, List.set_cons_succ]
                refine wpAnyH_take (i := 35) (oi := ⟨some 132, _, _, _, _, _⟩) (v := ?_) rfl (by kernel_rfl) (by kernel_rfl) (by kernel_rfl) (fun _ _ _ h => h) (Or.inl ⟨by rfl, ?_⟩) (by assumption) ?_
                rotate_left 1
                · intro w hSw
                  try dsimp only at hSw
                  go_simp
                  try with_reducible rfl
                try simp only [Act.put, List.setIfInBounds_toArray, List.set_cons_zero, List.set_cons_succ]
                refine wpAnyH_take (i := 36) (oi := ⟨some 133, _, _, _, _, _⟩) (v := ?_) rfl (by kernel_rfl) (by kernel_rfl) (by kernel_rfl) (fun _ _ _ h => h) (Or.inl ⟨by rfl, ?_⟩) (by assumption) ?_
                rotate_left 1
                · intro w hSw
                  try dsimp only at hSw
                  go_simp
                  try with_reducible rfl
                try simp only [Act.put, List.setIfInBounds_toArray, List.set_cons_zero, List.set_cons_succ]
                refine wpAnyH_take (i := 37) (oi := ⟨some 134, _, _, _, _, _⟩) (v := ?_) rfl (by kernel_rfl) (by kernel_rfl) (by kernel_rfl) (fun _ _ _ h => h) (Or.inl ⟨by rfl, ?_⟩) (by assumption) ?_
                rotate_left 1
                · intro w hSw
                  try dsimp only at hSw
                  go_simp
                  try with_reducible rfl
                try simp only [Act.put, List.setIfInBounds_toArray, List.set_cons_zero, List.set_cons_succ]
                refine wpAnyH_take (i := 39) (oi := ⟨some 136, _, _, _, _, _⟩) (v := ?_) rfl (by kernel_rfl) (by kernel_rfl) (by kernel_rfl) (fun _ _ _ h => h) (Or.inl ⟨by rfl, ?_⟩) (by assumption) ?_
                rotate_left 1
                · intro w hSw
                  try dsimp only at hSw
                  go_simp
                  try with_reducible rfl
                try simp only [Act.put, List.setIfInBounds_toArray, List.set_cons_zero, List.set_cons_succ]
                refine wpAnyH_take (i := 40) (oi := ⟨some 137, _, _, _, _, _⟩) (v := ?_) rfl (by kernel_rfl) (by kernel_rfl) (by kernel_rfl) (fun _ _ _ h => h) (Or.inl ⟨by rfl, ?_⟩) (by assumption) ?_
                rotate_left 1
                · intro w hSw
                  try dsimp only at hSw
                  go_simp
                  try with_reducible rfl
                try simp only [Act.put, List.setIfInBounds_toArray, List.set_cons_zero, List.set_cons_succ]
                refine wpAnyH_ready (rs := [38]) (by kernel_rfl) (by simp) ?_
                refine AllReadyH.cons (o := ⟨some 135, _, _, _, _, _⟩) rfl (fun K hK => ?_) AllReadyH.nil
                go_simp
                first | (refine (flowRows_any _ (HS6.out.ring.below (by assumption))).mono ?_; rintro e w9 ⟨v9, l9, rfl, h9, hm9, hb9⟩; obtain ⟨g9, c9, gi9, ci9, hv9, r0', r3, i0, i1⟩ := rows_head h9 hm9 HX.out; subst hv9; (have hw9 := below_chain (w := w6) (by assumption) hb9); (have k0 := cell_below (a := ⟨b1, 0, none⟩) (v := .int .i64 x.id) hb9 hHeld.1); (have k1 := cell_below (a := ⟨b1, 1, none⟩) (v := .int .i64 x.cost) hb9 hHeld.2); clear h9 hm9) | (refine (flowDeficit_any row.id _ (HS6.out.ring.below (by assumption))).mono ?_; rintro e w9 ⟨rfl, hb9⟩; rw [HDF.out]; (have hw9 := below_chain (w := w6) (by assumption) hb9); (have k0 := cell_below (a := ⟨b1, 0, none⟩) (v := .int .i64 x.id) hb9 hHeld.1); (have k1 := cell_below (a := ⟨b1, 1, none⟩) (v := .int .i64 x.cost) hb9 hHeld.2)) | (refine (flowGiven_any _ (HS6.out.ring.below (by assumption))).mono ?_; rintro e w9 ⟨rfl, hb9⟩; (have hw9 := below_chain (w := w6) (by assumption) hb9); (have k0 := cell_below (a := ⟨b1, 0, none⟩) (v := .int .i64 x.id) hb9 hHeld.1); (have k1 := cell_below (a := ⟨b1, 1, none⟩) (v := .int .i64 x.cost) hb9 hHeld.2))
                refine hK.out _ _ (by first | assumption | exact ⟨k0, k1⟩) (fun hHeld => ?_)
                clear hK K
                try simp only [Act.put, List.setIfInBounds_toArray, List.set_cons_zero, List.set_cons_succ]
                refine wpAnyH_take (i := 41) (oi := ⟨some 138, _, _, _, _, _⟩) (v := ?_) rfl (by kernel_rfl) (by kernel_rfl) (by kernel_rfl) (fun _ _ _ h => h) (Or.inl ⟨by rfl, ?_⟩) (by assumption) ?_
                rotate_left 1
                · intro w hSw
                  try dsimp only at hSw
                  go_simp
                  try with_reducible rfl
                try simp only [Act.put, List.setIfInBounds_toArray, List.set_cons_zero, List.set_cons_succ]
                refine wpAnyH_take (i := 42) (oi := ⟨some 139, _, _, _, _, _⟩) (v := ?_) rfl (by kernel_rfl) (by kernel_rfl) (by kernel_rfl) (fun _ _ _ h => h) (Or.inl ⟨by rfl, ?_⟩) (by assumption) ?_
                rotate_left 1
                · intro w hSw
                  try dsimp only at hSw
                  go_simp
                  try with_reducible rfl
                try simp only [Act.put, List.setIfInBounds_toArray, List.set_cons_zero, List.set_cons_succ]
                refine wpAnyH_take (i := 43) (oi := ⟨some 140, _, _, _, _, _⟩) (v := ?_) rfl (by kernel_rfl) (by kernel_rfl) (by kernel_rfl) (fun _ _ _ h => h) (Or.inl ⟨by rfl, ?_⟩) (by assumption) ?_
                rotate_left 1
                · intro w hSw
                  try dsimp only at hSw
                  go_simp
                  try with_reducible rfl
                try simp only [Act.put, List.setIfInBounds_toArray, List.set_cons_zero, List.set_cons_succ]
                refine wpAnyH_take (i := 44) (oi := ⟨some 141, _, _, _, _, _⟩) (v := ?_) rfl (by kernel_rfl) (by kernel_rfl) (by kernel_rfl) (fun _ _ _ h => h) (Or.inl ⟨by rfl, ?_⟩) (by assumption) ?_
                rotate_left 1
                · intro w hSw
                  try dsimp only at hSw
                  go_simp
                  try with_reducible rfl
                try simp only [Act.put, List.setIfInBounds_toArray, List.set_cons_zero, List.set_cons_succ]
                refine wpAnyH_ready (rs := [45]) (by kernel_rfl) (by simp) ?_
                refine AllReadyH.cons (o := ⟨some 142, _, _, _, _, _⟩) rfl (fun K hK => ?_) AllReadyH.nil
                go_simp
                first | (refine (flowRows_any _ (HS6.out.ring.below (by assumption))).mono ?_; rintro e w9 ⟨v9, l9, rfl, h9, hm9, hb9⟩; obtain ⟨g9, c9, gi9, ci9, hv9, r0', r3, i0, i1⟩ := rows_head h9 hm9 HX.out; subst hv9; (have hw9 := below_chain (w := w6) (by assumption) hb9); (have k0 := cell_below (a := ⟨b1, 0, none⟩) (v := .int .i64 x.id) hb9 hHeld.1); (have k1 := cell_below (a := ⟨b1, 1, none⟩) (v := .int .i64 x.cost) hb9 hHeld.2); clear h9 hm9) | (refine (flowDeficit_any row.id _ (HS6.out.ring.below (by assumption))).mono ?_; rintro e w9 ⟨rfl, hb9⟩; rw [HDF.out]; (have hw9 := below_chain (w := w6) (by assumption) hb9); (have k0 := cell_below (a := ⟨b1, 0, none⟩) (v := .int .i64 x.id) hb9 hHeld.1); (have k1 := cell_below (a := ⟨b1, 1, none⟩) (v := .int .i64 x.cost) hb9 hHeld.2)) | (refine (flowGiven_any _ (HS6.out.ring.below (by assumption))).mono ?_; rintro e w9 ⟨rfl, hb9⟩; (have hw9 := below_chain (w := w6) (by assumption) hb9); (have k0 := cell_below (a := ⟨b1, 0, none⟩) (v := .int .i64 x.id) hb9 hHeld.1); (have k1 := cell_below (a := ⟨b1, 1, none⟩) (v := .int .i64 x.cost) hb9 hHeld.2))
                refine hK.out _ _ (by first | assumption | exact ⟨k0, k1⟩) (fun hHeld => ?_)
                clear hK K
                try simp only [Act.put, List.setIfInBounds_toArray, List.set_cons_zero, List.set_cons_succ]
                refine wpAnyH_take (i := 46) (oi := ⟨some 143, _, _, _, _, _⟩) (v := ?_) rfl (by kernel_rfl) (by kernel_rfl) (by kernel_rfl) (fun _ _ _ h => h) (Or.inl ⟨by rfl, ?_⟩) (by assumption) ?_
                rotate_left 1
                · intro w hSw
                  try dsimp only at hSw
                  go_simp
                  try with_reducible rfl
                try simp only [Act.put, List.setIfInBounds_toArray, List.set_cons_zero, List.set_cons_succ]
                refine wpAnyH_take (i := 47) (oi := ⟨some 144, _, _, _, _, _⟩) (v := ?_) rfl (by kernel_rfl) (by kernel_rfl) (by kernel_rfl) (fun _ _ _ h => h) (Or.inl ⟨by rfl, ?_⟩) (by assumption) ?_
                rotate_left 1
                · intro w hSw
                  try dsimp only at hSw
                  go_simp
                  try with_reducible rfl
                try simp only [Act.put, List.setIfInBounds_toArray, List.set_cons_zero, List.set_cons_succ]
                refine wpAnyH_take (i := 48) (oi := ⟨some 145, _, _, _, _, _⟩) (v := ?_) rfl (by kernel_rfl) (by kernel_rfl) (by kernel_rfl) (fun _ _ _ h => h) (Or.inl ⟨by rfl, ?_⟩) (by assumption) ?_
                rotate_left 1
                · intro w hSw
                  try dsimp only at hSw
                  go_simp
                  try with_reducible rfl
                try simp only [Act.put, List.setIfInBounds_toArray, List.set_cons_zero, List.set_cons_succ]
                refine wpAnyH_done (by kernel_rfl) ?_ _
                refine NoPanic.normal ?_
                go_wp2_with fail
                go_roundg (l.length - (k + 1))
                case rel => exact ⟨k + 1, _, _, _, rfl, by go_num, by omega, HS6.out.on hw9⟩
                case measure => have := HG.out; omega
        · rcases rows with _ | ⟨r0, rs⟩
          · go_wp2_with fail
            refine (flowPick_nil _ HS.out.ring).mono ?_
            rintro e w3 ⟨rfl, hb3⟩
            have HS3 := Lib.hid ((HS.out.on hb3).on (box_below (o := .cells #[.int .i64 0, .int .i64 0] 37)))
            clear hb3
            go_wp2_with fail
            refine (flowTake_nil _ HS3.out.ring).mono ?_
            rintro e w4 ⟨rfl, hb4⟩
            have HS4 := Lib.hid ((HS3.out.on hb4).on (box_below (o := .cells #[.int .i64 0, .int .i64 0] 37)))
            have hk3 := (hb4.block w3.heap.size (by simp)).trans fr_alloc_at
            have HK3 := Lib.hid hk3
            clear hb4 hk3
            go_upto_region 19 with fail
            obtain ⟨w6, hw6⟩ : ∃ w6 : World, w6 = w4.alloc (.cells #[.int .i64 0, .int .i64 0] 37) := ⟨_, rfl⟩
            obtain ⟨b2, hb2⟩ : ∃ b2 : Nat, b2 = w4.heap.size := ⟨_, rfl⟩
            rw [← hw6, ← hb2]
            have hh1 : w6.heap[w3.heap.size]? = some (.cells #[.int .i64 0, .int .i64 0] 37 (0, 0)) := by rw [hw6]; exact fr_alloc_old HK3.out
            have hh2 : w6.heap[b2]? = some (.cells #[.int .i64 0, .int .i64 0] 37 (0, 0)) := by rw [hw6, hb2]; exact fr_alloc_at
            have HS6 := Lib.hid (show Below w.heap.size w w6 by rw [hw6]; exact HS4.out.below)
            clear hw6 hb2
            have a0 : w6.cell? ⟨w3.heap.size, 0, none⟩ = some (.int .i64 0) := fr_cell_of_heap hh1 rfl
            have a1 : w6.cell? ⟨w3.heap.size, 1, none⟩ = some (.int .i64 0) := fr_cell_of_heap hh1 rfl
            have d0 : w6.cell? ⟨b2, 0, none⟩ = some (.int .i64 0) := fr_cell_of_heap hh2 rfl
            have d1 : w6.cell? ⟨b2, 1, none⟩ = some (.int .i64 0) := fr_cell_of_heap hh2 rfl
            clear hh1 hh2
            go_wp2_with fail
            refine (live15_any _).mono ?_
            rintro e w7 ⟨rfl, hb7⟩
            have HB7 := Lib.hid (HS6.out.trans (hb7.mono HS6.out.size))
            clear hb7
            go_wp2_with fail
            go_ret
            exact ⟨rfl, HB7.out⟩
          · go_wp2_with fail
            refine (flowPick_cons (by decide) _ HS.out.ring (by simp)).mono ?_
            rintro e w3 ⟨row, rest, ρ3, rfl, hp, hl3, hn3, hR3, hF3⟩
            have HP := Lib.hid hp
            have HS3 := Lib.hid ((HS.out.turn (k' := k) hl3 hn3 hR3 hF3 (by rw [picks_tot hp]; exact HS.out.few)).fence)
            obtain ⟨x, hhd⟩ : ∃ x, x = row.its.headD ⟨0, 0⟩ := ⟨_, rfl⟩
            rw [← hhd]
            have HHD := Lib.hid hhd
            unfold itV
            clear hp hl3 hn3 hR3 hF3 hhd
            go_upto_region 18 with fail
            obtain ⟨b1, hb1⟩ : ∃ b1 : Nat, b1 = w3.heap.size := ⟨_, rfl⟩
            obtain ⟨w4, hw4⟩ : ∃ w4 : World, w4 = w3.alloc (.cells #[.int .i64 x.id, .int .i64 x.cost] 37) := ⟨_, rfl⟩
            rw [← hw4, ← hb1]
            have HS4 := Lib.hid (show RState q w (w.heap.size + 1) k true (row :: rest) (fence ρ3 w3) w4 by rw [hw4]; exact HS3.out.on box_below)
            have HK4 := Lib.hid (show w4.heap[b1]? = some (.cells #[.int .i64 x.id, .int .i64 x.cost] 37 (0, 0)) by rw [hw4, hb1]; exact fr_alloc_at)
            have HBR := Lib.hid (show fence ρ3 w3 b1 = [] by rw [hb1]; simp [fence])
            clear hw4 hb1
            go_wp2_with fail
            refine (flowTake_cons (by decide) _ HS4.out.ring (by simp)).mono ?_
            rintro e w5 ⟨row', rest', ρ5, rfl, hp5, hl5, hn5, hR5, hF5⟩
            have hag := picks_again HP.out hp5
            cases hag
            have HS5 := Lib.hid ((HS4.out.turn (k' := k) hl5 hn5 hR5 hF5 (Nat.le_trans (took_tot _ _) HS4.out.few)).on (box_below (o := .cells #[.int .i64 x.id, .int .i64 x.cost] 37)))
            have hk5 := HS4.out.keep hF5 HK4.out HBR.out
            rw [← HHD.out]
            unfold itV
            clear hp5 hl5 hn5 hR5 hF5
            go_upto_region 19 with fail
            obtain ⟨w6, hw6⟩ : ∃ w6 : World, w6 = w5.alloc (.cells #[.int .i64 x.id, .int .i64 x.cost] 37) := ⟨_, rfl⟩
            obtain ⟨b2, hb2⟩ : ∃ b2 : Nat, b2 = w5.heap.size := ⟨_, rfl⟩
            rw [← hw6, ← hb2]
            have hh1 : w6.heap[b1]? = some (.cells #[.int .i64 x.id, .int .i64 x.cost] 37 (0, 0)) := by rw [hw6]; exact fr_alloc_old hk5
            have hh2 : w6.heap[b2]? = some (.cells #[.int .i64 x.id, .int .i64 x.cost] 37 (0, 0)) := by rw [hw6, hb2]; exact fr_alloc_at
            have HS6 := Lib.hid (show Below w.heap.size w w6 by rw [hw6]; exact HS5.out.below)
            clear hw6 hb2 hk5
            have a0 : w6.cell? ⟨b1, 0, none⟩ = some (.int .i64 x.id) := fr_cell_of_heap hh1 rfl
            have a1 : w6.cell? ⟨b1, 1, none⟩ = some (.int .i64 x.cost) := fr_cell_of_heap hh1 rfl
            have d0 : w6.cell? ⟨b2, 0, none⟩ = some (.int .i64 x.id) := fr_cell_of_heap hh2 rfl
            have d1 : w6.cell? ⟨b2, 1, none⟩ = some (.int .i64 x.cost) := fr_cell_of_heap hh2 rfl
            clear hh1 hh2
            go_wp2_with fail
            refine (live15_any _).mono ?_
            rintro e w7 ⟨rfl, hb7⟩
            have HB7 := Lib.hid (HS6.out.trans (hb7.mono HS6.out.size))
            clear hb7
            go_wp2_with fail
            go_ret
            exact ⟨rfl, HB7.out⟩
  · have HQ := Lib.hid hq
    clear hq
    go_enter Try.func4, Try.ntmps4
    go_wp2_with fail
    refine (flowNew_nil q _ HQ.out).mono ?_
    rintro e w1 ⟨rfl, hb1⟩
    have HB1 := Lib.hid hb1
    clear hb1
    rcases hlen : decide (200 < (l.length : Int)) with _ | _
    all_goals
      go_wp2_with fail
      refine (live15_any _).mono ?_
      rintro e w2 ⟨rfl, hb2⟩
      have HB2 := Lib.hid (HB1.out.trans (hb2.mono HB1.out.size))
      clear hb2
      go_wp2_with fail
      go_ret
      exact ⟨rfl, HB2.out⟩
end Go.Proofs.Ytohkchilogmneaa
