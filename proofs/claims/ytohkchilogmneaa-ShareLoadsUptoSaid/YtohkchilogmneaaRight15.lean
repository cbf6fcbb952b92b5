/-
  ref15 (flows): Right: the walk.
-/
import Derived.Test.YtohkchilogmneaaRef15j
import Derived.Test.YtohkchilogmneaaLoad15b
namespace Go.Proofs.Ytohkchilogmneaa
open Go.RowKit Go.Sort

def zeroR (x : FRow) : FRow := ⟨x.id, x.wt, 0, x.its⟩
theorem findF_zero (id : Int) (rows : List FRow) : findF id (rows.map zeroR) = findF id rows := by
  unfold findF
  rw [List.findIdx?_map]
  rfl
theorem tot_zero (rows : List FRow) : totR (rows.map zeroR) = totR rows := by
  unfold totR
  rw [List.map_map]
  rfl
/-- Where Right stands: the ring's rows, the deficits struck, and of one row so many items. -/
structure RtState (b : Nat) (q : Int) (w : World) (rows : List FRow) (wr : World) : Prop where
  ref : ∃ v l, RefAt (fun j => j ≠ b) wr b q false v l ∧ l.map Prod.fst = rows
  below : Below w.heap.size w wr
  wb : w.heap.size ≤ b
theorem RtState.on {b : Nat} {q : Int} {w wr w' : World} {rows : List FRow} (h : RtState b q w rows wr) (hb : Below wr.heap.size wr w') : RtState b q w rows w' := by
  obtain ⟨v, l, hR, hm⟩ := h.ref
  exact ⟨⟨v, l, hR.below hb, hm⟩, h.below.trans (hb.mono h.below.size), h.wb⟩
theorem RtState.head {b : Nat} {q : Int} {w wr : World} {rows : List FRow} (h : RtState b q w rows wr) : ∃ v, wr.cell? ⟨b, 0, none⟩ = some (.int .i64 q) ∧ wr.cell? ⟨b, 1, none⟩ = some v ∧ wr.cell? ⟨b, 2, none⟩ = some (.bool false) ∧ b < wr.heap.size ∧
    ∀ w', Below wr.heap.size wr w' → ∀ id, Calls Try.prog 24 #[.agg #[.int .i64 q, v, .bool false], .int .i64 id] w' fun e w'' => e = .returned (.int .i64 (placeF id rows)) ∧ Below w'.heap.size w' w'' := by
  obtain ⟨v, l, hR, hm⟩ := h.ref
  refine ⟨v, fr_cell_of_heap hR.head rfl, fr_cell_of_heap hR.head rfl, fr_cell_of_heap hR.head rfl, fp_lt_of_heap hR.head, fun w' hb id => ?_⟩
  have h := r15Find_any id q false v l w' (hR.below hb).rows hR.few
  rw [hm] at h
  exact h
theorem RtState.push {b : Nat} {q : Int} {w wr : World} {rows : List FRow} (h : RtState b q w rows wr) (id wt : Int) (x : It) (hfull : ∀ r ∈ rows, r.its ≠ []) (hf : totR rows < 1000000) :
    Calls Try.prog 58 #[.pointer (some ⟨b, 0, none⟩), .int .i64 id, .int .i64 wt, .agg #[.int .i64 x.id, .int .i64 x.cost]] wr fun e w' => e = .returned (.int .i64 (pushE id wt x rows)) ∧ RtState b q w (stepPush id wt x rows) w' ∧ Fp (fun j => j = b) wr w' := by
  obtain ⟨v, l, hR, rfl⟩ := h.ref
  refine (r15Push_any id wt x b q false v l wr hR hfull hf).mono ?_
  rintro e w' ⟨rfl, hF, v', l', hR', hm⟩
  exact ⟨rfl, ⟨⟨v', l', hR', hm⟩, h.below.trans (hF.below h.below.size (fun j hj e => by have := h.wb; omega)), h.wb⟩, hF⟩
def RtPost (q : Int) (gv : Bool) (rows : List FRow) (w : World) (e : Ending) (w' : World) : Prop := (∃ r, e = .returned (.bool r) ∧ (r = true ↔ okL q gv rows)) ∧ Below w.heap.size w w'
theorem rt_false {q : Int} {gv : Bool} {rows : List FRow} {w w' : World} (hn : ¬ okL q gv rows) (hb : Below w.heap.size w w') : RtPost q gv rows w (.returned (.bool false)) w' := ⟨⟨false, rfl, fun h => absurd h (by decide), fun h => absurd h hn⟩, hb⟩
/-- The rows so far: whole ones, and so many items of the next one. -/
structure RtAll (b : Nat) (q : Int) (w : World) (rows : List FRow) (i : Nat) (wr : World) : Prop where
  st : RtState b q w ((rows.take i).map zeroR) wr
  ok : ∀ (j : Nat) x, j < i → rows[j]? = some x → okIn (rows.take j) x
structure RtRow (b : Nat) (q : Int) (w : World) (rows : List FRow) (i : Nat) (x : FRow) (j : Nat) (wr : World) : Prop where
  st : RtState b q w ((rows.take i).map zeroR ++ partR x j) wr
  ok : ∀ (m : Nat) y, m < j → x.its[m]? = some y → ¬ argBad x.id x.wt ∧ itE (x.its.take m) y = 0
theorem RtAll.full {b : Nat} {q : Int} {w wr : World} {rows : List FRow} {i : Nat} (h : RtAll b q w rows i wr) (x : FRow) (j : Nat) (hj : j ≤ x.its.length) : ∀ r ∈ (rows.take i).map zeroR ++ partR x j, r.its ≠ [] := by
  intro r hr
  rcases List.mem_append.1 hr with hr | hr
  · obtain ⟨z, hz, rfl⟩ := List.mem_map.1 hr
    obtain ⟨m, hm⟩ := List.mem_iff_getElem?.1 hz
    rw [List.getElem?_take] at hm
    split at hm
    · rename_i hmi
      exact (h.ok m z hmi hm).2.2.2.1
    · cases hm
  · unfold partR at hr
    split at hr
    · cases hr
    · rw [List.mem_singleton] at hr
      subst hr
      intro e
      have := congrArg List.length e
      rw [List.length_take, List.length_nil] at this
      omega
theorem rt_start {q : Int} {w wc : World} {rows : List FRow} (hb : Below w.heap.size w wc) : RtAll wc.heap.size q w rows 0 (wc.alloc (.cells #[.int .i64 q, .slice none 0 0, .bool false] 53)) :=
  ⟨⟨⟨.slice none 0 0, [], ⟨fr_alloc_at, ⟨⟨none, 0, rfl, Nat.le_refl _, fun j u hu => by simp [flatRV] at hu⟩, fun p hp => by cases hp⟩, fun hl => absurd rfl hl, fun p hp => by (cases hp), fun hb => hb rfl, fun k hk => by (simp at hk; omega), by simp, fun p hp => by (cases hp)⟩, rfl⟩, hb.alloc hb.size _, hb.size⟩, fun j x hj => by omega⟩
set_option maxRecDepth 100000 in
set_option maxHeartbeats 8000000 in
/-- THE WALK: Right. -/
theorem r15Right_any (q : Int) (gv : Bool) (v : Value) (l : List (FRow × Value)) (w : World) (hl : RowsAt w v l) (hf : totR (l.map Prod.fst) < 1000000) (hlen : l.length < 1000000) :
    Calls Try.prog 27 #[.int .i64 q, v, .bool gv] w (RtPost q gv (l.map Prod.fst) w) := by
  obtain ⟨a, cap, rfl, -⟩ := hl.form
  have HL := Lib.hid hl
  have HF := Lib.hid hf
  have HLEN := Lib.hid hlen
  clear hl hf hlen
  by_cases hq : 1 ≤ q ∧ q ≤ 64
  · have hq1 : ¬ q < 1 := by omega
    have hq2 : ¬ 64 < q := by omega
    have HQ := Lib.hid hq
    clear hq
    by_cases hg : gv = true ∧ l = []
    · obtain ⟨rfl, rfl⟩ := hg
      go_enter Try.func27, Try.ntmps27
      go_wp2_with fail
      go_ret
      exact rt_false (fun h => absurd ⟨rfl, rfl⟩ h.2.2.1) (Below.refl _ _)
    · have HG0 := Lib.hid hg
      have hcase : gv = false ∨ (gv = true ∧ ((l.length : Int) == 0) = false) := by
        cases gv with
        | false => exact .inl rfl
        | true =>
          right
          refine ⟨rfl, ?_⟩
          have := List.length_pos_iff.2 (fun e => hg ⟨rfl, e⟩)
          rw [beq_eq_false_iff_ne]
          omega
      clear hg
      go_enter Try.func27, Try.ntmps27
      go_upto_region 1 with fail
      go_cut [23] (fun t wx => t = .bool false ∧ Below w.heap.size w wx)
      case first =>
        rcases hcase with rfl | ⟨rfl, hz⟩
        all_goals
          go_wp2_with fail
          go_meet
          case rel => exact ⟨rfl, Below.refl _ _⟩
      case rest =>
        obtain ⟨rfl, hbc⟩ := hcut
        have HS0 := Lib.hid (rt_start (q := q) (rows := l.map Prod.fst) hbc)
        clear hbc hcase
        go_upto_region 4 with fail
        obtain ⟨w1, hw1⟩ : ∃ w1 : World, w1 = wc.alloc (.cells #[.int .i64 q, .slice none 0 0, .bool false] 53) := ⟨_, rfl⟩
        obtain ⟨b, hb⟩ : ∃ b : Nat, b = wc.heap.size := ⟨_, rfl⟩
        rw [← hw1, ← hb] at HS0
        rw [← hw1, ← hb]
        clear hw1 hb
        go_wp2_with fail
        go_loopg [8] l.length (fun g u wr => ∃ i : Nat, g = l.length - i ∧ u = .int .i64 i ∧ i ≤ l.length ∧ RtAll b q w (l.map Prod.fst) i wr)
        case atStart => exact ⟨0, rfl, rfl, Nat.zero_le _, HS0.out⟩
        case round =>
          obtain ⟨i, hg, rfl, hi, hS⟩ := hrel
          have HG := Lib.hid hg
          have HS := Lib.hid hS
          clear hg hS
          by_cases hlt : i < l.length
          · obtain ⟨⟨x, vx⟩, hp⟩ : ∃ p, l[i]? = some p := ⟨_, List.getElem?_eq_getElem hlt⟩
            have HX := Lib.hid (show (l.map Prod.fst)[i]? = some x by rw [List.getElem?_map, hp]; rfl)
            obtain ⟨g, off, cap', hv, _, c0, c1, c2, c3⟩ := HL.out.at hp
            cases hv
            simp only at c0 c1 c2 c3
            have HIT := Lib.hid (HL.out.its _ (List.mem_of_getElem? hp))
            obtain ⟨ax, cx, rfl⟩ : ∃ ax cx, vx = .slice ax x.its.length cx := its_form (HL.out.its _ (List.mem_of_getElem? hp))
            have hkl : (i : Int) < (l.length : Int) := by omega
            have HC0 := Lib.hid c0
            have HC1 := Lib.hid c1
            have HC3 := Lib.hid c3
            have d0 := cell_regrown (cell_below HS.out.st.below c0)
            have d2 := cell_regrown (cell_below HS.out.st.below c2)
            have d3 := cell_regrown (cell_below HS.out.st.below c3)
            obtain ⟨v1, b0, b1, b2, -, hfind⟩ := HS.out.st.head
            have b0 := cell_regrown b0
            have b1 := cell_regrown b1
            have b2 := cell_regrown b2
            have hfind : ∀ (d : Nat) (os : Array Obj), Calls Try.prog 24 #[.agg #[.int .i64 q, v1, .bool false], .int .i64 x.id] (grow (redrawn wr d) os) fun e w' => e = .returned (.int .i64 (placeF x.id ((l.map Prod.fst).take i))) ∧ Below (grow (redrawn wr d) os).heap.size (grow (redrawn wr d) os) w' := fun d os => by
              have h := hfind _ (below_regrown wr d os) x.id
              unfold placeF at h ⊢
              rw [findF_zero] at h
              exact h
            have HTOT := Lib.hid (tot_take (l.map Prod.fst) i HX.out)
            clear hp c0 c1 c2 c3
            rcases hfd : findF x.id ((l.map Prod.fst).take i) with _ | m
            · rw [placeF_none hfd] at hfind
              have HFIND := Lib.hid hfind
              have HFD := Lib.hid hfd
              clear hfind hfd
              by_cases hbad : x.its = [] ∨ x.df < 0 ∨ 1088 < x.df
              · have HNOT := Lib.hid (show ¬ okL q gv (l.map Prod.fst) from fun h => by
                  have ho := h.2.2.2 i x HX.out
                  rcases hbad with h | h | h
                  · exact ho.2.2.2.1 h
                  · have := ho.2.1
                    omega
                  · have := ho.2.2.1
                    omega)
                have hcase : decide (x.df < 0) = true ∨ (decide (x.df < 0) = false ∧ decide (1088 < x.df) = true) ∨ (decide (x.df < 0) = false ∧ decide (1088 < x.df) = false ∧ ((x.its.length : Int) == 0) = true) := by
                  simp only [beq_iff_eq, decide_eq_true_eq, decide_eq_false_iff_not]
                  by_cases h1 : x.df < 0
                  · exact .inl h1
                  · by_cases h2 : 1088 < x.df
                    · exact .inr (.inl ⟨h1, h2⟩)
                    · refine .inr (.inr ⟨h1, h2, ?_⟩)
                      rcases hbad with h | h | h
                      · simp [h]
                      · exact absurd h h1
                      · exact absurd h h2
                clear hbad
                go_upto_region 7 with fail
                rcases hcase with g1 | ⟨g1, g2⟩ | ⟨g1, g2, g3⟩
                · have h1 : x.df < 0 := of_decide_eq_true g1
                  refine wp_region_quiet_below (by kernel_rfl) (by kernel_rfl) ?_
                  repeat (go_big_quiet_step (exact Calls.regrown_of (HFIND.out _ _)))
                  refine wpQuiet_nil ?_
                  rintro _ ⟨⟨dq, osq⟩, rfl⟩
                  clear d0 d2 d3 b0 b1 b2
                  go_wp2_with fail
                  go_ret
                  exact rt_false HNOT.out (below_of_regrown HS.out.st.below HS.out.st.below.size)
                · have h2 : 1088 < x.df := of_decide_eq_true g2
                  refine wp_region_quiet_below (by kernel_rfl) (by kernel_rfl) ?_
                  repeat (go_big_quiet_step (exact Calls.regrown_of (HFIND.out _ _)))
                  refine wpQuiet_nil ?_
                  rintro _ ⟨⟨dq, osq⟩, rfl⟩
                  clear d0 d2 d3 b0 b1 b2
                  go_wp2_with fail
                  go_ret
                  exact rt_false HNOT.out (below_of_regrown HS.out.st.below HS.out.st.below.size)
                · refine wp_region_quiet_below (by kernel_rfl) (by kernel_rfl) ?_
                  repeat (go_big_quiet_step (exact Calls.regrown_of (HFIND.out _ _)))
                  refine wpQuiet_nil ?_
                  rintro _ ⟨⟨dq, osq⟩, rfl⟩
                  clear d0 d2 d3 b0 b1 b2
                  go_wp2_with fail
                  go_ret
                  exact rt_false HNOT.out (below_of_regrown HS.out.st.below HS.out.st.below.size)
              · have HGOOD := Lib.hid hbad
                have g1 : decide (x.df < 0) = false := decide_eq_false (fun h => hbad (.inr (.inl h)))
                have g2 : decide (1088 < x.df) = false := decide_eq_false (fun h => hbad (.inr (.inr h)))
                have g3 : ((x.its.length : Int) == 0) = false := by
                  rw [beq_eq_false_iff_ne]
                  intro e
                  exact hbad (.inl (List.length_eq_zero_iff.1 (by omega)))
                clear hbad
                go_upto_region 7 with fail
                refine wp_region_quiet_below (by kernel_rfl) (by kernel_rfl) ?_
                repeat (go_big_quiet_step (exact Calls.regrown_of (HFIND.out _ _)))
                refine wpQuiet_nil ?_
                rintro _ ⟨⟨dq, osq⟩, rfl⟩
                clear d0 d2 d3 b0 b1 b2 HFIND
                obtain ⟨w2, hw2⟩ : ∃ w2 : World, w2 = grow (redrawn wr dq) osq := ⟨_, rfl⟩
                have HS2 := Lib.hid (show RtRow b q w (l.map Prod.fst) i x 0 w2 from ⟨by rw [hw2, show ((l.map Prod.fst).take i).map zeroR ++ partR x 0 = ((l.map Prod.fst).take i).map zeroR by simp [partR]]; exact HS.out.st.on (below_regrown wr dq osq), fun m y hm => by omega⟩)
                rw [← hw2]
                clear hw2
                go_wp2_with fail
                go_loopg [9] x.its.length (fun g u wr => ∃ j : Nat, g = x.its.length - j ∧ u = .int .i64 j ∧ j ≤ x.its.length ∧ RtRow b q w (l.map Prod.fst) i x j wr)
                case atStart => exact ⟨0, rfl, rfl, Nat.zero_le _, HS2.out⟩
                case round =>
                  obtain ⟨j, hg', rfl, hj, hR⟩ := hrel
                  have HG' := Lib.hid hg'
                  have HR := Lib.hid hR
                  have c3 := cell_below hR.st.below HC3.out
                  clear hg' hR
                  by_cases hjl : j < x.its.length
                  · obtain ⟨y, hy⟩ : ∃ y, x.its[j]? = some y := ⟨_, List.getElem?_eq_getElem hjl⟩
                    have HY := Lib.hid hy
                    obtain ⟨gi, offi, ci', hv, i0, i1⟩ := its_at HIT.out hy
                    cases hv
                    have HI0 := Lib.hid i0
                    have HI1 := Lib.hid i1
                    have hji : (j : Int) < (x.its.length : Int) := by omega
                    have c0 := cell_below HR.out.st.below HC0.out
                    have c1 := cell_below HR.out.st.below HC1.out
                    have i0 := cell_below HR.out.st.below i0
                    have i1 := cell_below HR.out.st.below i1
                    have HSD := Lib.hid (HR.out.st.on (w' := wr.drew) ⟨rfl, rfl, rfl, Nat.le_refl _, fun _ _ => rfl⟩)
                    have HFULL := Lib.hid (HS.out.full x j hj)
                    have HTT := Lib.hid (show totR (((l.map Prod.fst).take i).map zeroR ++ partR x j) < 1000000 by
                      rw [tot_app, tot_zero]
                      have h1 := tot_part x j
                      have h2 := HTOT.out
                      have h3 := HF.out
                      omega)
                    have HPP := Lib.hid (push_part (rows := ((l.map Prod.fst).take i).map zeroR) (x := x) (j := j) (y := y) (by rw [findF_zero]; exact HFD.out))
                    obtain ⟨P, hPE⟩ : ∃ P, pushE x.id x.wt y (((l.map Prod.fst).take i).map zeroR ++ partR x j) = P := ⟨_, rfl⟩
                    have HPE := Lib.hid hPE
                    clear hy hPE
                    go_upto_region 12 with fail
                    go_region_held3 (fun w' => w'.cell? ⟨g, off + i * 4, none⟩ = some (.int .i64 x.id) ∧ w'.cell? ⟨g, off + i * 4 + 1, none⟩ = some (.int .i64 x.wt) ∧ w'.cell? ⟨g, off + i * 4 + 3, none⟩ = some (.slice (some ⟨gi, offi, none⟩) x.its.length cx) ∧ w'.cell? ⟨gi, offi + j * 2, none⟩ = some (.int .i64 y.id) ∧ w'.cell? ⟨gi, offi + j * 2 + 1, none⟩ = some (.int .i64 y.cost))
                      (first | go_keep | exact ⟨cell_below hS9.below HC0.out, cell_below hS9.below HC1.out, cell_below hS9.below HC3.out, cell_below hS9.below HI0.out, cell_below hS9.below HI1.out⟩)
                      (first | (go_at_call 58; refine (HSD.out.push x.id x.wt y HFULL.out HTT.out).mono ?_; rintro e w9 ⟨rfl, hS9, -⟩; rw [HPE.out]))
                    have HS9 := Lib.hid hS9
                    clear hS9 c0 c1 c3 i0 i1
                    by_cases h0 : P = 0
                    · have hne : (P != 0) = false := by simp [h0]
                      have H0 := Lib.hid h0
                      clear h0
                      go_wp2_with fail
                      go_roundg (x.its.length - (j + 1))
                      case rel =>
                        have h1 := HTOT.out
                        have h2 := HF.out
                        refine ⟨j + 1, rfl, by rw [show wrap64 ((j : Int) + 1) = ((j + 1 : Nat) : Int) by unfold wrap64; omega], by omega, ?_, fun m z hm hz => ?_⟩
                        · rw [← step_part (by rw [findF_zero]; exact HFD.out) HY.out (HPE.out.trans H0.out)]
                          exact HS9.out
                        · rcases Nat.lt_or_ge m j with h | h
                          · exact HR.out.ok m z h hz
                          · obtain rfl : m = j := by omega
                            obtain rfl : y = z := Option.some.inj (HY.out.symm.trans hz)
                            have h := HPP.out.symm.trans (HPE.out.trans H0.out)
                            split at h
                            · cases h
                            · rename_i hb
                              exact ⟨hb, h⟩
                      case measure => have := HG'.out; omega
                    · have hne : (P != 0) = true := by simp [h0]
                      have HNOT := Lib.hid (show ¬ okL q gv (l.map Prod.fst) from fun h => h0 (by
                        have ho := h.2.2.2 i x HX.out
                        rw [← HPE.out, HPP.out, if_neg ho.2.2.2.2.1]
                        exact ho.2.2.2.2.2 j y HY.out))
                      clear h0
                      go_wp2_with fail
                      go_ret
                      exact rt_false HNOT.out HS9.out.below
                  · have hjj : j = x.its.length := by omega
                    have hne : x.its ≠ [] := fun h => HGOOD.out (.inl h)
                    have hpos := List.length_pos_iff.2 hne
                    obtain ⟨y, ys, hy⟩ : ∃ y ys, x.its = y :: ys := by
                      cases h : x.its with
                      | nil => exact absurd h hne
                      | cons y ys => exact ⟨y, ys, rfl⟩
                    have hrow : okRow x := ⟨(HR.out.ok 0 y (by omega) (by rw [hy]; rfl)).1, fun m z hz => (HR.out.ok m z (by have := (List.getElem?_eq_some_iff.1 hz).1; omega) hz).2⟩
                    have HOKI := Lib.hid (show okIn ((l.map Prod.fst).take i) x from ⟨HFD.out, Int.not_lt.1 (fun h => HGOOD.out (.inr (.inl h))), Int.not_lt.1 (fun h => HGOOD.out (.inr (.inr h))), hne, hrow⟩)
                    have HS3 := Lib.hid (show RtAll b q w (l.map Prod.fst) (i + 1) wr from ⟨by
                        have h := HR.out.st
                        have hkm : i < (l.map Prod.fst).length := by rw [List.length_map]; exact hlt
                        rw [show ((l.map Prod.fst).take (i + 1)).map zeroR = ((l.map Prod.fst).take i).map zeroR ++ partR x j by
                          rw [List.take_succ_eq_append_getElem hkm, (List.getElem?_eq_some_iff.1 HX.out).2, List.map_append]
                          unfold partR
                          rw [if_neg (by omega), hjj, List.take_length]
                          rfl]
                        exact h, fun m z hm hz => by
                        rcases Nat.lt_or_ge m i with h | h
                        · exact HS.out.ok m z h hz
                        · obtain rfl : m = i := by omega
                          obtain rfl : x = z := Option.some.inj (HX.out.symm.trans hz)
                          exact HOKI.out⟩)
                    clear hjj hne hpos hy hrow
                    go_wp2_with fail
                    go_roundg (l.length - (i + 1))
                    case rel =>
                      have hlen := HLEN.out
                      exact ⟨i + 1, rfl, by rw [show wrap64 ((i : Int) + 1) = ((i + 1 : Nat) : Int) by unfold wrap64; omega], by omega, HS3.out⟩
                    case measure => have := HG.out; omega
            · rw [placeF_some hfd] at hfind
              have HNOT := Lib.hid (show ¬ okL q gv (l.map Prod.fst) from fun h => by
                have ho := (h.2.2.2 i x HX.out).1
                rw [hfd] at ho
                cases ho)
              have HFIND := Lib.hid hfind
              have hm0 : (m : Int) ≥ 0 := by omega
              clear hfind hfd
              go_upto_region 7 with fail
              refine wp_region_quiet_below (by kernel_rfl) (by kernel_rfl) ?_
              repeat (go_big_quiet_step (exact Calls.regrown_of (HFIND.out _ _)))
              refine wpQuiet_nil ?_
              rintro _ ⟨⟨dq, osq⟩, rfl⟩
              clear d0 d2 d3 b0 b1 b2
              go_wp2_with fail
              go_ret
              exact rt_false HNOT.out (below_of_regrown HS.out.st.below HS.out.st.below.size)
          · have HOKL := Lib.hid (show okL q gv (l.map Prod.fst) from ⟨HQ.out.1, HQ.out.2, fun h => HG0.out ⟨h.1, by simpa using h.2⟩, fun m x hx => HS.out.ok m x (by have := (List.getElem?_eq_some_iff.1 hx).1; rw [List.length_map] at this; omega) hx⟩)
            go_wp2_with fail
            go_ret
            exact ⟨⟨true, rfl, fun _ => HOKL.out, fun _ => rfl⟩, HS.out.st.below⟩
  · have HQ := Lib.hid hq
    have hq3 : q < 1 ∨ (¬ q < 1 ∧ 64 < q) := by omega
    clear hq
    go_enter Try.func27, Try.ntmps27
    rcases hq3 with hq1 | ⟨hq1, hq2⟩
    all_goals
      go_wp2_with fail
      go_ret
      exact rt_false (fun h => absurd ⟨h.1, h.2.1⟩ HQ.out) (Below.refl _ _)
end Go.Proofs.Ytohkchilogmneaa
