/-
  ref16 (shares): Right: the walk.
-/
import Derived.Test.YtohkchilogmneaaLoad16b
import Derived.Test.YtohkchilogmneaaRight15
namespace Go.Proofs.Ytohkchilogmneaa
open Go.RowKit Go.Sort

def RtTPost (q : Int) (gv : Bool) (rows : List TRow) (w : World) (e : Ending) (w' : World) : Prop := (∃ r, e = .returned (.bool r) ∧ (r = true ↔ okTL q gv rows)) ∧ Below w.heap.size w w'
theorem rtT_false {q : Int} {gv : Bool} {rows : List TRow} {w w' : World} (hn : ¬ okTL q gv rows) (hb : Below w.heap.size w w') : RtTPost q gv rows w (.returned (.bool false)) w' := ⟨⟨false, rfl, fun h => absurd h (by decide), fun h => absurd h hn⟩, hb⟩
theorem findT_take {rows : List TRow} {i : Nat} {id : Int} (hn : ∀ j y, j < i → rows[j]? = some y → y.id ≠ id) : findT id (rows.take i) = none := by
  refine findT_none (fun j y hj hy => ?_)
  rw [List.length_take] at hj
  rw [List.getElem?_take_of_lt (by omega)] at hy
  exact hn j y (by omega) hy
theorem findT_take_hit {rows : List TRow} {i j : Nat} {y : TRow} {id : Int} (hj : j < i) (hy : rows[j]? = some y) (hid : y.id = id) : findT id (rows.take i) ≠ none := by
  intro h
  unfold findT at h
  have hy' : (rows.take i)[j]? = some y := by rw [List.getElem?_take_of_lt hj]; exact hy
  have := List.findIdx?_eq_none_iff.1 h y (List.mem_of_getElem? hy')
  simp [hid] at this
def dv6 (p : DV) (pa : Option Addr) (pc : Nat) : Obj := .cells #[.int .i64 p.1.id, .int .i64 p.1.wt, .int .i64 p.1.df, .int .i64 p.2.1, .slice pa p.2.2.2.length pc, .bool p.1.gv] 90 (0, 0)
set_option maxRecDepth 100000 in
set_option maxHeartbeats 8000000 in
/-- THE WALK: Right. -/
theorem r16Right_any (q : Int) (gv : Bool) (v : Value) (l : List DV) (w : World) (hl : DRowsAt w v l) (hf : totT (l.map Prod.fst) < 1000000) (hlen : l.length < 1000000) (hlens : ∀ p ∈ l, p.2.2.2.length < 1000000) :
    Calls Try.prog 45 #[.int .i64 q, v, .bool gv] w (RtTPost q gv (l.map Prod.fst) w) := by
  obtain ⟨a, cap, rfl, -⟩ := hl.form
  have HL := Lib.hid hl
  have HF := Lib.hid hf
  have HLEN := Lib.hid hlen
  have HLENS := Lib.hid hlens
  clear hl hf hlen hlens
  by_cases hq : 1 ≤ q ∧ q ≤ 64
  · have hq1 : ¬ q < 1 := by omega
    have hq2 : ¬ 64 < q := by omega
    have HQ := Lib.hid hq
    clear hq
    by_cases hg : gv = true ∧ l = []
    · obtain ⟨rfl, rfl⟩ := hg
      go_enter Try.func45, Try.ntmps45
      go_wp2_with fail
      go_ret
      exact rtT_false (fun h => absurd ⟨rfl, rfl⟩ h.2.2.1) (Below.refl _ _)
    · have HG0 := Lib.hid hg
      have hcase : gv = false ∨ (gv = true ∧ ((l.length : Int) == 0) = false) := by
        cases gv with
        | false => exact .inl rfl
        | true =>
          right
          refine ⟨rfl, ?_⟩
          have := List.length_pos_iff.2 (fun e => hg ⟨rfl, e⟩)
          rw [beq_eq_false_iff_ne]
          omega
      clear hg
      go_enter Try.func45, Try.ntmps45
      go_upto_region 1 with fail
      go_cut [23] (fun t wx => t = .bool false ∧ Below w.heap.size w wx)
      case first =>
        rcases hcase with rfl | ⟨rfl, hz⟩
        all_goals
          go_wp2_with fail
          go_meet
          case rel => exact ⟨rfl, Below.refl _ _⟩
      case rest =>
        obtain ⟨rfl, hbc⟩ := hcut
        have HBC := Lib.hid hbc
        clear hbc hcase
        go_wp2_with fail
        go_loopg [7] l.length (fun g u wr => ∃ i : Nat, g = l.length - i ∧ u = .int .i64 i ∧ i ≤ l.length ∧ Below w.heap.size w wr ∧ ∀ (j : Nat) x, j < i → (l.map Prod.fst)[j]? = some x → okTIn q ((l.map Prod.fst).take j) x)
        case atStart => exact ⟨0, rfl, rfl, Nat.zero_le _, HBC.out, fun j x hj => by omega⟩
        case round =>
          obtain ⟨i, hg, rfl, hi, hB, hS⟩ := hrel
          have HG := Lib.hid hg
          have HB := Lib.hid hB
          have HS := Lib.hid hS
          clear hg hB hS
          by_cases hlt : i < l.length
          · obtain ⟨p, hp⟩ : ∃ p, l[i]? = some p := ⟨_, List.getElem?_eq_getElem hlt⟩
            have hmem := List.mem_of_getElem? hp
            have HX := Lib.hid (show (l.map Prod.fst)[i]? = some p.1 by rw [List.getElem?_map, hp]; rfl)
            obtain ⟨g, off, cap', hv, _, c0, c1, c2, c3, c4, c5⟩ := (HL.out.below HB.out).at hp
            cases hv
            have hin := HL.out.inv _ hmem
            have HIN := Lib.hid hin
            obtain ⟨pa, pc, hpv, -⟩ := hin.rows.form
            rw [hpv] at c4
            have HPV := Lib.hid hpv
            have HLI := Lib.hid (HLENS.out _ hmem)
            have HTI := Lib.hid (show totR (p.2.2.2.map Prod.fst) < 1000000 by rw [hin.same]; exact Nat.lt_of_le_of_lt (totT_mem (List.mem_of_getElem? HX.out)) HF.out)
            have hkl : (i : Int) < (l.length : Int) := by omega
            clear hp hmem hin hpv
            go_upto_region 7 with fail
            obtain ⟨w2, hw2⟩ : ∃ w2 : World, w2 = wr.alloc (.cells #[.int .i64 p.1.id, .int .i64 p.1.wt, .int .i64 p.1.df, .int .i64 p.2.1, .slice pa p.2.2.2.length pc, .bool p.1.gv] 90) := ⟨_, rfl⟩
            obtain ⟨bx, hbx⟩ : ∃ bx : Nat, bx = wr.heap.size := ⟨_, rfl⟩
            rw [← hw2, ← hbx]
            have HB2 := Lib.hid (HB.out.trans ((show Below wr.heap.size wr w2 by rw [hw2]; exact box_below).mono HB.out.size))
            have hk : w2.heap[bx]? = some (dv6 p pa pc) := by rw [hw2, hbx]; exact fr_alloc_at
            have HK := Lib.hid hk
            have HBW := Lib.hid (show w.heap.size ≤ bx by rw [hbx]; exact HB.out.size)
            have k0 : w2.cell? ⟨bx, 0, none⟩ = some (.int .i64 p.1.id) := fr_cell_of_heap hk rfl
            have k1 : w2.cell? ⟨bx, 1, none⟩ = some (.int .i64 p.1.wt) := fr_cell_of_heap hk rfl
            have k2 : w2.cell? ⟨bx, 2, none⟩ = some (.int .i64 p.1.df) := fr_cell_of_heap hk rfl
            have k4 : w2.cell? ⟨bx, 4, none⟩ = some (.slice pa p.2.2.2.length pc) := fr_cell_of_heap hk rfl
            have k5 : w2.cell? ⟨bx, 5, none⟩ = some (.bool p.1.gv) := fr_cell_of_heap hk rfl
            clear hw2 hbx c0 c1 c2 c3 c4 c5 hk
            by_cases hc : p.1.id < 0
            · have HNOT := Lib.hid (show ¬ okTL q gv (l.map Prod.fst) from fun h0 => (fun h => absurd (.inl hc) h.2.1 : okTIn q ((l.map Prod.fst).take i) p.1 → False) (h0.2.2.2 i p.1 HX.out))
              go_wp2_with fail
              go_ret
              exact rtT_false HNOT.out HB2.out
            · have g0 : ¬ p.1.id < 0 := hc
              clear hc
              by_cases hc : p.1.wt < 1
              · have HNOT := Lib.hid (show ¬ okTL q gv (l.map Prod.fst) from fun h0 => (fun h => absurd (.inr (.inl hc)) h.2.1 : okTIn q ((l.map Prod.fst).take i) p.1 → False) (h0.2.2.2 i p.1 HX.out))
                go_wp2_with fail
                go_ret
                exact rtT_false HNOT.out HB2.out
              · have g1 : ¬ p.1.wt < 1 := hc
                clear hc
                by_cases hc : 16 < p.1.wt
                · have HNOT := Lib.hid (show ¬ okTL q gv (l.map Prod.fst) from fun h0 => (fun h => absurd (.inr (.inr hc)) h.2.1 : okTIn q ((l.map Prod.fst).take i) p.1 → False) (h0.2.2.2 i p.1 HX.out))
                  go_wp2_with fail
                  go_ret
                  exact rtT_false HNOT.out HB2.out
                · have g2 : ¬ 16 < p.1.wt := hc
                  clear hc
                  by_cases hc : p.1.df < 0
                  · have HNOT := Lib.hid (show ¬ okTL q gv (l.map Prod.fst) from fun h0 => (fun h => absurd h.2.2.1 (Int.not_le.2 hc) : okTIn q ((l.map Prod.fst).take i) p.1 → False) (h0.2.2.2 i p.1 HX.out))
                    go_wp2_with fail
                    go_ret
                    exact rtT_false HNOT.out HB2.out
                  · have g3 : ¬ p.1.df < 0 := hc
                    clear hc
                    by_cases hc : 1088 < p.1.df
                    · have HNOT := Lib.hid (show ¬ okTL q gv (l.map Prod.fst) from fun h0 => (fun h => absurd h.2.2.2.1 (Int.not_le.2 hc) : okTIn q ((l.map Prod.fst).take i) p.1 → False) (h0.2.2.2 i p.1 HX.out))
                      go_wp2_with fail
                      go_ret
                      exact rtT_false HNOT.out HB2.out
                    · have g4 : ¬ 1088 < p.1.df := hc
                      clear hc
                      by_cases hc : p.1.rows = []
                      · have HNOT := Lib.hid (show ¬ okTL q gv (l.map Prod.fst) from fun h0 => absurd hc (h0.2.2.2 i p.1 HX.out).2.2.2.2.1)
                        have hz : ((p.2.2.2.length : Int) == 0) = true := by rw [← List.length_map (f := Prod.fst), HIN.out.same, hc]; rfl
                        clear hc
                        go_wp2_with fail
                        go_ret
                        exact rtT_false HNOT.out HB2.out
                      · have hz : ((p.2.2.2.length : Int) == 0) = false := by
                          rw [← List.length_map (f := Prod.fst), HIN.out.same, beq_eq_false_iff_ne]
                          have := List.length_pos_iff.2 hc
                          omega
                        have HNE := Lib.hid hc
                        have HNB := Lib.hid (show ¬ argBad p.1.id p.1.wt from fun h => by rcases h with h | h | h; exact g0 h; exact g1 h; exact g2 h)
                        have HD := Lib.hid (And.intro (Int.not_lt.1 g3) (Int.not_lt.1 g4))
                        clear hc
                        go_wp2_with fail
                        refine (r15Right_any q p.1.gv _ p.2.2.2 w2 (by rw [← HPV.out]; exact HIN.out.rows.below HB2.out) HTI.out HLI.out).mono ?_
                        rintro e w3 ⟨⟨r, rfl, hr⟩, hb3⟩
                        rw [HIN.out.same] at hr
                        have HB3 := Lib.hid (HB2.out.trans (hb3.mono HB2.out.size))
                        have HK3 := Lib.hid ((hb3.block bx (fp_lt_of_heap HK.out)).trans HK.out)
                        have HR := Lib.hid hr
                        clear hb3 hr k0 k1 k2 k4 k5 g0 g1 g2 g3 g4 hz
                        cases r with
                        | false =>
                          have HNOT := Lib.hid (show ¬ okTL q gv (l.map Prod.fst) from fun h0 => absurd (HR.out.2 (h0.2.2.2 i p.1 HX.out).2.2.2.2.2) (by decide))
                          go_wp2_with fail
                          go_ret
                          exact rtT_false HNOT.out HB3.out
                        | true =>
                          have HOK := Lib.hid (HR.out.1 rfl)
                          go_wp2_with fail
                          go_loopg [9] i (fun g u wr => ∃ k : Nat, g = i - k ∧ u = .int .i64 k ∧ k ≤ i ∧ (Below w.heap.size w wr ∧ wr.heap[bx]? = some (dv6 p pa pc)) ∧ ∀ j y, j < k → (l.map Prod.fst)[j]? = some y → y.id ≠ p.1.id)
                          case atStart => exact ⟨0, rfl, rfl, Nat.zero_le _, ⟨HB3.out, HK3.out⟩, fun j y hj => by omega⟩
                          case round =>
                            obtain ⟨k, hg', rfl, hk, ⟨hbk, hkk⟩, hn⟩ := hrel
                            have HBK := Lib.hid hbk
                            have HKK := Lib.hid hkk
                            have HG' := Lib.hid hg'
                            have HN := Lib.hid hn
                            clear hg' hn hbk hkk
                            by_cases hki : k < i
                            · obtain ⟨p', hp'⟩ : ∃ p', l[k]? = some p' := ⟨_, List.getElem?_eq_getElem (by omega)⟩
                              have HY := Lib.hid (show (l.map Prod.fst)[k]? = some p'.1 by rw [List.getElem?_map, hp']; rfl)
                              obtain ⟨g', off', cap', hv, _, d0, -⟩ := (HL.out.below HBK.out).at hp'
                              cases hv
                              have k0 : wr.cell? ⟨bx, 0, none⟩ = some (.int .i64 p.1.id) := fr_cell_of_heap HKK.out rfl
                              have hki2 : (k : Int) < (i : Int) := by omega
                              have hkl2 : (k : Int) < (l.length : Int) := by omega
                              clear hp'
                              by_cases he : p'.1.id = p.1.id
                              · have hb : (p'.1.id == p.1.id) = true := beq_iff_eq.2 he
                                have HNOT := Lib.hid (show ¬ okTL q gv (l.map Prod.fst) from fun h0 => findT_take_hit hki HY.out he (h0.2.2.2 i p.1 HX.out).1)
                                clear he
                                go_upto_region 12 with fail
                                go_region
                                clear d0 k0
                                go_wp2_with fail
                                go_ret
                                exact rtT_false HNOT.out (below_chain HBK.out ⟨rfl, rfl, rfl, Nat.le_refl _, fun _ _ => rfl⟩)
                              · have hb : (p'.1.id == p.1.id) = false := beq_eq_false_iff_ne.2 he
                                have HE := Lib.hid he
                                clear he
                                go_upto_region 12 with fail
                                go_region
                                clear d0 k0
                                go_wp2_with fail
                                go_roundg (i - (k + 1))
                                case rel =>
                                  have hlen := HLEN.out
                                  refine ⟨k + 1, rfl, by rw [show wrap64 ((k : Int) + 1) = ((k + 1 : Nat) : Int) by unfold wrap64; omega], by omega, ⟨below_chain HBK.out ⟨rfl, rfl, rfl, Nat.le_refl _, fun _ _ => rfl⟩, HKK.out⟩, fun j y hj hy => ?_⟩
                                  rcases Nat.lt_or_ge j k with h | h
                                  · exact HN.out j y h hy
                                  · obtain rfl : j = k := by omega
                                    obtain rfl : p'.1 = y := Option.some.inj (HY.out.symm.trans hy)
                                    exact HE.out
                                case measure => have := HG'.out; omega
                            · have HOKI := Lib.hid (show okTIn q ((l.map Prod.fst).take i) p.1 from ⟨findT_take (fun j y hj hy => HN.out j y (by omega) hy), HNB.out, HD.out.1, HD.out.2, HNE.out, HOK.out⟩)
                              go_wp2_with fail
                              go_roundg (l.length - (i + 1))
                              case rel =>
                                have hlen := HLEN.out
                                refine ⟨i + 1, rfl, by rw [show wrap64 ((i : Int) + 1) = ((i + 1 : Nat) : Int) by unfold wrap64; omega], by omega, HBK.out, fun m z hm hz => ?_⟩
                                rcases Nat.lt_or_ge m i with h | h
                                · exact HS.out m z h hz
                                · obtain rfl : m = i := by omega
                                  obtain rfl : p.1 = z := Option.some.inj (HX.out.symm.trans hz)
                                  exact HOKI.out
                              case measure => have := HG.out; omega
          · have HOKL := Lib.hid (show okTL q gv (l.map Prod.fst) from ⟨HQ.out.1, HQ.out.2, fun h => HG0.out ⟨h.1, by simpa using h.2⟩, fun m x hx => HS.out m x (by have := (List.getElem?_eq_some_iff.1 hx).1; rw [List.length_map] at this; omega) hx⟩)
            go_wp2_with fail
            go_ret
            exact ⟨⟨true, rfl, fun _ => HOKL.out, fun _ => rfl⟩, HB.out⟩
  · have HQ := Lib.hid hq
    have hq3 : q < 1 ∨ (¬ q < 1 ∧ 64 < q) := by omega
    clear hq
    go_enter Try.func45, Try.ntmps45
    rcases hq3 with hq1 | ⟨hq1, hq2⟩
    all_goals
      go_wp2_with fail
      go_ret
      exact rtT_false (fun h => absurd ⟨h.1, h.2.1⟩ HQ.out) (Below.refl _ _)
end Go.Proofs.Ytohkchilogmneaa
