/-
  flow.Load: the walk.
-/
import Derived.Test.YtohkchilogmneaaLoad15
import Derived.Test.YtohkchilogmneaaRef15All
namespace Go.Proofs.Ytohkchilogmneaa
open Go.RowKit Go.Sort

/-- The ring's first flow, given or not. -/
theorem ring_setGiven {pre : List Int} {ρ : Roles} {w : World} {f sp : Nat} {q : Int} {v : Value} {ns : List Nd} {qb : Int → Nat} {its : Int → List It} (h : RAt pre ρ w f sp q false v ns qb its) (g : Bool) :
    RingAt pre ρ (w.setCell ⟨sp, 2, none⟩ (.bool g)) f q g (ns.map (rowOf its)) ∧ Fp (fun j => j = sp) w (w.setCell ⟨sp, 2, none⟩ (.bool g)) := by
  have hF : Fp (fun j => j = sp) w (w.setCell ⟨sp, 2, none⟩ (.bool g)) := (Fp.refl (fun j => j = sp) w).setCell (p := ⟨sp, 2, none⟩) (fun _ => rfl) _
  have hg := ndsOk_false.1 h.good
  refine ⟨⟨sp, v, ns, qb, its, ⟨hF.heap h.head (fun e => ?_), h.rf, spin_given h.spin hF (fr_setCell_at h.spin.head), h.src, fun n hn => (h.que n hn).frame hF (fun k _ ⟨s, hs⟩ e => ?_), h.full, h.q1, h.q2, ?_, h.idok⟩, rfl⟩, hF⟩
  · have h1 := h.rf
    rw [e, h.spin.rs] at h1
    simp at h1
  · rw [e, h.spin.rs] at hs
    simp at hs
  · cases ns with
    | nil => trivial
    | cons n r => exact ⟨(hg n List.mem_cons_self).mono (by split <;> omega), fun m hm => hg m (List.mem_cons_of_mem _ hm)⟩
/-- What Load leaves. -/
def LoadPost (pre : List Int) (ρ : Roles) (w : World) (q : Int) (gv : Bool) (rows : List FRow) (e : Ending) (w' : World) : Prop :=
  Below w.heap.size w w' ∧ ((okL q gv rows ∧ ∃ f ρ', e = .returned (.tuple #[.pointer (some ⟨f, 0, none⟩), .bool true]) ∧ Later ρ ρ' w ∧ NewRoles ρ' pre w.heap.size ∧ RingAt pre ρ' w' f q gv rows ∧ w.heap.size ≤ f) ∨ (¬ okL q gv rows ∧ e = .returned (.tuple #[.pointer none, .bool false])))
/-- Where Load stands. -/
structure LdState (pre : List Int) (ρ : Roles) (w : World) (q : Int) (rows : List FRow) (k : Nat) (wr : World) : Prop where
  ring : ∃ ρ', Later ρ ρ' w ∧ NewRoles ρ' pre w.heap.size ∧ RingAt pre ρ' wr (w.heap.size + 1) q false (rows.take k)
  below : Below w.heap.size w wr
  ok : ∀ (i : Nat) x, i < k → rows[i]? = some x → okIn (rows.take i) x
theorem load_start {pre : List Int} {ρ : Roles} {q : Int} {w w1 : World} (h1 : 1 ≤ q) (h2 : q ≤ 64) (rows : List FRow) (hw : w1 = (w.alloc (.cells #[.int .i64 q, .slice none 0 0, .bool false] 100)).alloc (.cells #[.pointer (some ⟨w.heap.size, 0, none⟩)] 102)) : LdState pre ρ w q rows 0 w1 := by
  refine ⟨⟨fun k => if k < w.heap.size then ρ k else if k = w.heap.size then pre ++ [1] else if k = w.heap.size + 1 then pre ++ [6] else [], fun k hk => by simp [hk], fun k hk => ?_, by rw [hw]; exact flowNew_at w h1 h2 (by simp) (by simp [show ¬ w.heap.size + 1 < w.heap.size by omega])⟩, by rw [hw]; exact box_below.alloc (by simp) _, fun i x hi => by omega⟩
  unfold Part
  by_cases e1 : k = w.heap.size
  · subst e1
    exact .inr ⟨[1], by simp⟩
  · by_cases e2 : k = w.heap.size + 1
    · subst e2
      exact .inr ⟨[6], by simp [show ¬ w.heap.size + 1 < w.heap.size by omega]⟩
    · exact .inl (by simp [e1, e2, Nat.not_lt.2 hk])
theorem tot_take (rows : List FRow) (k : Nat) {x : FRow} (h : rows[k]? = some x) : totR (rows.take k) + x.its.length ≤ totR rows := by
  have hk : k < rows.length := (List.getElem?_eq_some_iff.1 h).1
  have e : totR (rows.take (k + 1)) = totR (rows.take k) + x.its.length := by
    rw [List.take_succ_eq_append_getElem hk, (List.getElem?_eq_some_iff.1 h).2, tot_app]
    simp [totR]
  have e2 : totR rows = totR (rows.take (k + 1)) + totR (rows.drop (k + 1)) := by rw [← tot_app, List.take_append_drop]
  omega
section
variable {pre : List Int} {ρ : Roles}
set_option maxRecDepth 100000 in
set_option maxHeartbeats 8000000 in
/-- THE WALK: Load. -/
theorem flowLoad_any (hpre : pre ≠ []) (q : Int) (gv : Bool) (v : Value) (l : List (FRow × Value)) (w : World) (hl : RowsAt w v l) (hfr : ∀ k, k < w.heap.size → ¬ Part ρ pre k) (hok : ∀ p ∈ l, I64 p.1.id ∧ ∀ y ∈ p.1.its, I64 y.id) (hf : totR (l.map Prod.fst) < 1000000) (hlen : l.length < 1000000) :
    Calls Try.prog 25 #[.int .i64 q, v, .bool gv] w (LoadPost pre ρ w q gv (l.map Prod.fst)) := by
  obtain ⟨a, cap, rfl, -⟩ := hl.form
  have HL := Lib.hid hl
  have HFR := Lib.hid hfr
  have HOK := Lib.hid hok
  have HF := Lib.hid hf
  have HLEN := Lib.hid hlen
  clear hl hfr hok hf hlen
  by_cases hq : 1 ≤ q ∧ q ≤ 64
  · have HQ := Lib.hid hq
    clear hq
    go_enter Try.func25, Try.ntmps25
    go_wp2_with fail
    refine (flowNew_any q _ HQ.out.1 HQ.out.2).mono ?_
    rintro e w1 ⟨rfl, hw1⟩
    have HS1 := Lib.hid (load_start (pre := pre) (ρ := ρ) HQ.out.1 HQ.out.2 (l.map Prod.fst) hw1)
    clear hw1
    by_cases hg : gv = true ∧ l = []
    · obtain ⟨rfl, rfl⟩ := hg
      go_wp2_with fail
      refine bodyPost_ret (v := .tuple #[.pointer none, .bool false]) (by simp [results, Try.results25, go_sem]) rfl ⟨HS1.out.below, .inr ⟨fun h => h.2.2.1 ⟨rfl, rfl⟩, rfl⟩⟩
    · have HG0 := Lib.hid hg
      have hcase : gv = false ∨ (gv = true ∧ ((l.length : Int) == 0) = false) := by
        cases gv with
        | false => exact .inl rfl
        | true =>
          right
          refine ⟨rfl, ?_⟩
          have := List.length_pos_iff.2 (fun e => hg ⟨rfl, e⟩)
          rw [beq_eq_false_iff_ne]
          omega
      clear hg
      go_upto_region 2 with fail
      go_cut [22] (fun t wx => t = .bool false ∧ LdState pre ρ w q (l.map Prod.fst) 0 wx)
      case first =>
        rcases hcase with rfl | ⟨rfl, hz⟩
        all_goals
          go_wp2_with fail
          go_meet
          case rel => exact ⟨rfl, HS1.out⟩
      case rest =>
        obtain ⟨rfl, hs2⟩ := hcut
        have HS2 := Lib.hid hs2
        clear hs2
        go_wp2_with fail
        go_loopg [25] l.length (fun g i wr => ∃ k : Nat, g = l.length - k ∧ i = .int .i64 k ∧ k ≤ l.length ∧ LdState pre ρ w q (l.map Prod.fst) k wr)
        case atStart => exact ⟨0, rfl, rfl, Nat.zero_le _, HS2.out⟩
        case round =>
          obtain ⟨k, hg, rfl, hk, hS⟩ := hrel
          have HG := Lib.hid hg
          have HS := Lib.hid hS
          clear hg hS
          by_cases hlt : k < l.length
          · obtain ⟨⟨x, vx⟩, hp⟩ : ∃ p, l[k]? = some p := ⟨_, List.getElem?_eq_getElem hlt⟩
            have HP := Lib.hid hp
            have HX := Lib.hid (show (l.map Prod.fst)[k]? = some x by rw [List.getElem?_map, hp]; rfl)
            obtain ⟨g, off, cap', hv, _, c0, c1, c2, c3⟩ := (HL.out.below HS.out.below).at hp
            cases hv
            simp only at c0 c1 c2 c3
            have HIT := Lib.hid (HL.out.its _ (List.mem_of_getElem? hp))
            obtain ⟨ax, cx, rfl⟩ : ∃ ax cx, vx = .slice ax x.its.length cx := its_form (HL.out.its _ (List.mem_of_getElem? hp))
            have hkl : (k : Int) < (l.length : Int) := by omega
            clear hp
            go_upto_region 7 with fail
            obtain ⟨w2, hw2⟩ : ∃ w2 : World, w2 = wr.alloc (.cells #[.int .i64 x.id, .int .i64 x.wt, .int .i64 x.df, .slice ax x.its.length cx] 48) := ⟨_, rfl⟩
            obtain ⟨bx, hbx⟩ : ∃ bx : Nat, bx = wr.heap.size := ⟨_, rfl⟩
            rw [← hw2, ← hbx]
            have hB2 : Below wr.heap.size wr w2 := by rw [hw2]; exact box_below
            obtain ⟨k0, k1, k2, k3⟩ := rowO_cells (w := w2) (b := bx) (x := x) (vi := .slice ax x.its.length cx) (by rw [hw2, hbx]; exact fr_alloc_at)
            have HB2 := Lib.hid hB2
            clear hw2 hbx hB2 c0 c1 c2 c3
            go_wp2_with fail
            obtain ⟨ρ', hl', hn', hR'⟩ := HS.out.ring
            have HL' := Lib.hid hl'
            have HN' := Lib.hid hn'
            have hbel2 := HS.out.below.trans (HB2.out.mono HS.out.below.size)
            have hit2 := HIT.out.below hbel2
            have hig2 : x.its ≠ [] → ∀ j, (Value.slice ax x.its.length cx).ownBlock = some j → ¬ Part ρ' pre j := fun hne j hj hp => by
              have hjw := its_lt HIT.out hne j hj
              exact HFR.out j hjw (later_part hl' hjw hp)
            have hfew := tot_take (l.map Prod.fst) k HX.out
            have hok2 := HOK.out _ (List.mem_of_getElem? HP.out)
            refine (flowLoadRow hpre x _ w2 (hR'.below HB2.out) hit2 hig2 hok2.1 hok2.2 (by have := HF.out; omega)).mono ?_
            rintro e w3 ⟨r, rows', ρ3, rfl, hr, hl3, hn3, hR3, hF3, hrows⟩
            have hl03 : Later ρ ρ3 w := later_trans hl' hl3 hbel2.size
            have hn03 : NewRoles ρ3 pre w.heap.size := news_trans hn' hl3 hn3
            have hb03 : Below w.heap.size w w3 := hbel2.trans (hF3.below hbel2.size (fun j hj hp => HFR.out j hj (later_part hl' hj hp)))
            have HB3 := Lib.hid hb03
            have HRR := Lib.hid hr
            cases r with
            | true =>
              have HS3 := Lib.hid (show LdState pre ρ w q (l.map Prod.fst) (k + 1) w3 from ⟨⟨ρ3, hl03, hn03, by
                  have e : (l.map Prod.fst).take (k + 1) = (l.map Prod.fst).take k ++ [x] := by
                    have hkm : k < (l.map Prod.fst).length := by rw [List.length_map]; exact hlt
                    rw [List.take_succ_eq_append_getElem hkm, (List.getElem?_eq_some_iff.1 HX.out).2]
                  rw [e, ← hrows rfl]
                  exact hR3⟩, hb03, fun i z hi hz => by
                  rcases Nat.lt_or_ge i k with h | h
                  · exact HS.out.ok i z h hz
                  · obtain rfl : i = k := by omega
                    obtain rfl : x = z := Option.some.inj (HX.out.symm.trans hz)
                    exact hr.1 rfl⟩)
              clear hl' hn' hR' hbel2 hit2 hig2 hfew hok2 hr hl3 hn3 hR3 hF3 hrows hl03 hn03 hb03 k0 k1 k2 k3
              go_wp2_with fail
              go_roundg (l.length - (k + 1))
              case rel =>
                have hlen := HLEN.out
                exact ⟨k + 1, rfl, by rw [show wrap64 ((k : Int) + 1) = ((k + 1 : Nat) : Int) by unfold wrap64; omega], by omega, HS3.out⟩
              case measure => have := HG.out; omega
            | false =>
              have HNOT := Lib.hid (show ¬ okL q gv (l.map Prod.fst) from fun h => absurd (hr.2 (h.2.2.2 k x HX.out)) (by decide))
              clear hl' hn' hR' hbel2 hit2 hig2 hfew hok2 hr hl3 hn3 hR3 hF3 hrows hl03 hn03 hb03 k0 k1 k2 k3
              go_wp2_with fail
              exact bodyPost_ret (v := .tuple #[.pointer none, .bool false]) (by simp [results, Try.results25, go_sem]) rfl ⟨HB3.out, .inr ⟨HNOT.out, rfl⟩⟩
          · have hkk : (l.map Prod.fst).take k = l.map Prod.fst := List.take_of_length_le (by rw [List.length_map]; omega)
            have HOKL := Lib.hid (show okL q gv (l.map Prod.fst) from ⟨HQ.out.1, HQ.out.2, fun h => HG0.out ⟨h.1, by simpa using h.2⟩, fun i x hx => HS.out.ok i x (by have := (List.getElem?_eq_some_iff.1 hx).1; rw [List.length_map] at this; omega) hx⟩)
            obtain ⟨ρ', hl', hn', hR'⟩ := HS.out.ring
            rw [hkk] at hR'
            obtain ⟨sp, v', ns, qb, its, hr', hrows⟩ := hR'
            have HR' := Lib.hid hr'
            have HL' := Lib.hid hl'
            have HN' := Lib.hid hn'
            have HROWS := Lib.hid hrows
            have e0 := hr'.c0
            have s2 := hr'.spin.c2
            have f2 : wr.frozen? ⟨sp, 2, none⟩ = false := fr_free_of_heap hr'.spin.head
            clear hl' hn' hr' hrows hkk
            go_wp2_with fail
            obtain ⟨hset, hF⟩ := ring_setGiven HR'.out gv
            rw [← HROWS.out] at hset
            refine bodyPost_ret (v := .tuple #[.pointer (some ⟨w.heap.size + 1, 0, none⟩), .bool true]) (by simp [results, Try.results25, go_sem]) rfl ⟨HS.out.below.trans (hF.below HS.out.below.size (fun j hj e => ?_)), .inl ⟨HOKL.out, w.heap.size + 1, ρ', rfl, HL'.out, HN'.out, hset, by omega⟩⟩
            rw [e] at hj
            exact HFR.out sp hj (later_part HL'.out hj ⟨[1], HR'.out.spin.rs⟩)
  · have HQ := Lib.hid hq
    clear hq
    go_enter Try.func25, Try.ntmps25
    go_wp2_with fail
    refine (flowNew_nil q _ HQ.out).mono ?_
    rintro e w1 ⟨rfl, hb1⟩
    have HB1 := Lib.hid hb1
    clear hb1
    go_wp2_with fail
    refine bodyPost_ret (v := .tuple #[.pointer none, .bool false]) (by simp [results, Try.results25, go_sem]) rfl ⟨HB1.out, .inr ⟨fun h => HQ.out ⟨h.1, h.2.1⟩, rfl⟩⟩
end
end Go.Proofs.Ytohkchilogmneaa
