/-
  share.Load: the walk.
-/
import Derived.Test.YtohkchilogmneaaLoad16
import Derived.Test.YtohkchilogmneaaLaw16All
namespace Go.Proofs.Ytohkchilogmneaa
open Go.RowKit Go.Sort

theorem share_setGiven {pre : List Int} {ρ : Roles} {w : World} {f sp : Nat} {q : Int} {v : Value} {ns : List Nd} {fb : Int → Nat} {a : Int → Bool × List FRow} (h : ShAt pre ρ w f sp q false v ns fb a) (g : Bool) :
    ShareAt pre ρ (w.setCell ⟨sp, 2, none⟩ (.bool g)) f q g (ns.map (trowOf a)) ∧ Fp (fun j => j = sp) w (w.setCell ⟨sp, 2, none⟩ (.bool g)) := by
  have hF : Fp (fun j => j = sp) w (w.setCell ⟨sp, 2, none⟩ (.bool g)) := (Fp.refl (fun j => j = sp) w).setCell (p := ⟨sp, 2, none⟩) (fun _ => rfl) _
  have hg := ndsOk_false.1 h.pre'.good
  refine ⟨⟨sp, v, ns, fb, a, ⟨⟨hF.heap h.pre'.head (fun e => ?_), h.pre'.rf, spin_given h.pre'.spin hF (fr_setCell_at h.pre'.spin.head), h.pre'.src, fun n hn => (h.pre'.ring n hn).frame hF (fun k _ ⟨s, hs⟩ e => ?_), h.pre'.q1, h.pre'.q2, ?_, h.pre'.idok⟩, h.full⟩, rfl⟩, hF⟩
  · have h1 := h.pre'.rf
    rw [e, h.pre'.spin.rs] at h1
    simp at h1
  · rw [e, h.pre'.spin.rs] at hs
    simp at hs
  · cases ns with
    | nil => trivial
    | cons n r => exact ⟨(hg n List.mem_cons_self).mono (by split <;> omega), fun m hm => hg m (List.mem_cons_of_mem _ hm)⟩
/-- What Load leaves. -/
def LoadTPost (pre : List Int) (ρ : Roles) (w : World) (q : Int) (gv : Bool) (rows : List TRow) (e : Ending) (w' : World) : Prop :=
  Below w.heap.size w w' ∧ ((okTL q gv rows ∧ ∃ f ρ', e = .returned (.tuple #[.pointer (some ⟨f, 0, none⟩), .bool true]) ∧ Later ρ ρ' w ∧ NewRoles ρ' pre w.heap.size ∧ ShareAt pre ρ' w' f q gv rows ∧ w.heap.size ≤ f) ∨ (¬ okTL q gv rows ∧ e = .returned (.tuple #[.pointer none, .bool false])))
/-- Where Load stands. -/
structure LdTState (pre : List Int) (ρ : Roles) (w : World) (q : Int) (rows : List TRow) (k : Nat) (wr : World) : Prop where
  ring : ∃ ρ', Later ρ ρ' w ∧ NewRoles ρ' pre w.heap.size ∧ ShareAt pre ρ' wr (w.heap.size + 1) q false (rows.take k)
  below : Below w.heap.size w wr
  ok : ∀ (i : Nat) x, i < k → rows[i]? = some x → okTIn q (rows.take i) x
theorem loadT_start {pre : List Int} {ρ : Roles} {q : Int} {w w1 : World} (h1 : 1 ≤ q) (h2 : q ≤ 64) (rows : List TRow) (hw : w1 = (w.alloc (.cells #[.int .i64 q, .slice none 0 0, .bool false] 100)).alloc (.cells #[.pointer (some ⟨w.heap.size, 0, none⟩)] 131)) : LdTState pre ρ w q rows 0 w1 := by
  refine ⟨⟨fun k => if k < w.heap.size then ρ k else if k = w.heap.size then pre ++ [1] else if k = w.heap.size + 1 then pre ++ [6] else [], fun k hk => by simp [hk], fun k hk => ?_, by rw [hw]; exact shareNew_at w h1 h2 (by simp) (by simp [show ¬ w.heap.size + 1 < w.heap.size by omega])⟩, by rw [hw]; exact box_below.alloc (by simp) _, fun i x hi => by omega⟩
  unfold Part
  by_cases e1 : k = w.heap.size
  · subst e1
    exact .inr ⟨[1], by simp⟩
  · by_cases e2 : k = w.heap.size + 1
    · subst e2
      exact .inr ⟨[6], by simp [show ¬ w.heap.size + 1 < w.heap.size by omega]⟩
    · exact .inl (by simp [e1, e2, Nat.not_lt.2 hk])
/-- What holds of the numbers of a row that is loaded. -/
def TRowNum (p : TV) : Prop := I64 p.1.id ∧ ∀ r ∈ p.2.2, I64 r.1.id ∧ ∀ y ∈ r.1.its, I64 y.id
section
variable {pre : List Int} {ρ : Roles}
set_option maxRecDepth 100000 in
set_option maxHeartbeats 8000000 in
/-- THE WALK: Load, no role of that part being there. -/
theorem shareLoad_any0 (q : Int) (gv : Bool) (v : Value) (l : List TV) (w : World) (hl : TRowsAt w v l) (hfr : ∀ k, k < w.heap.size → ¬ Part ρ pre k) (hok : ∀ p ∈ l, TRowNum p) (hf : totT (l.map Prod.fst) < 1000000) (hlen : l.length < 1000000) (hlens : ∀ p ∈ l, p.2.2.length < 1000000) :
    Calls Try.prog 43 #[.int .i64 q, v, .bool gv] w (LoadTPost pre ρ w q gv (l.map Prod.fst)) := by
  obtain ⟨a, cap, rfl, -⟩ := hl.form
  have HL := Lib.hid hl
  have HFR := Lib.hid hfr
  have HOK := Lib.hid hok
  have HF := Lib.hid hf
  have HLEN := Lib.hid hlen
  have HLENS := Lib.hid hlens
  clear hl hfr hok hf hlen hlens
  by_cases hq : 1 ≤ q ∧ q ≤ 64
  · have HQ := Lib.hid hq
    clear hq
    go_enter Try.func43, Try.ntmps43
    go_wp2_with fail
    refine (shareNew_any q _ HQ.out.1 HQ.out.2).mono ?_
    rintro e w1 ⟨rfl, hw1⟩
    have HS1 := Lib.hid (loadT_start (pre := pre) (ρ := ρ) HQ.out.1 HQ.out.2 (l.map Prod.fst) hw1)
    clear hw1
    by_cases hg : gv = true ∧ l = []
    · obtain ⟨rfl, rfl⟩ := hg
      go_wp2_with fail
      refine bodyPost_ret (v := .tuple #[.pointer none, .bool false]) (by simp [results, Try.results43, go_sem]) rfl ⟨HS1.out.below, .inr ⟨fun h => h.2.2.1 ⟨rfl, rfl⟩, rfl⟩⟩
    · have HG0 := Lib.hid hg
      have hcase : gv = false ∨ (gv = true ∧ ((l.length : Int) == 0) = false) := by
        cases gv with
        | false => exact .inl rfl
        | true =>
          right
          refine ⟨rfl, ?_⟩
          have := List.length_pos_iff.2 (fun e => hg ⟨rfl, e⟩)
          rw [beq_eq_false_iff_ne]
          omega
      clear hg
      go_upto_region 2 with fail
      go_cut [22] (fun t wx => t = .bool false ∧ LdTState pre ρ w q (l.map Prod.fst) 0 wx)
      case first =>
        rcases hcase with rfl | ⟨rfl, hz⟩
        all_goals
          go_wp2_with fail
          go_meet
          case rel => exact ⟨rfl, HS1.out⟩
      case rest =>
        obtain ⟨rfl, hs2⟩ := hcut
        have HS2 := Lib.hid hs2
        clear hs2
        go_wp2_with fail
        go_loopg [25] l.length (fun g i wr => ∃ k : Nat, g = l.length - k ∧ i = .int .i64 k ∧ k ≤ l.length ∧ LdTState pre ρ w q (l.map Prod.fst) k wr)
        case atStart => exact ⟨0, rfl, rfl, Nat.zero_le _, HS2.out⟩
        case round =>
          obtain ⟨k, hg, rfl, hk, hS⟩ := hrel
          have HG := Lib.hid hg
          have HS := Lib.hid hS
          clear hg hS
          by_cases hlt : k < l.length
          · obtain ⟨⟨x, vx, li⟩, hp⟩ : ∃ p, l[k]? = some p := ⟨_, List.getElem?_eq_getElem hlt⟩
            have hmem := List.mem_of_getElem? hp
            have HX := Lib.hid (show (l.map Prod.fst)[k]? = some x by rw [List.getElem?_map, hp]; rfl)
            obtain ⟨g, off, cap', hv, _, c0, c1, c2, c3, c4⟩ := (HL.out.below HS.out.below).at hp
            cases hv
            simp only at c0 c1 c2 c3 c4
            have hin := HL.out.inv _ hmem
            have HIN := Lib.hid (show RowsAt w vx li ∧ li.map Prod.fst = x.rows from hin)
            obtain ⟨ax, cx, hvx, -⟩ := hin.1.form
            simp only at hvx
            subst hvx
            have HNUM := Lib.hid (HOK.out _ hmem)
            have HLI := Lib.hid (HLENS.out _ hmem)
            have hkl : (k : Int) < (l.length : Int) := by omega
            clear hp hmem hin
            go_upto_region 7 with fail
            obtain ⟨w2, hw2⟩ : ∃ w2 : World, w2 = wr.alloc (.cells #[.int .i64 x.id, .int .i64 x.wt, .int .i64 x.df, .slice ax li.length cx, .bool x.gv] 143) := ⟨_, rfl⟩
            obtain ⟨bx, hbx⟩ : ∃ bx : Nat, bx = wr.heap.size := ⟨_, rfl⟩
            rw [← hw2, ← hbx]
            have HB2 := Lib.hid (show Below wr.heap.size wr w2 by rw [hw2]; exact box_below)
            obtain ⟨k0, k1, k2, k3, k4⟩ := rowT_cells (w := w2) (b := bx) (x := x) (vr := .slice ax li.length cx) (by rw [hw2, hbx]; exact fr_alloc_at)
            clear hw2 hbx c0 c1 c2 c3 c4
            go_wp2_with fail
            obtain ⟨ρ', hl', hn', hR'⟩ := HS.out.ring
            have hbel2 := HS.out.below.trans (HB2.out.mono HS.out.below.size)
            have htm := totT_mem (List.mem_of_getElem? HX.out)
            refine (shareLoadRow_any x _ li _ w2 (hR'.below HB2.out) (HIN.out.1.below hbel2) HIN.out.2 (fun p hp => HNUM.out.2 p hp) HNUM.out.1 (Nat.lt_of_le_of_lt htm HF.out) HLI.out (by have h := HLEN.out; rw [List.length_take, List.length_map]; omega)).mono ?_
            rintro e w3 ⟨hF3, ⟨hin3, rfl, ρ3, hl3, hn3, hR3⟩ | ⟨hno3, rfl⟩⟩
            · have hl03 : Later ρ ρ3 w := later_trans hl' hl3 hbel2.size
              have hn03 : NewRoles ρ3 pre w.heap.size := news_trans hn' hl3 hn3
              have hb03 : Below w.heap.size w w3 := hbel2.trans (hF3.below hbel2.size (fun j hj hp => HFR.out j hj (later_part hl' hj hp)))
              have HS3 := Lib.hid (show LdTState pre ρ w q (l.map Prod.fst) (k + 1) w3 from ⟨⟨ρ3, hl03, hn03, by
                  have e : (l.map Prod.fst).take (k + 1) = (l.map Prod.fst).take k ++ [x] := by
                    have hkm : k < (l.map Prod.fst).length := by rw [List.length_map]; exact hlt
                    rw [List.take_succ_eq_append_getElem hkm, (List.getElem?_eq_some_iff.1 HX.out).2]
                  rw [e]
                  exact hR3⟩, hb03, fun i z hi hz => by
                  rcases Nat.lt_or_ge i k with h | h
                  · exact HS.out.ok i z h hz
                  · obtain rfl : i = k := by omega
                    obtain rfl : x = z := Option.some.inj (HX.out.symm.trans hz)
                    exact hin3⟩)
              clear hl' hn' hR' hbel2 hl3 hn3 hR3 hF3 hl03 hn03 hb03 k0 k1 k2 k3 k4 hin3 htm
              go_wp2_with fail
              go_roundg (l.length - (k + 1))
              case rel =>
                have hlen := HLEN.out
                exact ⟨k + 1, rfl, by rw [show wrap64 ((k : Int) + 1) = ((k + 1 : Nat) : Int) by unfold wrap64; omega], by omega, HS3.out⟩
              case measure => have := HG.out; omega
            · have HB3 := Lib.hid (hbel2.trans (hF3.below hbel2.size (fun j hj hp => HFR.out j hj (later_part hl' hj hp))))
              have HNOT := Lib.hid (show ¬ okTL q gv (l.map Prod.fst) from fun h => hno3 (h.2.2.2 k x HX.out))
              clear hl' hn' hR' hbel2 hF3 k0 k1 k2 k3 k4 hno3 htm
              go_wp2_with fail
              exact bodyPost_ret (v := .tuple #[.pointer none, .bool false]) (by simp [results, Try.results43, go_sem]) rfl ⟨HB3.out, .inr ⟨HNOT.out, rfl⟩⟩
          · have hkk : (l.map Prod.fst).take k = l.map Prod.fst := List.take_of_length_le (by rw [List.length_map]; omega)
            have HOKL := Lib.hid (show okTL q gv (l.map Prod.fst) from ⟨HQ.out.1, HQ.out.2, fun h => HG0.out ⟨h.1, by simpa using h.2⟩, fun i x hx => HS.out.ok i x (by have := (List.getElem?_eq_some_iff.1 hx).1; rw [List.length_map] at this; omega) hx⟩)
            obtain ⟨ρ', hl', hn', hR'⟩ := HS.out.ring
            rw [hkk] at hR'
            obtain ⟨sp, v', ns, fb, af, hr', hrows⟩ := hR'
            have HR' := Lib.hid hr'
            have HL' := Lib.hid hl'
            have HN' := Lib.hid hn'
            have HROWS := Lib.hid hrows
            have e0 := hr'.pre'.c0
            have s2 := hr'.pre'.spin.c2
            have f2 : wr.frozen? ⟨sp, 2, none⟩ = false := fr_free_of_heap hr'.pre'.spin.head
            clear hl' hn' hr' hrows hkk
            go_wp2_with fail
            obtain ⟨hset, hF⟩ := share_setGiven HR'.out gv
            rw [← HROWS.out] at hset
            refine bodyPost_ret (v := .tuple #[.pointer (some ⟨w.heap.size + 1, 0, none⟩), .bool true]) (by simp [results, Try.results43, go_sem]) rfl ⟨HS.out.below.trans (hF.below HS.out.below.size (fun j hj e => ?_)), .inl ⟨HOKL.out, w.heap.size + 1, ρ', rfl, HL'.out, HN'.out, hset, by omega⟩⟩
            rw [e] at hj
            exact HFR.out sp hj (later_part HL'.out hj ⟨[1], HR'.out.pre'.spin.rs⟩)
  · have HQ := Lib.hid hq
    clear hq
    go_enter Try.func43, Try.ntmps43
    go_wp2_with fail
    refine (shareNew_nil q _ HQ.out).mono ?_
    rintro e w1 ⟨rfl, hb1⟩
    have HB1 := Lib.hid hb1
    clear hb1
    go_wp2_with fail
    refine bodyPost_ret (v := .tuple #[.pointer none, .bool false]) (by simp [results, Try.results43, go_sem]) rfl ⟨HB1.out, .inr ⟨fun h => HQ.out ⟨h.1, h.2.1⟩, rfl⟩⟩
end
theorem ShareAt.rerole {pre : List Int} {ρ ρ' : Roles} {w : World} {f : Nat} {q : Int} {gv : Bool} {rows : List TRow} (h : ShareAt pre ρ w f q gv rows) (he : ∀ k, ρ k ≠ [] → ρ' k = ρ k) : ShareAt pre ρ' w f q gv rows := by
  obtain ⟨sp, v, ns, fb, a, h, e⟩ := h
  exact ⟨sp, v, ns, fb, a, ⟨⟨h.pre'.head, (he f (by rw [h.pre'.rf]; simp)).trans h.pre'.rf, h.pre'.spin.rerole he, h.pre'.src, fun n hn => (h.pre'.ring n hn).rerole he, h.pre'.q1, h.pre'.q2, h.pre'.good, h.pre'.idok⟩, h.full⟩, e⟩
/-- THE LAW: Load, whatever roles there are. -/
theorem shareLoad_any {pre : List Int} {ρ : Roles} (hpre : pre ≠ []) (q : Int) (gv : Bool) (v : Value) (l : List TV) (w : World) (hl : TRowsAt w v l) (hok : ∀ p ∈ l, TRowNum p) (hf : totT (l.map Prod.fst) < 1000000) (hlen : l.length < 1000000) (hlens : ∀ p ∈ l, p.2.2.length < 1000000) :
    Calls Try.prog 43 #[.int .i64 q, v, .bool gv] w (LoadTPost pre ρ w q gv (l.map Prod.fst)) := by
  refine (shareLoad_any0 (ρ := fun _ => []) q gv v l w hl (fun k _ ⟨s, hs⟩ => hpre (List.append_eq_nil_iff.1 hs.symm).1) hok hf hlen hlens).mono ?_
  rintro e w' ⟨hb, ⟨ho, f, ρ', rfl, hl, hn, hR, hf⟩ | ⟨ho, rfl⟩⟩
  · refine ⟨hb, .inl ⟨ho, f, fun k => if k < w.heap.size then ρ k else ρ' k, rfl, fun k hk => by simp [hk], fun k hk => ?_, hR.rerole (fun k hk => ?_), hf⟩⟩
    · unfold Part
      simp only [if_neg (Nat.not_lt.2 hk)]
      exact hn k hk
    · rcases Nat.lt_or_ge k w.heap.size with h | h
      · exact absurd (hl k h) hk
      · simp [Nat.not_lt.2 h]
  · exact ⟨hb, .inr ⟨ho, rfl⟩⟩
end Go.Proofs.Ytohkchilogmneaa
