/-
  flow.Ring: Push that may be: the walks.
-/
import Derived.Test.YtohkchilogmneaaFlow6
namespace Go.Proofs.Ytohkchilogmneaa
open Go.RowKit

section
variable {pre : List Int} {ρ : Roles} {f sp : Nat} {q : Int} {gv : Bool} {v : Value} {ns : List Nd} {qb : Int → Nat} {its : Int → List It} {rows : List FRow}
theorem notBad {id wt : Int} (h : ¬ argBad id wt) : ¬ id < 0 ∧ ¬ wt < 1 ∧ ¬ 16 < wt := by unfold argBad at h; omega
set_option maxRecDepth 100000 in
set_option maxHeartbeats 2000000 in
/-- THE WALK: Push into a flow that is there. -/
theorem flowPush_old (hpre : pre ≠ []) (k : Nat) (r : FRow) (x : It) (w : World) (hR : RingAt pre ρ w f q gv rows) (hr : rows[k]? = some r) (hx : I64 x.id) (hb : ¬ argBad r.id r.wt) (h0 : itE r.its x = 0) (hf : r.its.length < 1000000) :
    Calls Try.prog 13 #[.pointer (some ⟨f, 0, none⟩), .int .i64 r.id, .int .i64 r.wt, .agg #[.int .i64 x.id, .int .i64 x.cost]] w (RPushPost pre ρ w f q gv (rows.set k { r with its := r.its ++ [x] })) := by
  obtain ⟨sp, v, ns, qb, its, hr0, rfl⟩ := hR
  obtain ⟨n, hn, rfl⟩ := hr0.rowAt hr
  have HR0 := Lib.hid hr0
  have HR := Lib.hid ((hr0.later (fence_later ρ w)).below (box_below (o := .cells #[.int .i64 x.id, .int .i64 x.cost] 37)))
  have HN := Lib.hid hn
  have HX := Lib.hid hx
  have HE := Lib.hid (show itE (its n.id) x = 0 from h0)
  have HF := Lib.hid (show (its n.id).length < 1000000 from hf)
  have c0 := hr0.c0
  have hfw := fp_lt_of_heap hr0.head
  obtain ⟨b0, b1, b2⟩ := notBad (show ¬ argBad n.id n.wt from hb)
  have heq : (n.wt != n.wt) = false := by simp
  rw [show (rowOf its n).id = n.id from rfl, show (rowOf its n).wt = n.wt from rfl]
  clear hr0 hn hx h0 hf hb hr
  go_enter Try.func13, Try.ntmps13
  go_wp2_with fail
  refine (flowOk_any (sp := sp) _ HR.out.c0).mono ?_
  rintro e w1 ⟨rfl, rfl⟩
  go_wp2_with fail
  refine (flowQueue_some n.id k n _ HR.out HN.out rfl).mono ?_
  rintro e w1 ⟨rfl, hb⟩
  have HB := Lib.hid (box_below2 hb)
  have HR1 := Lib.hid (HR.out.below hb)
  have hh1 := (hb.block w.heap.size (by simp)).trans fr_alloc_at
  have a0 : w1.cell? ⟨w.heap.size, 0, none⟩ = some (.int .i64 x.id) := fr_cell_of_heap hh1 rfl
  have a1 : w1.cell? ⟨w.heap.size, 1, none⟩ = some (.int .i64 x.cost) := fr_cell_of_heap hh1 rfl
  have n1 : w1.cell? ⟨n.blk, 1, none⟩ = some (.int .i64 n.wt) := cell_below hb (fr_cell_of_heap (HR.out.spin.node k n HN.out).2 rfl)
  clear hb c0 hh1
  go_wp2_with fail
  refine (fifoPush_ok x _ (HR1.out.que n (List.mem_of_getElem? HN.out)) HX.out HE.out HF.out).mono ?_
  rintro e w3 ⟨rfl, nb, hnb, hnb3, hF3, hQ3⟩
  have HNB := Lib.hid hnb
  have HF3 := Lib.hid hF3
  have HQ3 := Lib.hid hQ3
  clear hnb hnb3 hF3 hQ3 a0 a1 n1
  go_wp2_with fail
  go_ret
  have hz := HB.out.size
  have hl : Later (fence ρ w) (roleAt (fence ρ w) nb (pre ++ [5, n.id] ++ [3, x.id])) w1 := roleAt_later HNB.out
  have hR2 := HR1.out.later hl
  have hon := hR2.spin.once
  have hP := (hR2.pre'.que_turn (n := n) (HF3.out.mono_on (fun k hk ⟨s, hs⟩ => ⟨s, (hl k hk).trans hs⟩)) (HQ3.out _ hl (roleAt_same _ _ _))).full (fun m hm => by
    by_cases e : m.id = n.id
    · rw [e, upd_same]
      simp
    · rw [upd_other _ e]
      exact HR1.out.full m hm)
  refine ⟨rfl, _, fun k hk => ?_, fun k hk => ?_, ⟨sp, v, ns, qb, _, hP, ?_⟩, ?_⟩
  · rw [hl k (by omega), fence_later ρ w k hk]
  · by_cases e : k = nb
    · subst e
      exact .inr ⟨[5, n.id] ++ [3, x.id], by rw [roleAt_same, List.append_assoc]⟩
    · rw [roleAt_other _ e]
      exact .inl (by simp [fence, Nat.not_lt.2 hk])
  · rw [rows_upd hon HN.out]
    rfl
  · exact (Fp.of_below HB.out).trans ((fp_sub HF3.out).mono (fun k hk => fence_part hpre hk)) (fun _ _ h => h)
theorem RAt.other {w w' : World} {id : Int} (h : RAt pre ρ w f sp q gv v ns qb its) (hnew : ∀ m ∈ ns, m.id ≠ id) (hF : Fp (Part ρ (pre ++ [5, id])) w w') : RAt pre ρ w' f sp q gv v ns qb its := by
  refine ⟨hF.heap h.head (fun hp => ?_), h.rf, h.spin.frame hF (fun k _ hs hp => spin_not_in hs (part5_in hp)), h.src, fun m hm => (h.que m hm).frame hF (fun k _ h1 h2 => ?_), h.full, h.q1, h.q2, h.good, h.idok⟩
  · obtain ⟨s, hs⟩ := part5_in hp
    rw [h.rf] at hs
    simp at hs
  · obtain ⟨s, hs⟩ := h1
    obtain ⟨t, ht⟩ := h2
    rw [hs] at ht
    simp at ht
    exact hnew m hm ht.1
theorem ndsOk_snoc {gv : Bool} {ns : List Nd} {m : Nd} (h : NdsOk gv ns) (hm : NdOk 0 m) : NdsOk gv (ns ++ [m]) := by
  cases ns with
  | nil => exact ⟨hm.mono (by split <;> omega), fun y hy => by cases hy⟩
  | cons n r =>
    refine ⟨h.1, fun y hy => ?_⟩
    rcases List.mem_append.1 hy with hy | hy
    · exact h.2 y hy
    · rw [List.mem_singleton] at hy
      subst hy
      exact hm.mono (by omega)
/-- A source joined. -/
theorem flow_joined {w w' : World} {id wt : Int} {l : List It} {qn : Nat} {ρ' : Roles} {v' : Value} (h : RAt pre ρ w f sp q gv v ns qb its) (hnew : ∀ m ∈ ns, m.id ≠ id) (hQ : QueAt (pre ++ [5, id]) ρ w qn l) (hl : l ≠ []) (hid : 0 ≤ id ∧ I64 id) (hw1 : 1 ≤ wt) (hw : wt ≤ 16)
    (hF : Fp (SpinPart ρ pre) w w') (hL : Later ρ ρ' w) (hS : SpinAt pre ρ' w' sp q gv v' (ns ++ [⟨id, wt, 0, w.heap.size, srcV qn⟩])) :
    RingAt pre ρ' w' f q gv (ns.map (rowOf its) ++ [⟨id, wt, 0, l⟩]) := by
  have h' := h.later hL
  have hF' : Fp (SpinPart ρ' pre) w w' := hF.mono_on (fun k hk hs => by
    unfold SpinPart at hs ⊢
    rw [hL k hk]
    exact hs)
  refine ⟨sp, v', _, upd qb id qn, upd its id l, ⟨hF'.heap h'.head (fun hs => ?_), h'.rf, hS, fun m hm => ?_, fun m hm => ?_, fun m hm => ?_, h.q1, h.q2, ndsOk_snoc h.good ⟨hw1, hw, Int.le_refl _, Int.le_refl _⟩, fun m hm => ?_⟩, ?_⟩
  · have h1 := h'.rf
    rcases hs with h2 | h2 | ⟨_, h2⟩ <;> rw [h1] at h2 <;> simp at h2
  · rcases List.mem_append.1 hm with hm | hm
    · rw [upd_other _ (hnew m hm)]
      exact h.src m hm
    · rw [List.mem_singleton] at hm
      subst hm
      rw [upd_same]
  · rcases List.mem_append.1 hm with hm | hm
    · rw [upd_other _ (hnew m hm), upd_other _ (hnew m hm)]
      exact (h'.que m hm).frame hF' (fun k _ hp hs => spin_not_in hs (part5_in hp))
    · rw [List.mem_singleton] at hm
      subst hm
      rw [upd_same, upd_same]
      exact (hQ.later hL).frame hF' (fun k _ hp hs => spin_not_in hs (part5_in hp))
  · rcases List.mem_append.1 hm with hm | hm
    · rw [upd_other _ (hnew m hm)]
      exact h.full m hm
    · rw [List.mem_singleton] at hm
      subst hm
      rw [upd_same]
      exact hl
  · rcases List.mem_append.1 hm with hm | hm
    · exact h.idok m hm
    · rw [List.mem_singleton] at hm
      subst hm
      exact hid
  · rw [List.map_append]
    congr 1
    · exact List.map_congr_left (fun m hm => by
        unfold rowOf
        rw [upd_other _ (hnew m hm)])
    · simp [rowOf, upd_same]
set_option maxRecDepth 100000 in
set_option maxHeartbeats 2000000 in
/-- THE WALK: Push into a flow that is new. -/
theorem flowPush_new (_hpre : pre ≠ []) (id wt : Int) (x : It) (w : World) (hR : RingAt pre ρ w f q gv rows) (hn : atF id rows = none) (hid : I64 id) (hx : I64 x.id) (hb : ¬ argBad id wt) (h0 : itE [] x = 0) (hf : rows.length < 1000000) :
    Calls Try.prog 13 #[.pointer (some ⟨f, 0, none⟩), .int .i64 id, .int .i64 wt, .agg #[.int .i64 x.id, .int .i64 x.cost]] w (RPushPost pre ρ w f q gv (rows ++ [⟨id, wt, 0, [x]⟩])) := by
  obtain ⟨sp, v, ns, qb, its, hr0, rfl⟩ := hR
  have h1 : ∀ n ∈ ns, n.id ≠ id := by
    rcases hr0.cases id with ⟨h1, -⟩ | ⟨k, n, _, _, h2⟩
    · exact h1
    · rw [h2] at hn
      cases hn
  have HR0 := Lib.hid hr0
  have HR := Lib.hid ((hr0.later (fence_later ρ w)).below (box_below (o := .cells #[.int .i64 x.id, .int .i64 x.cost] 37)))
  have H1 := Lib.hid h1
  have HX := Lib.hid hx
  have HI := Lib.hid hid
  have HE := Lib.hid h0
  have HF := Lib.hid (show ns.length < 1000000 by rw [List.length_map] at hf; exact hf)
  have c0 := hr0.c0
  have hfw := fp_lt_of_heap hr0.head
  obtain ⟨b0, b1, b2⟩ := notBad hb
  clear hr0 hn hx h0 hf hb h1 hid
  go_enter Try.func13, Try.ntmps13
  go_wp2_with fail
  refine (flowOk_any (sp := sp) _ HR.out.c0).mono ?_
  rintro e w1 ⟨rfl, rfl⟩
  go_wp2_with fail
  refine (flowQueue_none id _ HR.out H1.out).mono ?_
  rintro e w1 ⟨rfl, hb⟩
  have HB := Lib.hid (box_below2 hb)
  have HR1 := Lib.hid (HR.out.below hb)
  have HH1 := Lib.hid ((hb.block w.heap.size (by simp)).trans fr_alloc_at)
  clear hb c0
  go_wp2_with fail
  refine (fifoNew_any _).mono ?_
  rintro e w2 ⟨rfl, hw2⟩
  have hz2 : w2.heap.size = w1.heap.size + 2 := by rw [hw2]; simp
  have HZ2 := Lib.hid hz2
  have HB2 := Lib.hid (show Below w1.heap.size w1 w2 by rw [hw2]; exact box_below.alloc (by simp) _)
  obtain ⟨ρ1, hρ1⟩ : ∃ ρ1, ρ1 = roleAt (roleAt (fence ρ w) w1.heap.size (pre ++ [5, id] ++ [2])) (w1.heap.size + 1) (pre ++ [5, id] ++ [1]) := ⟨_, rfl⟩
  have HQ2 := Lib.hid (show QueAt (pre ++ [5, id]) ρ1 w2 (w1.heap.size + 1) [] by
    rw [hw2, hρ1]
    exact fifoNew_at w1 (roleAt_same _ _ _) ((roleAt_other _ (by omega)).trans (roleAt_same _ _ _)))
  have HL1 := Lib.hid (show Later (fence ρ w) ρ1 w1 by
    rw [hρ1]
    intro k hk
    rw [roleAt_other _ (by omega), roleAt_other _ (by omega)])
  have HRO1 := Lib.hid hρ1
  have hh2 := (HB2.out.block _ (fp_lt_of_heap HH1.out)).trans HH1.out
  have a0 : w2.cell? ⟨w.heap.size, 0, none⟩ = some (.int .i64 x.id) := fr_cell_of_heap hh2 rfl
  have a1 : w2.cell? ⟨w.heap.size, 1, none⟩ = some (.int .i64 x.cost) := fr_cell_of_heap hh2 rfl
  have HR2 := Lib.hid ((HR1.out.later HL1.out).below HB2.out)
  clear hw2 hh2 hz2 hρ1
  go_wp2_with fail
  refine (fifoPush_ok x _ HQ2.out HX.out HE.out (by simp)).mono ?_
  rintro e w3 ⟨rfl, nb, hnb, hnb3, hF3, hQ3⟩
  obtain ⟨ρ2, hρ2⟩ : ∃ ρ2, ρ2 = roleAt ρ1 nb (pre ++ [5, id] ++ [3, x.id]) := ⟨_, rfl⟩
  have hl2 : Later ρ1 ρ2 w2 := by rw [hρ2]; exact roleAt_later hnb
  have HQ3 := Lib.hid (hQ3 ρ2 hl2 (by rw [hρ2]; exact roleAt_same _ _ _))
  have HR3 := Lib.hid ((HR2.out.later hl2).other H1.out (hF3.mono_on (fun k hk ⟨s, hs⟩ => ⟨s, (hl2 k hk).trans hs⟩)))
  have HF3 := Lib.hid hF3
  have HNB := Lib.hid hnb
  have HNB3 := Lib.hid hnb3
  have HL2 := Lib.hid hl2
  have HRO2 := Lib.hid hρ2
  have c0 := HR3.out.c0
  clear hnb hnb3 hF3 hQ3 a0 a1 hl2 hρ2
  go_wp2_with fail
  refine (spinJoin_any id wt 116 (.agg #[.pointer (some ⟨w1.heap.size + 1, 0, none⟩)]) _ HR3.out.spin H1.out HF.out).mono ?_
  rintro e w4 ⟨rfl, hF4, hz4, v', hv', hS4⟩
  have HF4 := Lib.hid hF4
  have HV4 := Lib.hid hv'
  have HS4 := Lib.hid hS4
  clear hF4 hv' hS4 c0
  go_wp2_with fail
  go_ret
  have hz := HB.out.size
  have hz2 := HZ2.out
  have hz3 := HF3.out.size
  obtain ⟨ρ3, hρ3⟩ : ∃ ρ3 : Roles, ρ3 = fun k => if k < w3.heap.size then ρ2 k else if k = w3.heap.size then pre ++ [4, id] else if v'.ownBlock = some k then pre ++ [3] else [] := ⟨_, rfl⟩
  have hl3 : Later ρ2 ρ3 w3 := fun k hk => by rw [hρ3]; simp [hk]
  have hres := flow_joined HR3.out H1.out HQ3.out (by simp) ⟨b0, HI.out⟩ b1 b2 HF4.out hl3 (HS4.out ρ3 hl3 (by rw [hρ3]; simp) (fun k hk hk2 => by
    rw [hρ3]
    have h1 := (HV4.out k hk).1
    simp only [if_neg (Nat.not_lt.2 hk2), if_neg h1, hk, if_true]))
  refine ⟨rfl, ρ3, fun k hk => ?_, fun k hk => ?_, hres, ?_⟩
  · rw [hl3 k (by omega), HL2.out k (by omega), HL1.out k (by omega), fence_later ρ w k hk]
  · rcases Nat.lt_or_ge k w3.heap.size with h3 | h3
    · have e3 := hl3 k h3
      have e2 : ρ2 k = [] ∨ Part ρ2 pre k := by
        rw [HRO2.out]
        by_cases e : k = nb
        · subst e
          exact .inr ⟨[5, id] ++ [3, x.id], by rw [roleAt_same, List.append_assoc]⟩
        · unfold Part
          rw [roleAt_other _ e, HRO1.out]
          by_cases e : k = w1.heap.size + 1
          · subst e
            exact .inr ⟨[5, id] ++ [1], by rw [roleAt_same, List.append_assoc]⟩
          · rw [roleAt_other _ e]
            by_cases e : k = w1.heap.size
            · subst e
              exact .inr ⟨[5, id] ++ [2], by rw [roleAt_same, List.append_assoc]⟩
            · rw [roleAt_other _ e]
              exact .inl (by simp [fence, Nat.not_lt.2 hk])
      rcases e2 with h | ⟨s, h⟩
      · exact .inl (e3.trans h)
      · exact .inr ⟨s, e3.trans h⟩
    · rw [hρ3]
      unfold Part
      simp only [if_neg (Nat.not_lt.2 h3)]
      split
      · exact .inr ⟨_, rfl⟩
      · split
        · exact .inr ⟨_, rfl⟩
        · exact .inl rfl
  · refine (Fp.of_below (S := Part ρ pre) (HB.out.trans (HB2.out.mono HB.out.size))).trans (S' := Part ρ2 pre) (((fp_sub HF3.out).mono_on (fun k hk ⟨s, hs⟩ => ⟨s, (HL2.out k hk).trans hs⟩)).trans (HF4.out.mono (S' := Part ρ2 pre) (fun k hk => spinPart_part hk)) (fun _ _ h => h)) (fun k hk ⟨s, hs⟩ => ⟨s, ?_⟩)
    rw [HL2.out k (by omega), HL1.out k (by omega), fence_later ρ w k hk] at hs
    exact hs
end
end Go.Proofs.Ytohkchilogmneaa
