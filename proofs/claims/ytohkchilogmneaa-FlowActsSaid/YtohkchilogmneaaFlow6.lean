/-
  flow.Ring: Push: the walks.
-/
import Derived.Test.YtohkchilogmneaaFlow5
namespace Go.Proofs.Ytohkchilogmneaa
open Go.RowKit

def argBad (id wt : Int) : Prop := id < 0 ∨ wt < 1 ∨ 16 < wt
instance (id wt : Int) : Decidable (argBad id wt) := by unfold argBad; infer_instance
/-- What Push tells. -/
def pushE (id wt : Int) (x : It) (rows : List FRow) : Int := match atF id rows with
  | some r => if argBad id wt ∨ r.wt ≠ wt then 1 else itE r.its x
  | none => if argBad id wt then 1 else itE [] x
def RPushPost (pre : List Int) (ρ : Roles) (w : World) (f : Nat) (q : Int) (gv : Bool) (rows : List FRow) (e : Ending) (w' : World) : Prop :=
  e = .returned (.int .i64 0) ∧ ∃ ρ', Later ρ ρ' w ∧ NewRoles ρ' pre w.heap.size ∧ RingAt pre ρ' w' f q gv rows ∧ Fp (Part ρ pre) w w'
theorem Fp.mono_on {S S' : Nat → Prop} {w w' : World} (h : Fp S w w') (hs : ∀ k, k < w.heap.size → S k → S' k) : Fp S' w w' := ⟨h.os, h.tape, h.output, h.size, fun k hk hn => h.block k hk (fun hm => hn (hs k hk hm))⟩
section
variable {pre : List Int} {ρ : Roles} {f sp : Nat} {q : Int} {gv : Bool} {v : Value} {ns : List Nd} {qb : Int → Nat} {its : Int → List It} {rows : List FRow}
set_option maxRecDepth 100000 in
set_option maxHeartbeats 2000000 in
/-- Push that may not be. -/
theorem flowPush_bad (id wt : Int) (x : It) (w : World) (hR : RingAt pre ρ w f q gv rows) (hx : I64 x.id) (h : pushE id wt x rows ≠ 0) : Calls Try.prog 13 #[.pointer (some ⟨f, 0, none⟩), .int .i64 id, .int .i64 wt, .agg #[.int .i64 x.id, .int .i64 x.cost]] w fun e w' => e = .returned (.int .i64 (pushE id wt x rows)) ∧ Below w.heap.size w w' := by
  obtain ⟨sp, v, ns, qb, its, hr, rfl⟩ := hR
  have hb0 : ¬ argBad id wt ↔ (¬ id < 0 ∧ ¬ wt < 1 ∧ ¬ 16 < wt) := by unfold argBad; omega
  have hb1 : argBad id wt ↔ (id < 0 ∨ (¬ id < 0 ∧ wt < 1) ∨ (¬ id < 0 ∧ ¬ wt < 1 ∧ 16 < wt)) := by unfold argBad; omega
  have HB0 := Lib.hid hb0
  have HB1 := Lib.hid hb1
  clear hb0 hb1
  have HR := Lib.hid (hr.below (box_below (o := .cells #[.int .i64 x.id, .int .i64 x.cost] 37)))
  have hfw := fp_lt_of_heap hr.head
  have c0 := hr.c0
  have HX := Lib.hid hx
  rcases hr.cases id with ⟨h1, h2⟩ | ⟨k, n, hn, hi, h2⟩
  · have H1 := Lib.hid h1
    unfold pushE at h ⊢
    rw [h2] at h ⊢
    simp only at h ⊢
    clear hr h1 h2 hx
    by_cases hb : argBad id wt
    · rw [if_pos hb]
      have HBB := Lib.hid (HB1.out.1 hb)
      clear h hb
      go_enter Try.func13, Try.ntmps13
      go_wp2_with fail
      refine (flowOk_any (sp := sp) _ HR.out.c0).mono ?_
      rintro e w1 ⟨rfl, rfl⟩
      go_wp2_with fail
      refine (flowQueue_none id _ HR.out H1.out).mono ?_
      rintro e w1 ⟨rfl, hb⟩
      have HB := Lib.hid (box_below2 hb)
      clear hb c0
      go_upto_region 4 with fail
      rcases HBB.out with h0 | ⟨h0, h1⟩ | ⟨h0, h1, h2⟩
      all_goals
        go_wp2_with fail
        go_ret
        exact ⟨rfl, HB.out⟩
    · rw [if_neg hb] at h ⊢
      have HE := Lib.hid h
      obtain ⟨h0, h1, h2⟩ := HB0.out.1 hb
      clear h hb
      go_enter Try.func13, Try.ntmps13
      go_wp2_with fail
      refine (flowOk_any (sp := sp) _ HR.out.c0).mono ?_
      rintro e w1 ⟨rfl, rfl⟩
      go_wp2_with fail
      refine (flowQueue_none id _ HR.out H1.out).mono ?_
      rintro e w1 ⟨rfl, hb⟩
      have HB := Lib.hid (box_below2 hb)
      have hh1 := (hb.block w.heap.size (by simp)).trans fr_alloc_at
      have HH1 := Lib.hid hh1
      clear hb c0 hh1
      go_wp2_with fail
      refine (fifoNew_any _).mono ?_
      rintro e w2 ⟨rfl, hw2⟩
      have HB2 := Lib.hid (show Below w1.heap.size w1 w2 by rw [hw2]; exact box_below.alloc (by simp) _)
      have HQ2 := Lib.hid (show QueAt [0] (roleAt (roleAt (fun _ => []) w1.heap.size ([0] ++ [2])) (w1.heap.size + 1) ([0] ++ [1])) w2 (w1.heap.size + 1) [] by
        rw [hw2]
        exact fifoNew_at w1 (roleAt_same _ _ _) ((roleAt_other _ (by omega)).trans (roleAt_same _ _ _)))
      have hh2 := (HB2.out.block _ (fp_lt_of_heap HH1.out)).trans HH1.out
      have a0 : w2.cell? ⟨w.heap.size, 0, none⟩ = some (.int .i64 x.id) := fr_cell_of_heap hh2 rfl
      have a1 : w2.cell? ⟨w.heap.size, 1, none⟩ = some (.int .i64 x.cost) := fr_cell_of_heap hh2 rfl
      clear hw2 hh2
      go_wp2_with fail
      refine (fifoPush_bad x _ HQ2.out HX.out HE.out).mono ?_
      rintro e w3 ⟨rfl, hb3⟩
      have HB3 := Lib.hid ((HB.out.trans (HB2.out.mono HB.out.size)).trans (hb3.mono (Nat.le_trans HB.out.size HB2.out.size)))
      have hne : (itE [] x == 0) = false := beq_eq_false_iff_ne.2 HE.out
      clear hb3 a0 a1
      go_wp2_with fail
      go_ret
      exact ⟨rfl, HB3.out⟩
  · have HN := Lib.hid hn
    have HI := Lib.hid hi
    unfold pushE at h ⊢
    rw [h2] at h ⊢
    simp only at h ⊢
    have hq := hr.que n (List.mem_of_getElem? hn)
    have HQ := Lib.hid hq
    rw [show (rowOf its n).wt = n.wt from rfl, show (rowOf its n).its = its n.id from rfl] at h ⊢
    clear hr h2 hx hq
    by_cases hb : argBad id wt
    · rw [if_pos (.inl hb)]
      have HBB := Lib.hid (HB1.out.1 hb)
      clear h hb hn hi
      go_enter Try.func13, Try.ntmps13
      go_wp2_with fail
      refine (flowOk_any (sp := sp) _ HR.out.c0).mono ?_
      rintro e w1 ⟨rfl, rfl⟩
      go_wp2_with fail
      refine (flowQueue_some id k n _ HR.out HN.out HI.out).mono ?_
      rintro e w1 ⟨rfl, hb⟩
      have HB := Lib.hid (box_below2 hb)
      clear hb c0
      go_upto_region 4 with fail
      rcases HBB.out with h0 | ⟨h0, h1⟩ | ⟨h0, h1, h2⟩
      all_goals
        go_wp2_with fail
        go_ret
        exact ⟨rfl, HB.out⟩
    · obtain ⟨h0, h1, h2⟩ := HB0.out.1 hb
      by_cases hw : n.wt = wt
      · rw [if_neg (by rintro (h | h); exact hb h; exact h hw)] at h ⊢
        have HE := Lib.hid h
        have heq : (n.wt != wt) = false := by simp [hw]
        clear h hb hn hi hw
        go_enter Try.func13, Try.ntmps13
        go_wp2_with fail
        refine (flowOk_any (sp := sp) _ HR.out.c0).mono ?_
        rintro e w1 ⟨rfl, rfl⟩
        go_wp2_with fail
        refine (flowQueue_some id k n _ HR.out HN.out HI.out).mono ?_
        rintro e w1 ⟨rfl, hb⟩
        have HB := Lib.hid (box_below2 hb)
        have hh1 := (hb.block w.heap.size (by simp)).trans fr_alloc_at
        have a0 : w1.cell? ⟨w.heap.size, 0, none⟩ = some (.int .i64 x.id) := fr_cell_of_heap hh1 rfl
        have a1 : w1.cell? ⟨w.heap.size, 1, none⟩ = some (.int .i64 x.cost) := fr_cell_of_heap hh1 rfl
        have n1 : w1.cell? ⟨n.blk, 1, none⟩ = some (.int .i64 n.wt) := cell_below hb (fr_cell_of_heap (HR.out.spin.node k n HN.out).2 rfl)
        clear hb c0 hh1
        go_wp2_with fail
        refine (fifoPush_bad x _ (HQ.out.below HB.out) HX.out HE.out).mono ?_
        rintro e w3 ⟨rfl, hb3⟩
        have HB3 := Lib.hid (HB.out.trans (hb3.mono HB.out.size))
        have hne : (itE (its n.id) x == 0) = false := beq_eq_false_iff_ne.2 HE.out
        clear hb3 a0 a1 n1
        go_wp2_with fail
        go_ret
        exact ⟨rfl, HB3.out⟩
      · rw [if_pos (.inr hw)]
        have heq : (n.wt != wt) = true := by simp [hw]
        clear h hb hn hi hw
        go_enter Try.func13, Try.ntmps13
        go_wp2_with fail
        refine (flowOk_any (sp := sp) _ HR.out.c0).mono ?_
        rintro e w1 ⟨rfl, rfl⟩
        go_wp2_with fail
        refine (flowQueue_some id k n _ HR.out HN.out HI.out).mono ?_
        rintro e w1 ⟨rfl, hb⟩
        have HB := Lib.hid (box_below2 hb)
        have n1 : w1.cell? ⟨n.blk, 1, none⟩ = some (.int .i64 n.wt) := cell_below hb (fr_cell_of_heap (HR.out.spin.node k n HN.out).2 rfl)
        clear hb c0
        go_wp2_with fail
        go_ret
        exact ⟨rfl, HB.out⟩
end
end Go.Proofs.Ytohkchilogmneaa
