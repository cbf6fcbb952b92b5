/-
  pool.Pools: what a Take chooses: its closure's walk.
-/
import Derived.Test.YtdbjihkgafhakaaGreatDoorPool2
import Derived.Test.YtdbjihkgafhakaaGreatDoorMatch2
import Derived.Lib.QuietBelow
import Derived.BigRegion
namespace Go.Proofs.YtdbjihkgafhakaaGreatDoor
open Go.RowKit

/-- A class, with its need, and where both stand. -/
structure PB where
  i : Nat
  n : PN
  k : Nat
  c : PC
def betterB (b : Option PB) (c : PC) : Bool := match b with
  | none => true
  | some z => decide (c.served < z.c.served)
def fitB (most : Int) (pl : ByteArray) (b : Option PB) (y : PB) : Bool := (decide ((y.k : Int) ≤ most) && decide (0 < totT y.c.rows)) && betterB b y.c && matchP pl y.n.name
def stepB (most : Int) (pl : ByteArray) (b : Option PB) (y : PB) : Option PB := if fitB most pl b y = true then some y else b
def bestV (b : Option PB) : Value := .pointer (b.map (fun y => ⟨y.c.blk, 0, none⟩))
def whereE (b : Option PB) : Ent := match b with
  | none => ent0
  | some y => ⟨y.n.name, y.k, 0, 0, 0, 0, 0, 0⟩
/-- The boxes that a Take's closure has. -/
structure TBox (w : World) (mb bb pb wb : Nat) (most : Int) (pl : ByteArray) (b : Option PB) : Prop where
  m : w.heap[mb]? = some (.cells #[.int .i64 most] 3 (0, 0))
  bx : w.heap[bb]? = some (.cells #[bestV b] 73 (0, 0))
  p : w.heap[pb]? = some (.cells #[.string pl] 9 (0, 0))
  wh : w.heap[wb]? = some (.cells (entC (whereE b)) 25 (0, 0))
  ne : mb ≠ bb ∧ mb ≠ wb ∧ pb ≠ bb ∧ pb ≠ wb ∧ bb ≠ wb
theorem TBox.below {w w' : World} {mb bb pb wb : Nat} {most : Int} {pl : ByteArray} {b : Option PB} (h : TBox w mb bb pb wb most pl b) (hb : Below w.heap.size w w') : TBox w' mb bb pb wb most pl b :=
  ⟨(hb.block _ (fp_lt_of_heap h.m)).trans h.m, (hb.block _ (fp_lt_of_heap h.bx)).trans h.bx, (hb.block _ (fp_lt_of_heap h.p)).trans h.p, (hb.block _ (fp_lt_of_heap h.wh)).trans h.wh, h.ne⟩
theorem TBox.pick {w w' : World} {mb bb pb wb : Nat} {most : Int} {pl : ByteArray} {b : Option PB} (h : TBox w mb bb pb wb most pl b) (y : PB) (hw : w' = (((((((((((w.setCell ⟨bb, 0, none⟩ (.pointer (some ⟨y.c.blk, 0, none⟩))).setCell ⟨wb, 0, none⟩ (.string ⟨#[]⟩)).setCell ⟨wb, 1, none⟩ (.int .i64 0)).setCell ⟨wb, 2, none⟩ (.int .i64 0)).setCell ⟨wb, 3, none⟩ (.int .i64 0)).setCell ⟨wb, 4, none⟩ (.int .i64 0)).setCell ⟨wb, 5, none⟩ (.int .i64 0)).setCell ⟨wb, 6, none⟩ (.int .i64 0)).setCell ⟨wb, 7, none⟩ (.int .i64 0)).setCell ⟨wb, 0, none⟩ (.string y.n.name)).setCell ⟨wb, 1, none⟩ (.int .i64 y.k)).drew) : TBox w' mb bb pb wb most pl (some y) ∧ Fp (fun j => j = bb ∨ j = wb) w w' := by
  obtain ⟨wa, hwa⟩ : ∃ wa : World, wa = w.setCell ⟨bb, 0, none⟩ (.pointer (some ⟨y.c.blk, 0, none⟩)) := ⟨_, rfl⟩
  rw [← hwa] at hw
  have hFa : Fp (fun j => j = bb) w wa := by rw [hwa]; exact (Fp.refl (fun j => j = bb) w).setCell (p := ⟨bb, 0, none⟩) (fun _ => rfl) _
  have hFb : Fp (fun j => j = wb) wa w' := by rw [hw]; exact (((((((((((Fp.refl (fun k => k = wb) wa).setCell (p := ⟨wb, 0, none⟩) (fun _ => rfl) _).setCell (p := ⟨wb, 1, none⟩) (fun _ => rfl) _).setCell (p := ⟨wb, 2, none⟩) (fun _ => rfl) _).setCell (p := ⟨wb, 3, none⟩) (fun _ => rfl) _).setCell (p := ⟨wb, 4, none⟩) (fun _ => rfl) _).setCell (p := ⟨wb, 5, none⟩) (fun _ => rfl) _).setCell (p := ⟨wb, 6, none⟩) (fun _ => rfl) _).setCell (p := ⟨wb, 7, none⟩) (fun _ => rfl) _).setCell (p := ⟨wb, 0, none⟩) (fun _ => rfl) _).setCell (p := ⟨wb, 1, none⟩) (fun _ => rfl) _).drew
  have hba : wa.heap[bb]? = some (.cells #[bestV (some y)] 73 (0, 0)) := by rw [hwa]; exact fr_setCell_at h.bx
  have hF : Fp (fun j => j = bb ∨ j = wb) w w' := (hFa.mono (fun _ e => .inl e)).trans hFb (fun _ _ e => .inr e)
  refine ⟨⟨hF.heap h.m (fun e => e.elim h.ne.1 h.ne.2.1), hFb.heap hba h.ne.2.2.2.2, hF.heap h.p (fun e => e.elim h.ne.2.2.1 h.ne.2.2.2.1), ?_, h.ne⟩, hF⟩
  have h1 := (fr_setCell_at (i := 1) (v := (.int .i64 y.k)) (fr_setCell_at (i := 0) (v := (.string y.n.name)) (fr_setCell_at (i := 7) (v := (.int .i64 0)) (fr_setCell_at (i := 6) (v := (.int .i64 0)) (fr_setCell_at (i := 5) (v := (.int .i64 0)) (fr_setCell_at (i := 4) (v := (.int .i64 0)) (fr_setCell_at (i := 3) (v := (.int .i64 0)) (fr_setCell_at (i := 2) (v := (.int .i64 0)) (fr_setCell_at (i := 1) (v := (.int .i64 0)) (fr_setCell_at (i := 0) (v := (.string ⟨#[]⟩)) (hFa.heap h.wh (fun e => h.ne.2.2.2.2 e.symm))))))))))))
  unfold entC at h1
  simp only [List.setIfInBounds_toArray, List.set_cons_zero, List.set_cons_succ] at h1
  rw [hw, show ∀ u : World, u.drew.heap = u.heap from fun _ => rfl, h1]
  rfl
section
variable {mb bb pb wb : Nat} {most : Int} {pl : ByteArray} {b : Option PB}
set_option maxRecDepth 100000 in
set_option maxHeartbeats 8000000 in
/-- THE WALK: Take's closure. -/
theorem takeC_any {ρ : Roles} {q : Int} {nb : Nat} (y : PB) (w : World) (hr : Ready w) (hT : TBox w mb bb pb wb most pl b) (hn : w.cell? ⟨y.n.blk, 0, none⟩ = some (.string y.n.name)) (hC : ClsAt ρ w q nb y.c)
    (hz : ∀ z, b = some z → w.cell? ⟨z.c.blk, 0, none⟩ = some (.int .i64 z.c.served)) (hf : totT y.c.rows ≤ 1000000) (hp : pl.size ≤ 1048576) (hs : y.n.name.size ≤ 1048576) (hb1 : y.n.blk ≠ bb) (hb2 : y.n.blk ≠ wb) :
    Calls Tryz.prog 35 #[.pointer (some ⟨y.n.blk, 0, none⟩), .int .i64 y.k, .pointer (some ⟨y.c.blk, 0, none⟩), .pointer (some ⟨mb, 0, none⟩), .pointer (some ⟨bb, 0, none⟩), .pointer (some ⟨pb, 0, none⟩), .pointer (some ⟨wb, 0, none⟩)] w
      fun e w' => e = .returned (.tuple #[]) ∧ TBox w' mb bb pb wb most pl (stepB most pl b y) ∧ Fp (fun j => j = bb ∨ j = wb) w w' := by
  have HT := Lib.hid hT
  have HN := Lib.hid hn
  have HR := Lib.hid hr
  have HC := Lib.hid hC
  have HP := Lib.hid hp
  have HSZ := Lib.hid hs
  have HF := Lib.hid hf
  have m0 := cell_regrown (fr_cell_of_heap hT.m rfl : w.cell? ⟨mb, 0, none⟩ = some (.int .i64 most))
  have b0 := cell_regrown (fr_cell_of_heap hT.bx rfl : w.cell? ⟨bb, 0, none⟩ = some (bestV b))
  have p0 := cell_regrown (fr_cell_of_heap hT.p rfl : w.cell? ⟨pb, 0, none⟩ = some (.string pl))
  have n0 := cell_regrown hn
  have c0 := cell_regrown (fr_cell_of_heap hC.blk rfl : w.cell? ⟨y.c.blk, 0, none⟩ = some (.int .i64 y.c.served))
  have c1 := cell_regrown (fr_cell_of_heap hC.blk rfl : w.cell? ⟨y.c.blk, 1, none⟩ = some (.pointer (some ⟨y.c.f, 0, none⟩)))
  have stay : ∀ wx, Below w.heap.size w wx → fitB most pl b y = false → (TBox wx mb bb pb wb most pl (stepB most pl b y) ∧ Fp (fun j => j = bb ∨ j = wb) w wx) := fun wx hb h0 => by
    unfold stepB
    rw [if_neg (by rw [h0]; decide)]
    exact ⟨hT.below hb, Fp.of_below hb⟩
  have HSTAY := Lib.hid stay
  have HZ := Lib.hid hz
  clear hT hn hr hC hp hs hf stay hz
  go_enter Tryz.func35, Tryz.ntmps35
  go_upto_region 0 with fail
  refine wp_region_quiet_below (by kernel_rfl) (by kernel_rfl) ?_
  repeat (go_big_quiet_step (fail))
  by_cases g1 : (y.k : Int) ≤ most
  · have k1 : decide ((y.k : Int) ≤ most) = true := decide_eq_true g1
    simp only [k1]
    repeat (go_big_quiet_step ((exact Calls.regrown_of (shareLen_any _ (HC.out.share.below (below_regrown w _ _)) HF.out))))
    by_cases g2 : 0 < totT y.c.rows
    · have k2 : decide (0 < totT y.c.rows) = true := decide_eq_true g2
      simp only [k2]
      rcases b with _ | z
      · replace b0 : ∀ d os, (Go.Sort.grow (redrawn w d) os).cell? ⟨bb, 0, none⟩ = some (.pointer none) := b0
        repeat (go_big_quiet_step ((exact Calls.regrown_of (match_any pl y.n.name _ (HR.out.below (below_regrown w _ _)) HP.out HSZ.out))))
        rcases g4 : matchP pl y.n.name with _ | _
        · have HV := Lib.hid (show fitB most pl none y = false by unfold fitB; rw [g4]; simp)
          repeat (go_big_quiet_step (fail))
          refine wpQuiet_nil ?_
          rintro _ ⟨⟨dq, osq⟩, rfl⟩
          go_wp2_with fail
          exact bodyPost_end (results_none rfl _ _ _) rfl ⟨rfl, HSTAY.out _ (below_regrown w dq osq) HV.out⟩
        · repeat (go_big_quiet_step (fail))
          have HV := Lib.hid (show fitB most pl none y = true by unfold fitB betterB; rw [k1, k2, g4]; rfl)
          refine wpQuiet_nil ?_
          rintro _ ⟨⟨dq, osq⟩, rfl⟩
          go_upto_region 1 with fail
          obtain ⟨w2, hw2⟩ : ∃ w2 : World, w2 = Go.Sort.grow (redrawn w dq) osq := ⟨_, rfl⟩
          rw [← hw2]
          have HB2 := Lib.hid (show Below w.heap.size w w2 by rw [hw2]; exact below_regrown w dq osq)
          have HT2 := Lib.hid (HT.out.below HB2.out)
          clear hw2 b0 m0 p0 n0 c0 c1 
          have n0 : w2.cell? ⟨y.n.blk, 0, none⟩ = some (.string y.n.name) := cell_below HB2.out HN.out
          have q0 : w2.cell? ⟨bb, 0, none⟩ = some (bestV (none)) := fr_cell_of_heap HT2.out.bx rfl
          have f0 : w2.frozen? ⟨bb, 0, none⟩ = false := fr_free_of_heap HT2.out.bx
          have e0 : w2.cell? ⟨wb, 0, none⟩ = some (.string (whereE (none)).need) := fr_cell_of_heap HT2.out.wh rfl
          have e1 : w2.cell? ⟨wb, 1, none⟩ = some (.int .i64 (whereE (none)).cls) := fr_cell_of_heap HT2.out.wh rfl
          have e2 : w2.cell? ⟨wb, 2, none⟩ = some (.int .i64 (whereE (none)).ten) := fr_cell_of_heap HT2.out.wh rfl
          have e3 : w2.cell? ⟨wb, 3, none⟩ = some (.int .i64 (whereE (none)).tw) := fr_cell_of_heap HT2.out.wh rfl
          have e4 : w2.cell? ⟨wb, 4, none⟩ = some (.int .i64 (whereE (none)).inv) := fr_cell_of_heap HT2.out.wh rfl
          have e5 : w2.cell? ⟨wb, 5, none⟩ = some (.int .i64 (whereE (none)).iw) := fr_cell_of_heap HT2.out.wh rfl
          have e6 : w2.cell? ⟨wb, 6, none⟩ = some (.int .i64 (whereE (none)).id) := fr_cell_of_heap HT2.out.wh rfl
          have e7 : w2.cell? ⟨wb, 7, none⟩ = some (.int .i64 (whereE (none)).cost) := fr_cell_of_heap HT2.out.wh rfl
          have g0 : w2.frozen? ⟨wb, 0, none⟩ = false := fr_free_of_heap HT2.out.wh
          have g1 : w2.frozen? ⟨wb, 1, none⟩ = false := fr_free_of_heap HT2.out.wh
          have g2 : w2.frozen? ⟨wb, 2, none⟩ = false := fr_free_of_heap HT2.out.wh
          have g3 : w2.frozen? ⟨wb, 3, none⟩ = false := fr_free_of_heap HT2.out.wh
          have g4 : w2.frozen? ⟨wb, 4, none⟩ = false := fr_free_of_heap HT2.out.wh
          have g5 : w2.frozen? ⟨wb, 5, none⟩ = false := fr_free_of_heap HT2.out.wh
          have g6 : w2.frozen? ⟨wb, 6, none⟩ = false := fr_free_of_heap HT2.out.wh
          have g7 : w2.frozen? ⟨wb, 7, none⟩ = false := fr_free_of_heap HT2.out.wh
          have hne : ¬ bb = wb := HT2.out.ne.2.2.2.2
          have hne2 : ¬ wb = bb := fun e => hne e.symm
          have j1 : ¬ y.n.blk = bb := hb1
          have j2 : ¬ y.n.blk = wb := hb2
          go_region
          refine bodyPost_end (results_none rfl _ _ _) rfl ⟨rfl, ?_⟩
          obtain ⟨hB, hF⟩ := HT2.out.pick y rfl
          unfold stepB
          rw [if_pos HV.out]
          exact ⟨hB, (Fp.of_below HB2.out).trans hF (fun _ _ h => h)⟩
      · replace b0 : ∀ d os, (Go.Sort.grow (redrawn w d) os).cell? ⟨bb, 0, none⟩ = some (.pointer (some ⟨z.c.blk, 0, none⟩)) := b0
        have z0 := cell_regrown (HZ.out z rfl)
        repeat (go_big_quiet_step (fail))
        by_cases g3 : y.c.served < z.c.served
        · have k3 : decide (y.c.served < z.c.served) = true := decide_eq_true g3
          simp only [k3]
          repeat (go_big_quiet_step ((exact Calls.regrown_of (match_any pl y.n.name _ (HR.out.below (below_regrown w _ _)) HP.out HSZ.out))))
          rcases g4 : matchP pl y.n.name with _ | _
          · have HV := Lib.hid (show fitB most pl (some z) y = false by unfold fitB; rw [g4]; simp)
            repeat (go_big_quiet_step (fail))
            refine wpQuiet_nil ?_
            rintro _ ⟨⟨dq, osq⟩, rfl⟩
            go_wp2_with fail
            exact bodyPost_end (results_none rfl _ _ _) rfl ⟨rfl, HSTAY.out _ (below_regrown w dq osq) HV.out⟩
          · repeat (go_big_quiet_step (fail))
            have HV := Lib.hid (show fitB most pl (some z) y = true by unfold fitB betterB; simp only [k1, k2, k3, g4]; rfl)
            refine wpQuiet_nil ?_
            rintro _ ⟨⟨dq, osq⟩, rfl⟩
            go_upto_region 1 with fail
            obtain ⟨w2, hw2⟩ : ∃ w2 : World, w2 = Go.Sort.grow (redrawn w dq) osq := ⟨_, rfl⟩
            rw [← hw2]
            have HB2 := Lib.hid (show Below w.heap.size w w2 by rw [hw2]; exact below_regrown w dq osq)
            have HT2 := Lib.hid (HT.out.below HB2.out)
            clear hw2 b0 m0 p0 n0 c0 c1 z0
            have n0 : w2.cell? ⟨y.n.blk, 0, none⟩ = some (.string y.n.name) := cell_below HB2.out HN.out
            have q0 : w2.cell? ⟨bb, 0, none⟩ = some (bestV (some z)) := fr_cell_of_heap HT2.out.bx rfl
            have f0 : w2.frozen? ⟨bb, 0, none⟩ = false := fr_free_of_heap HT2.out.bx
            have e0 : w2.cell? ⟨wb, 0, none⟩ = some (.string (whereE (some z)).need) := fr_cell_of_heap HT2.out.wh rfl
            have e1 : w2.cell? ⟨wb, 1, none⟩ = some (.int .i64 (whereE (some z)).cls) := fr_cell_of_heap HT2.out.wh rfl
            have e2 : w2.cell? ⟨wb, 2, none⟩ = some (.int .i64 (whereE (some z)).ten) := fr_cell_of_heap HT2.out.wh rfl
            have e3 : w2.cell? ⟨wb, 3, none⟩ = some (.int .i64 (whereE (some z)).tw) := fr_cell_of_heap HT2.out.wh rfl
            have e4 : w2.cell? ⟨wb, 4, none⟩ = some (.int .i64 (whereE (some z)).inv) := fr_cell_of_heap HT2.out.wh rfl
            have e5 : w2.cell? ⟨wb, 5, none⟩ = some (.int .i64 (whereE (some z)).iw) := fr_cell_of_heap HT2.out.wh rfl
            have e6 : w2.cell? ⟨wb, 6, none⟩ = some (.int .i64 (whereE (some z)).id) := fr_cell_of_heap HT2.out.wh rfl
            have e7 : w2.cell? ⟨wb, 7, none⟩ = some (.int .i64 (whereE (some z)).cost) := fr_cell_of_heap HT2.out.wh rfl
            have g0 : w2.frozen? ⟨wb, 0, none⟩ = false := fr_free_of_heap HT2.out.wh
            have g1 : w2.frozen? ⟨wb, 1, none⟩ = false := fr_free_of_heap HT2.out.wh
            have g2 : w2.frozen? ⟨wb, 2, none⟩ = false := fr_free_of_heap HT2.out.wh
            have g3 : w2.frozen? ⟨wb, 3, none⟩ = false := fr_free_of_heap HT2.out.wh
            have g4 : w2.frozen? ⟨wb, 4, none⟩ = false := fr_free_of_heap HT2.out.wh
            have g5 : w2.frozen? ⟨wb, 5, none⟩ = false := fr_free_of_heap HT2.out.wh
            have g6 : w2.frozen? ⟨wb, 6, none⟩ = false := fr_free_of_heap HT2.out.wh
            have g7 : w2.frozen? ⟨wb, 7, none⟩ = false := fr_free_of_heap HT2.out.wh
            have hne : ¬ bb = wb := HT2.out.ne.2.2.2.2
            have hne2 : ¬ wb = bb := fun e => hne e.symm
            have j1 : ¬ y.n.blk = bb := hb1
            have j2 : ¬ y.n.blk = wb := hb2
            go_region
            refine bodyPost_end (results_none rfl _ _ _) rfl ⟨rfl, ?_⟩
            obtain ⟨hB, hF⟩ := HT2.out.pick y rfl
            unfold stepB
            rw [if_pos HV.out]
            exact ⟨hB, (Fp.of_below HB2.out).trans hF (fun _ _ h => h)⟩
        · have k3 : decide (y.c.served < z.c.served) = false := decide_eq_false g3
          have HV := Lib.hid (show fitB most pl (some z) y = false by unfold fitB betterB; simp only [k3]; simp)
          simp only [k3]
          repeat (go_big_quiet_step (fail))
          refine wpQuiet_nil ?_
          rintro _ ⟨⟨dq, osq⟩, rfl⟩
          go_wp2_with fail
          exact bodyPost_end (results_none rfl _ _ _) rfl ⟨rfl, HSTAY.out _ (below_regrown w dq osq) HV.out⟩
    · have k2 : decide (0 < totT y.c.rows) = false := decide_eq_false g2
      have HV := Lib.hid (show fitB most pl b y = false by unfold fitB; rw [k2]; simp)
      simp only [k2]
      repeat (go_big_quiet_step (fail))
      refine wpQuiet_nil ?_
      rintro _ ⟨⟨dq, osq⟩, rfl⟩
      go_wp2_with fail
      exact bodyPost_end (results_none rfl _ _ _) rfl ⟨rfl, HSTAY.out _ (below_regrown w dq osq) HV.out⟩
  · have k1 : decide ((y.k : Int) ≤ most) = false := decide_eq_false g1
    have HV := Lib.hid (show fitB most pl b y = false by unfold fitB; rw [k1]; simp)
    simp only [k1]
    repeat (go_big_quiet_step (fail))
    refine wpQuiet_nil ?_
    rintro _ ⟨⟨dq, osq⟩, rfl⟩
    go_wp2_with fail
    exact bodyPost_end (results_none rfl _ _ _) rfl ⟨rfl, HSTAY.out _ (below_regrown w dq osq) HV.out⟩
end
end Go.Proofs.YtdbjihkgafhakaaGreatDoor
