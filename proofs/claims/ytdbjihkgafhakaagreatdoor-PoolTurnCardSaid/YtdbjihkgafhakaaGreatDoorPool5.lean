/-
  pool.Pools: Take: the walk.
-/
import Derived.Test.YtdbjihkgafhakaaGreatDoorPool4
import Derived.Deep.RegionHeld3
namespace Go.Proofs.YtdbjihkgafhakaaGreatDoor
open Go.RowKit

theorem take_boxes {w w1 : World} {most : Int} {pl : ByteArray} (hw : w1 = ((((w.alloc (.cells #[.string pl] 9)).alloc (.cells #[.int .i64 most] 3)).alloc (.cells (entC ent0) 25)).alloc (.cells #[.pointer none] 73)).alloc (.cells (entC ent0) 25)) :
    Below w.heap.size w w1 ∧ TBox w1 (w.heap.size + 1) (w.heap.size + 3) w.heap.size (w.heap.size + 4) most pl none ∧ w1.heap[w.heap.size + 2]? = some (.cells (entC ent0) 25 (0, 0)) ∧ w1.heap.size = w.heap.size + 5 := by
  obtain ⟨wa, hwa⟩ : ∃ wa : World, wa = w.alloc (.cells #[.string pl] 9) := ⟨_, rfl⟩
  rw [← hwa] at hw
  obtain ⟨wb, hwb⟩ : ∃ wb : World, wb = wa.alloc (.cells #[.int .i64 most] 3) := ⟨_, rfl⟩
  rw [← hwb] at hw
  obtain ⟨wc, hwc⟩ : ∃ wc : World, wc = wb.alloc (.cells (entC ent0) 25) := ⟨_, rfl⟩
  rw [← hwc] at hw
  obtain ⟨wd, hwd⟩ : ∃ wd : World, wd = wc.alloc (.cells #[.pointer none] 73) := ⟨_, rfl⟩
  rw [← hwd] at hw
  have sa : wa.heap.size = w.heap.size + 1 := by rw [hwa]; simp
  have sb : wb.heap.size = w.heap.size + 2 := by rw [hwb]; simp [sa]
  have sc : wc.heap.size = w.heap.size + 3 := by rw [hwc]; simp [sb]
  have sd : wd.heap.size = w.heap.size + 4 := by rw [hwd]; simp [sc]
  have s1 : w1.heap.size = w.heap.size + 5 := by rw [hw]; simp [sd]
  have h0 : wa.heap[w.heap.size]? = some (.cells #[.string pl] 9 (0, 0)) := by rw [hwa]; exact fr_alloc_at
  have h1 : wb.heap[w.heap.size + 1]? = some (.cells #[.int .i64 most] 3 (0, 0)) := by rw [hwb, ← sa]; exact fr_alloc_at
  have h2 : wc.heap[w.heap.size + 2]? = some (.cells (entC ent0) 25 (0, 0)) := by rw [hwc, ← sb]; exact fr_alloc_at
  have h3 : wd.heap[w.heap.size + 3]? = some (.cells #[.pointer none] 73 (0, 0)) := by rw [hwd, ← sc]; exact fr_alloc_at
  have h4 : w1.heap[w.heap.size + 4]? = some (.cells (entC ent0) 25 (0, 0)) := by rw [hw, ← sd]; exact fr_alloc_at
  have B1 : Below wb.heap.size wb w1 := by rw [hw, hwd, hwc]; exact (box_below.alloc (by simp) _).alloc (by simp; omega) _
  have B0 : Below wa.heap.size wa w1 := by rw [hw, hwd, hwc, hwb]; exact ((box_below.alloc (by simp) _).alloc (by simp; omega) _).alloc (by simp; omega) _
  have B2 : Below wc.heap.size wc w1 := by rw [hw, hwd]; exact box_below.alloc (by simp) _
  have B3 : Below wd.heap.size wd w1 := by rw [hw]; exact box_below
  refine ⟨by rw [hwa] at B0; exact box_below.trans (B0.mono (by simp)), ⟨(B1.block _ (fp_lt_of_heap h1)).trans h1, (B3.block _ (fp_lt_of_heap h3)).trans h3, (B0.block _ (fp_lt_of_heap h0)).trans h0, h4, by omega, by omega, by omega, by omega, by omega⟩, (B2.block _ (fp_lt_of_heap h2)).trans h2, s1⟩
theorem fence_far {ρ : Roles} {w : World} {k : Nat} (h : w.heap.size ≤ k) : fence ρ w k = [] := by simp [fence, Nat.not_lt.2 h]
theorem ent0_C : entC ent0 = #[.string ⟨#[]⟩, .int .i64 0, .int .i64 0, .int .i64 0, .int .i64 0, .int .i64 0, .int .i64 0, .int .i64 0] := rfl
theorem TBox.fp {w w' : World} {mb bb pb wb : Nat} {most : Int} {pl : ByteArray} {b : Option PB} (h : TBox w mb bb pb wb most pl b) {S : Nat → Prop} (hF : Fp S w w') (h1 : ¬ S mb) (h2 : ¬ S bb) (h3 : ¬ S pb) (h4 : ¬ S wb) : TBox w' mb bb pb wb most pl b :=
  ⟨hF.heap h.m h1, hF.heap h.bx h2, hF.heap h.p h3, hF.heap h.wh h4, h.ne⟩
section
variable {ρ : Roles} {P : Nat} {x : PX} {next : Int} {v : Value} {L : List PN} {most : Int} {pl : ByteArray} {w : World}
set_option maxRecDepth 100000 in
set_option maxHeartbeats 4000000 in
/-- THE WALK: Take, where nothing fits. -/
theorem ptake_none (w : World) (hr : Ready w) (hS : PoolAt ρ w P x next v L) (hO : PoolOk x L) (hp : pl.size ≤ 1048576) (hb : bestTo most pl L L.length = none) :
    Calls Tryz.prog 14 #[.pointer (some ⟨P, 0, none⟩), .string pl, .int .i64 most] w fun e w' => e = .returned (.tuple #[entV ent0, .bool false]) ∧ Below w.heap.size w w' := by
  have HS := Lib.hid (hS.later (fence_later ρ w))
  have HR := Lib.hid hr
  have HO := Lib.hid hO
  have HP := Lib.hid hp
  have HB := Lib.hid hb
  clear hr hS hO hp hb
  go_enter Tryz.func14, Tryz.ntmps14
  go_upto_region 5 with fail
  obtain ⟨w1, hw1⟩ : ∃ w1 : World, w1 = ((((w.alloc (.cells #[.string pl] 9)).alloc (.cells #[.int .i64 most] 3)).alloc (.cells (entC ent0) 25)).alloc (.cells #[.pointer none] 73)).alloc (.cells (entC ent0) 25) := ⟨_, rfl⟩
  rw [← ent0_C, ← hw1]
  obtain ⟨wb, hwb⟩ : ∃ k : Nat, k = w.heap.size + 1 + 1 + 1 + 1 := ⟨_, rfl⟩
  rw [← hwb]
  obtain ⟨bb, hbb⟩ : ∃ k : Nat, k = w.heap.size + 1 + 1 + 1 := ⟨_, rfl⟩
  rw [← hbb]
  obtain ⟨rb, hrb⟩ : ∃ k : Nat, k = w.heap.size + 1 + 1 := ⟨_, rfl⟩
  rw [← hrb]
  obtain ⟨mb, hmb⟩ : ∃ k : Nat, k = w.heap.size + 1 := ⟨_, rfl⟩
  rw [← hmb]
  obtain ⟨pb, hpb⟩ : ∃ k : Nat, k = w.heap.size := ⟨_, rfl⟩
  rw [← hpb]
  obtain ⟨hb1, ht1, hr1, hz1⟩ := take_boxes hw1
  have HB1 := Lib.hid hb1
  have HT1 := Lib.hid (show TBox w1 mb bb pb wb most pl none by rw [hmb, hbb, hpb, hwb]; exact ht1)
  have HR1 := Lib.hid (show w1.heap[rb]? = some (.cells (entC ent0) 25 (0, 0)) by rw [hrb]; exact hr1)
  have HNB := Lib.hid (show (w.heap.size ≤ bb ∧ w.heap.size ≤ wb ∧ w.heap.size ≤ rb ∧ w.heap.size ≤ mb ∧ w.heap.size ≤ pb) ∧ (rb ≠ bb ∧ rb ≠ wb) from ⟨by omega, by omega⟩)
  have HF0 := Lib.hid (show fence ρ w bb = [] ∧ fence ρ w wb = [] from ⟨fence_far (by omega), fence_far (by omega)⟩)
  have HRD := Lib.hid (show ∀ w', Fp (fun j => j = bb ∨ j = wb) w1 w' → Ready w' from fun w' hF => HR.out.below (hb1.trans (hF.below hb1.size (fun j hj e => by omega))))
  clear hw1 hb1 ht1 hr1 hz1 hwb hbb hrb hmb hpb
  go_wp2_with fail
  refine (peach_any w1 HRD.out (HS.out.below HB1.out) HO.out HT1.out HF0.out.1 HF0.out.2 HP.out).mono ?_
  rintro e w2 ⟨rfl, ht2, hf2⟩
  rw [HB.out] at ht2
  have HB2 := Lib.hid (HB1.out.trans (hf2.below HB1.out.size (fun j hj e => by have := HNB.out.1; omega)))
  have hr2 := hf2.heap HR1.out (fun e => e.elim HNB.out.2.1 HNB.out.2.2)
  have b0 : w2.cell? ⟨bb, 0, none⟩ = some (.pointer none) := fr_cell_of_heap ht2.bx rfl
  have HRB := Lib.hid hr2
  clear hf2 ht2 hr2
  go_upto_region 7 with fail
  clear b0
  go_wp2_with (refine wpList_store_row rfl 25 _ _ rfl rb #[.string ⟨#[]⟩, .int .i64 0, .int .i64 0, .int .i64 0, .int .i64 0, .int .i64 0, .int .i64 0, .int .i64 0] rfl rfl 25 _ HRB.out (ent_sz ent0) rfl (ent_one ent0) ?_)
  refine bodyPost_ret (v := .tuple #[.agg #[.string ⟨#[]⟩, .int .i64 0, .int .i64 0, .int .i64 0, .int .i64 0, .int .i64 0, .int .i64 0, .int .i64 0], .bool false]) (results_row2 Tryz.results14 rfl rfl (setRow_heap _ rb _ _ _ _ HRB.out) Tryz.underlying25 rfl (ent_sz ent0)) rfl ⟨rfl, ?_⟩
  exact ((Fp.of_below (S := fun k => k = rb) HB2.out).setRow (fun _ => rfl)).below (Nat.le_refl _) (fun k hk e => by have := HNB.out.1; omega)
/-- What a Take of a class leaves. -/
def tookN (y : PB) (next : Int) (row : TRow) (rest : List TRow) : PN := { y.n with cls := y.n.cls.set y.k { y.c with served := next, gv := (tookT row rest).1, rows := (tookT row rest).2 } }
def PTakePost (ρ : Roles) (w : World) (P : Nat) (x : PX) (next : Int) (v : Value) (L : List PN) (y : PB) (e : Ending) (w' : World) : Prop :=
  ∃ row rest ρ', e = .returned (.tuple #[entV { entOf row with need := y.n.name, cls := y.k }, .bool true]) ∧ PicksT x.q y.c.gv y.c.rows (row :: rest) ∧ Later ρ ρ' w ∧ NewRoles ρ' [0] w.heap.size ∧ PoolAt ρ' w' P x (next + 1) v (L.set y.i (tookN y next row rest)) ∧ Fp (Part ρ [0]) w w'
theorem bestTo_ind {L : List PN} {p : Option PB → Prop} (h0 : p none) (hs : ∀ b y, p b → L[y.i]? = some y.n → y.n.cls[y.k]? = some y.c → p (stepB most pl b y)) : ∀ i, p (bestTo most pl L i)
  | 0 => h0
  | i + 1 => by
    have ih := bestTo_ind h0 hs i
    cases hn : L[i]? with
    | none =>
      show p (match L[i]? with | some n => needTo most pl i n (bestTo most pl L i) n.cls.length | none => bestTo most pl L i)
      rw [hn]
      exact ih
    | some n =>
      rw [bestTo_succ hn]
      have key : ∀ k, p (needTo most pl i n (bestTo most pl L i) k) := by
        intro k
        induction k with
        | zero => exact ih
        | succ k ihk =>
          cases hc : n.cls[k]? with
          | none =>
            show p (match n.cls[k]? with | some c => stepB most pl (needTo most pl i n (bestTo most pl L i) k) ⟨i, n, k, c⟩ | none => needTo most pl i n (bestTo most pl L i) k)
            rw [hc]
            exact ihk
          | some c =>
            rw [needTo_succ hc]
            exact hs _ ⟨i, n, k, c⟩ ihk hn hc
      exact key _
theorem bestTo_fit {L : List PN} (i : Nat) : ∀ z, bestTo most pl L i = some z → (z.k : Int) ≤ most ∧ 0 < totT z.c.rows ∧ matchP pl z.n.name = true := by
  refine bestTo_ind (p := fun b => ∀ z, b = some z → (z.k : Int) ≤ most ∧ 0 < totT z.c.rows ∧ matchP pl z.n.name = true) (fun z h => by cases h) (fun b y hb _ _ z hz => ?_) i
  unfold stepB at hz
  split at hz
  · rename_i hf
    cases hz
    unfold fitB at hf
    simp only [Bool.and_eq_true, decide_eq_true_iff] at hf
    exact ⟨hf.1.1.1, hf.1.1.2, hf.2⟩
  · exact hb z hz
theorem tot_ne {rows : List TRow} (h : 0 < totT rows) : rows ≠ [] := by
  rintro rfl
  simp [totT] at h
set_option maxRecDepth 100000 in
set_option maxHeartbeats 8000000 in
/-- THE WALK: Take. -/
theorem ptake_some (y : PB) (w : World) (hr : Ready w) (hS : PoolAt ρ w P x next v L) (hO : PoolOk x L) (hp : pl.size ≤ 1048576) (hb : bestTo most pl L L.length = some y) (hnx : 0 ≤ next ∧ next < 1000000000) :
    Calls Tryz.prog 14 #[.pointer (some ⟨P, 0, none⟩), .string pl, .int .i64 most] w (PTakePost ρ w P x next v L y) := by
  have HS := Lib.hid (hS.later (fence_later ρ w))
  have HR := Lib.hid hr
  have HO := Lib.hid hO
  have HP := Lib.hid hp
  have HB := Lib.hid hb
  have HNX := Lib.hid hnx
  have HPL := Lib.hid (fp_lt_of_heap hS.head)
  have HY := Lib.hid (bestTo_in L.length y hb)
  have HNE := Lib.hid (tot_ne (bestTo_fit L.length y hb).2.1)
  clear hr hS hO hp hb hnx
  go_enter Tryz.func14, Tryz.ntmps14
  go_upto_region 5 with fail
  obtain ⟨w1, hw1⟩ : ∃ w1 : World, w1 = ((((w.alloc (.cells #[.string pl] 9)).alloc (.cells #[.int .i64 most] 3)).alloc (.cells (entC ent0) 25)).alloc (.cells #[.pointer none] 73)).alloc (.cells (entC ent0) 25) := ⟨_, rfl⟩
  rw [← ent0_C, ← hw1]
  obtain ⟨wb, hwb⟩ : ∃ k : Nat, k = w.heap.size + 1 + 1 + 1 + 1 := ⟨_, rfl⟩
  rw [← hwb]
  obtain ⟨bb, hbb⟩ : ∃ k : Nat, k = w.heap.size + 1 + 1 + 1 := ⟨_, rfl⟩
  rw [← hbb]
  obtain ⟨rb, hrb⟩ : ∃ k : Nat, k = w.heap.size + 1 + 1 := ⟨_, rfl⟩
  rw [← hrb]
  obtain ⟨mb, hmb⟩ : ∃ k : Nat, k = w.heap.size + 1 := ⟨_, rfl⟩
  rw [← hmb]
  obtain ⟨pb, hpb⟩ : ∃ k : Nat, k = w.heap.size := ⟨_, rfl⟩
  rw [← hpb]
  obtain ⟨hb1, ht1, hr1, hz1⟩ := take_boxes hw1
  have HB1 := Lib.hid hb1
  have HT1 := Lib.hid (show TBox w1 mb bb pb wb most pl none by rw [hmb, hbb, hpb, hwb]; exact ht1)
  have HR1 := Lib.hid (show w1.heap[rb]? = some (.cells (entC ent0) 25 (0, 0)) by rw [hrb]; exact hr1)
  have HNB := Lib.hid (show (w.heap.size ≤ bb ∧ w.heap.size ≤ wb ∧ w.heap.size ≤ rb ∧ w.heap.size ≤ mb ∧ w.heap.size ≤ pb) ∧ (rb ≠ bb ∧ rb ≠ wb) from ⟨by omega, by omega⟩)
  have HF0 := Lib.hid (show fence ρ w bb = [] ∧ fence ρ w wb = [] from ⟨fence_far (by omega), fence_far (by omega)⟩)
  have HRD := Lib.hid (show ∀ w', Fp (fun j => j = bb ∨ j = wb) w1 w' → Ready w' from fun w' hF => HR.out.below (hb1.trans (hF.below hb1.size (fun j hj e => by omega))))
  clear hw1 hb1 ht1 hr1 hz1 hwb hbb hrb hmb hpb
  go_wp2_with fail
  refine (peach_any w1 HRD.out (HS.out.below HB1.out) HO.out HT1.out HF0.out.1 HF0.out.2 HP.out).mono ?_
  rintro e w2 ⟨rfl, ht2, hf2⟩
  rw [HB.out] at ht2
  have HB2 := Lib.hid (HB1.out.trans (hf2.below HB1.out.size (fun j hj e => by have := HNB.out.1; omega)))
  have hr2 := hf2.heap HR1.out (fun e => e.elim HNB.out.2.1 HNB.out.2.2)
  have hS2 := (HS.out.below HB1.out).boxes hf2 (fun j e => e.elim (fun e => e ▸ HF0.out.1) (fun e => e ▸ HF0.out.2))
  have b0 : w2.cell? ⟨bb, 0, none⟩ = some (.pointer (some ⟨y.c.blk, 0, none⟩)) := fr_cell_of_heap ht2.bx rfl
  have hN2 := hS2.need y.i y.n HY.out.1
  have hC2 := hN2.cls y.k y.c HY.out.2
  have k1 : w2.cell? ⟨y.c.blk, 1, none⟩ = some (.pointer (some ⟨y.c.f, 0, none⟩)) := fr_cell_of_heap hC2.blk rfl
  have HRB := Lib.hid hr2
  have HT2 := Lib.hid ht2
  have HS2 := Lib.hid hS2
  have HC2 := Lib.hid hC2
  clear hf2 ht2 hr2 hS2 hN2 hC2
  go_wp2_with fail
  refine (shareTake_cons (pre := [0, 6, (y.c.blk : Int)]) (by simp) w2 HC2.out.share HNE.out).mono ?_
  rintro e w3 ⟨row, rest, ρ3, rfl, hp3, hl3, hn3, hR3, hF3⟩
  obtain ⟨E9, hE9⟩ : ∃ E9, E9 = entOf row := ⟨_, rfl⟩
  rw [← hE9]
  have HE9 := Lib.hid hE9
  have HP3 := Lib.hid hp3
  have HL3 := Lib.hid hl3
  have HN3 := Lib.hid hn3
  have HF3 := Lib.hid hF3
  have HS3 := Lib.hid ((HS2.out.turn HY.out.1 HY.out.2 hl3 hR3 hF3).later (fence_later ρ3 w3))
  have hno : ∀ j, w.heap.size ≤ j → ¬ Part (fence ρ w) [0, 6, (y.c.blk : Int)] j := fun j hj => fence_new (by simp) hj
  have HT3 := Lib.hid (HT2.out.fp hF3 (hno mb HNB.out.1.2.2.2.1) (hno bb HNB.out.1.1) (hno pb HNB.out.1.2.2.2.2) (hno wb HNB.out.1.2.1))
  have HRB3 := Lib.hid (hF3.heap HRB.out (hno rb HNB.out.1.2.2.1))
  clear hp3 hl3 hn3 hR3 hF3 hE9 hno b0 k1
  go_upto_region 9 with (refine wpList_store_new rfl 25 _ _ rfl w3.heap.size rfl (entC E9) rfl rfl (ent_sz E9) rfl (ent_one E9) ?_)
  obtain ⟨w4, hw4⟩ : ∃ w4 : World, w4 = w3.alloc (.cells (entC E9) 25) := ⟨_, rfl⟩
  obtain ⟨eb, heb⟩ : ∃ eb : Nat, eb = w3.heap.size := ⟨_, rfl⟩
  rw [← hw4, ← heb]
  obtain ⟨c', hc'⟩ : ∃ c' : PC, c' = { y.c with gv := (tookT row rest).1, rows := (tookT row rest).2 } := ⟨_, rfl⟩
  obtain ⟨n', hn'⟩ : ∃ n' : PN, n' = { y.n with cls := y.n.cls.set y.k c' } := ⟨_, rfl⟩
  have HS4 := Lib.hid (show PoolAt (fence ρ3 w3) w4 P x next v (L.set y.i n') by rw [hw4, hn', hc']; exact HS3.out.below box_below)
  have HB4 := Lib.hid (show Below w3.heap.size w3 w4 by rw [hw4]; exact box_below)
  have HT4 := Lib.hid (HT3.out.below HB4.out)
  have HRB4 := Lib.hid ((HB4.out.block _ (fp_lt_of_heap HRB3.out)).trans HRB3.out)
  have HE4 := Lib.hid (show w4.heap[eb]? = some (.cells (entC E9) 25 (0, 0)) by rw [hw4, heb]; exact fr_alloc_at)
  have HEB := Lib.hid (show w3.heap.size ≤ eb by rw [heb]; exact Nat.le_refl _)
  have hcb : c'.blk = y.c.blk := by rw [hc']
  have HIX := Lib.hid (show (L.set y.i n')[y.i]? = some n' ∧ n'.cls[y.k]? = some c' from ⟨List.getElem?_set_self (List.getElem?_eq_some_iff.1 HY.out.1).1, by rw [hn']; exact List.getElem?_set_self (List.getElem?_eq_some_iff.1 HY.out.2).1⟩)
  have HNC := Lib.hid (And.intro hc' hn')
  have hC4 := (HS4.out.need y.i n' HIX.out.1).cls y.k c' HIX.out.2
  have hcP : y.c.blk ≠ P := fun e => by
    have h1 := hC4.role
    rw [hcb, e, HS4.out.role] at h1
    simp at h1
  have hbP : bb ≠ P := fun e => by have h1 := HNB.out.1.1; have h2 := HPL.out; omega
  have hsv : c'.served = y.c.served := by rw [hc']
  have HCP := Lib.hid (And.intro hcP hbP)
  have HCB := Lib.hid hcb
  have b4 : w4.cell? ⟨bb, 0, none⟩ = some (.pointer (some ⟨y.c.blk, 0, none⟩)) := fr_cell_of_heap HT4.out.bx rfl
  have HK4 := Lib.hid (show w4.heap[y.c.blk]? = some (pcO c') by rw [← hcb]; exact hC4.blk)
  have HSD := Lib.hid (HS4.out.below (w' := w4.drew) ⟨rfl, rfl, rfl, Nat.le_refl _, fun _ _ => rfl⟩)
  clear hw4 heb hc' hn' hcb hC4 hcP hbP hsv
  have j1 : ¬ bb = y.c.blk := fun e => by
    have h1 := HC2.out.role
    rw [← e, HF0.out.1] at h1
    simp at h1
  have j2 : ¬ y.c.blk = bb := fun e => j1 e.symm
  have HBC := Lib.hid j1
  go_region_held3 (fun w' => w'.cell? ⟨bb, 0, none⟩ = some (.pointer (some ⟨y.c.blk, 0, none⟩)))
    (first | go_keep | exact hF5.cell (w := w4.drew) b4 HCP.out.2 | exact ((Fp.refl (fun j => j = y.c.blk) w5).setCell (p := ⟨y.c.blk, 0, none⟩) (fun _ => rfl) _).cell (hF5.cell (w := w4.drew) b4 HCP.out.2) HBC.out)
    (first | (go_at_call 28; refine (ptick_any w4.drew HSD.out HNX.out).mono ?_; rintro e w5 ⟨rfl, hF5, hh5⟩; (have hk5 := hF5.heap (w := w4.drew) HK4.out HCP.out.1); (have c5 : w5.cell? ⟨y.c.blk, 0, none⟩ = some (.int .i64 c'.served) := fr_cell_of_heap hk5 rfl); (have g5 : w5.frozen? ⟨y.c.blk, 0, none⟩ = false := fr_free_of_heap hk5)))
  obtain ⟨w6, hw6⟩ : ∃ w6 : World, w6 = w5.setCell ⟨y.c.blk, 0, none⟩ (.int .i64 next) := ⟨_, rfl⟩
  rw [← hw6]
  have hF6 : Fp (fun j => j = y.c.blk) w5 w6 := by rw [hw6]; exact (Fp.refl (fun j => j = y.c.blk) w5).setCell (p := ⟨y.c.blk, 0, none⟩) (fun _ => rfl) _
  have hk6 : w6.heap[y.c.blk]? = some (pcO { c' with served := next }) := by rw [hw6]; exact fr_setCell_at hk5
  have hF46 : Fp (fun j => j = P ∨ j = y.c.blk) w4 w6 := (((Fp.refl (fun j => j = P ∨ j = y.c.blk) w4).drew).trans hF5 (fun _ _ e => .inl e)).trans hF6 (fun _ _ e => .inr e)
  have hS6 : PoolAt (fence ρ3 w3) w6 P x (next + 1) v (L.set y.i (tookN y next row rest)) := by
    have h := (HSD.out.head_set hF5 hh5).served HIX.out.1 HIX.out.2 (t := next) (by rw [HCB.out]; exact hF6) (by rw [HCB.out]; exact hk6)
    rw [List.set_set, HNC.out.2, HNC.out.1] at h
    simp only [List.set_set] at h
    exact h
  have hbox : ∀ j, w.heap.size ≤ j → ¬ (j = P ∨ j = y.c.blk) := fun j hj e => by
    rcases e with e | e
    · have := HPL.out
      omega
    · have h1 := HC2.out.role
      rw [← e, fence_far hj] at h1
      simp at h1
  have hz3 : w.heap.size ≤ w3.heap.size := Nat.le_trans HB2.out.size HF3.out.size
  have HS6 := Lib.hid hS6
  have HF46 := Lib.hid hF46
  have HT6 := Lib.hid (HT4.out.fp hF46 (hbox mb HNB.out.1.2.2.2.1) (hbox bb HNB.out.1.1) (hbox pb HNB.out.1.2.2.2.2) (hbox wb HNB.out.1.2.1))
  have HRB6 := Lib.hid (hF46.heap HRB4.out (hbox rb HNB.out.1.2.2.1))
  have HE6 := Lib.hid (hF46.heap HE4.out (hbox eb (Nat.le_trans hz3 HEB.out)))
  have HZ3 := Lib.hid hz3
  have hew : ¬ eb = wb := fun e => by have h1 := fp_lt_of_heap HT3.out.wh; have h2 := HEB.out; omega
  have her : ¬ eb = rb := fun e => by have h1 := fp_lt_of_heap HRB3.out; have h2 := HEB.out; omega
  have HER := Lib.hid her
  have hwe : ¬ wb = eb := fun e => hew e.symm
  clear hw6 hF6 hk6 hF46 hS6 hbox hz3 hh5 hF5 hk5 c5 g5 b4 j1 j2 her
  have e0 : w6.cell? ⟨wb, 0, none⟩ = some (.string y.n.name) := fr_cell_of_heap HT6.out.wh rfl
  have e1 : w6.cell? ⟨wb, 1, none⟩ = some (.int .i64 y.k) := fr_cell_of_heap HT6.out.wh rfl
  have d0 : w6.cell? ⟨eb, 0, none⟩ = some (.string E9.need) := fr_cell_of_heap HE6.out rfl
  have d1 : w6.cell? ⟨eb, 1, none⟩ = some (.int .i64 E9.cls) := fr_cell_of_heap HE6.out rfl
  have g0 : w6.frozen? ⟨eb, 0, none⟩ = false := fr_free_of_heap HE6.out
  have g1 : w6.frozen? ⟨eb, 1, none⟩ = false := fr_free_of_heap HE6.out
  go_upto_region 10 with fail
  go_region
  obtain ⟨w7, hw7⟩ : ∃ w7 : World, w7 = ((w6.setCell ⟨eb, 0, none⟩ (.string y.n.name)).setCell ⟨eb, 1, none⟩ (.int .i64 y.k)).drew := ⟨_, rfl⟩
  rw [← hw7]
  obtain ⟨E10, hE10⟩ : ∃ E10 : Ent, E10 = { E9 with need := y.n.name, cls := y.k } := ⟨_, rfl⟩
  have hF7 : Fp (fun j => j = eb) w6 w7 := by rw [hw7]; exact (((Fp.refl (fun j => j = eb) w6).setCell (p := ⟨eb, 0, none⟩) (fun _ => rfl) _).setCell (p := ⟨eb, 1, none⟩) (fun _ => rfl) _).drew
  have hE7 : w7.heap[eb]? = some (.cells (entC E10) 25 (0, 0)) := by
    have h1 := fr_setCell_at (i := 1) (v := .int .i64 y.k) (fr_setCell_at (i := 0) (v := .string y.n.name) HE6.out)
    unfold entC at h1
    simp only [List.setIfInBounds_toArray, List.set_cons_zero, List.set_cons_succ] at h1
    rw [hw7, show ∀ u : World, u.drew.heap = u.heap from fun _ => rfl, h1, hE10]
    rfl
  have HF7 := Lib.hid hF7
  have HE7 := Lib.hid hE7
  have HRB7 := Lib.hid (hF7.heap HRB6.out (fun e => HER.out e.symm))
  have HE10 := Lib.hid hE10
  clear hw7 hF7 hE7 hE10 e0 e1 d0 d1 g0 g1 hew hwe
  go_wp2_with (first
    | (refine wpList_load_agg (cs := entC E10) 25 HE7.out Tryz.underlying25 rfl (ent_sz E10) rfl _ rfl rfl ?_)
    | (refine wpList_store_row rfl 25 _ _ rfl rb (entC E10) rfl rfl 25 _ HRB7.out (ent_sz E10) rfl (ent_one E10) ?_))
  refine bodyPost_ret (v := .tuple #[.agg (entC E10), .bool true]) (results_row2 Tryz.results14 rfl rfl (setRow_heap _ rb _ _ _ _ HRB7.out) Tryz.underlying25 rfl (ent_sz E10)) rfl ?_
  have z12 := HB2.out.size
  have z23 := HF3.out.size
  have hrb3 : fence ρ3 w3 rb = [] := by
    have h1 := fp_lt_of_heap HRB3.out
    have h2 := fp_lt_of_heap HRB.out
    rw [fence_later ρ3 w3 rb h1, HL3.out rb h2]
    exact fence_far HNB.out.1.2.2.1
  have hFr : Fp (fun j => j = rb) w7 (w7.setRow rb (entC E10)) := (Fp.refl _ _).setRow (fun _ => rfl)
  refine ⟨row, rest, fence ρ3 w3, by rw [HE10.out, HE9.out]; rfl, HP3.out, fun k hk => ?_, fun k hk => ?_, (HS6.out.boxes HF7.out (fun j e => by rw [e]; exact fence_far HEB.out)).boxes hFr (fun j e => by rw [e]; exact hrb3), ?_⟩
  · rw [fence_later ρ3 w3 k (by omega), HL3.out k (by omega), fence_later ρ w k hk]
  · rcases Nat.lt_or_ge k w3.heap.size with h3 | h3
    · have e3 : fence ρ3 w3 k = ρ3 k := fence_later ρ3 w3 k h3
      rcases Nat.lt_or_ge k w2.heap.size with h2 | h2
      · exact .inl (by rw [e3, HL3.out k h2]; exact fence_far hk)
      · rcases HN3.out k h2 with h4 | ⟨t, h4⟩
        · exact .inl (e3.trans h4)
        · exact .inr ⟨_, by rw [e3, h4]; exact List.append_assoc [0] [6, (y.c.blk : Int)] t⟩
    · exact .inl (fence_far h3)
  · have hin : ∀ {k : Nat} {r : List Int}, k < w.heap.size → fence ρ w k = 0 :: r → Part ρ [0] k := fun {k r} hk e => ⟨r, by rw [← fence_later ρ w k hk, e]; rfl⟩
    refine (((((Fp.of_below (S := Part ρ [0]) HB2.out).trans HF3.out (fun k hk ⟨t, e⟩ => hin hk (by rw [e]; rfl))).then_below HB4.out).trans HF46.out (fun k hk e => ?_)).trans HF7.out (fun k hk e => ?_)).trans hFr (fun k hk e => ?_)
    · rcases e with e | e
      · exact hin hk (by rw [e]; exact HS.out.role)
      · exact hin hk (by rw [e]; exact HC2.out.role)
    · have := HEB.out
      omega
    · have := HNB.out.1
      omega
end
end Go.Proofs.YtdbjihkgafhakaaGreatDoor
