/-
 flow.Ring: load, Load: the walks.
-/
import Derived.Test.YtdbjihkgafhakaaGreatDoorSl07
import Derived.BigQuiet
import Derived.Lib.QuietBelow
namespace Go.Proofs.YtdbjihkgafhakaaGreatDoor
open Go.RowKit Go.Sort
def okRow (x : FRow) : Prop := ¬ Zz x.id x.wt ∧ ∀ (j : Nat) y, x.its[j]? = some y → itE (x.its.take j) y = 0
def okIn (rows : List FRow) (x : FRow) : Prop := findF x.id rows = none ∧ 0 ≤ x.df ∧ x.df ≤ 1088 ∧ x.its ≠ [] ∧ okRow x
def okAll (rows : List FRow) : Prop := ∀ (k : Nat) x, rows[k]? = some x → okIn (rows.take k) x
def okL (q : Int) (gv : Bool) (rows : List FRow) : Prop := 1 ≤ q ∧ q ≤ 64 ∧ ¬ (gv = true ∧ rows = []) ∧ okAll rows
def partR (x : FRow) (j : Nat) : List FRow := if j = 0 then [] else [⟨x.id, x.wt, 0, x.its.take j⟩]
theorem ZgS {id : Int} {rows : List FRow} {r : FRow} (h : findF id rows = none) (hr : r.id = id) : findF id (rows ++ [r]) = some rows.length ∧ atF id (rows ++ [r]) = some r := by
 unfold findF at h
 rw [List.findIdx?_eq_none_iff] at h
 constructor
 ·refine ZfD (l := rows ++ [r]) (by rw [List.getElem?_append_right (Nat.le_refl _)]; simp) hr (fun j y hj hy => ?_)
  rw [List.getElem?_append_left hj] at hy
  have := h y (List.mem_of_getElem? hy)
  simpa using this
 ·unfold atF
  rw [List.find?_append]
  have : rows.find? (fun r => r.id == id) = none := by
   rw [List.find?_eq_none]
   intro y hy
   have := h y hy
   simpa using this
  rw [this]
  simp [hr]
theorem Zjf {id : Int} {rows : List FRow} (h : findF id rows = none) : atF id rows = none := by
 rcases ZeN (id := id) (rows := rows) with ⟨_, h2⟩ | ⟨k, r, h1, _⟩
 ·exact h2
 ·rw [h] at h1
  cases h1
theorem ZgT {rows : List FRow} {x : FRow} {j : Nat} {y : It} (h : findF x.id rows = none) : pushE x.id x.wt y (rows ++ partR x j) = if Zz x.id x.wt then 1 else itE (x.its.take j) y := by
 unfold pushE
 by_cases hj : j = 0
 ·subst hj
  rw [show rows ++ partR x 0 = rows by simp [partR], Zjf h]
  rfl
 ·have hp : partR x j = [⟨x.id, x.wt, 0, x.its.take j⟩] := if_neg hj
  rw [hp, (ZgS (r := ⟨x.id, x.wt, 0, x.its.take j⟩) h rfl).2]
  simp
theorem ZgU {rows : List FRow} {x : FRow} {j : Nat} {y : It} (h : findF x.id rows = none) (hy : x.its[j]? = some y) (h0 : pushE x.id x.wt y (rows ++ partR x j) = 0) : ZQ x.id x.wt y (rows ++ partR x j) = rows ++ partR x (j + 1) := by
 have ht : x.its.take (j + 1) = x.its.take j ++ [y] := by
  obtain ⟨hl, hg⟩ := List.getElem?_eq_some_iff.1 hy
  rw [List.take_succ_eq_append_getElem hl, hg]
 unfold ZQ
 rw [if_pos h0]
 have hp1 : partR x (j + 1) = [⟨x.id, x.wt, 0, x.its.take (j + 1)⟩] := if_neg (by omega)
 rw [hp1, ht]
 unfold pushR
 by_cases hj : j = 0
 ·subst hj
  rw [show rows ++ partR x 0 = rows by simp [partR], h]
  rfl
 ·have hp : partR x j = [⟨x.id, x.wt, 0, x.its.take j⟩] := if_neg hj
  rw [hp, (ZgS (r := ⟨x.id, x.wt, 0, x.its.take j⟩) h rfl).1]
  simp only
  rw [ZcE (x := ⟨x.id, x.wt, 0, x.its.take j⟩) (by rw [List.getElem?_append_right (Nat.le_refl _)]; simp)]
  simp
def Zfh (pre : List Int) (ρ : Roles) (w : World) (f : Nat) (q : Int) (rows : List FRow) (x : FRow) (e : Ending) (w' : World) : Prop :=
 ∃ r rows' ρ', e = .returned (.bool r) ∧ (r = true ↔ okIn rows x) ∧ Later ρ ρ' w ∧ ZA ρ' pre w.heap.size ∧ RingAt pre ρ' w' f q false rows' ∧ Fp (Part ρ pre) w w' ∧ (r = true → rows' = rows ++ [x])
structure LState (pre : List Int) (ρ : Roles) (w : World) (f : Nat) (q : Int) (rows : List FRow) (x : FRow) (j : Nat) (wr : World) : Prop where
 ring : ∃ ρ', Later ρ ρ' w ∧ ZA ρ' pre w.heap.size ∧ RingAt pre ρ' wr f q false (rows ++ partR x j)
 fp : Fp (Part ρ pre) w wr
 ok : ∀ (i : Nat) y, i < j → x.its[i]? = some y → ¬ Zz x.id x.wt ∧ itE (x.its.take i) y = 0
theorem ZaE {ρ ρ' : Roles} {pre : List Int} {w : World} (hl : Later ρ ρ' w) {k : Nat} (hk : k < w.heap.size) (h : Part ρ' pre k) : Part ρ pre k := by
 obtain ⟨s, hs⟩ := h
 exact ⟨s, (hl k hk).symm.trans hs⟩
theorem Zaf {ρ ρ1 ρ2 : Roles} {w w1 : World} (h1 : Later ρ ρ1 w) (h2 : Later ρ1 ρ2 w1) (hs : w.heap.size ≤ w1.heap.size) : Later ρ ρ2 w := fun k hk => (h2 k (Nat.lt_of_lt_of_le hk hs)).trans (h1 k hk)
theorem Zca {pre : List Int} {ρ1 ρ2 : Roles} {w w1 : World} (h1 : ZA ρ1 pre w.heap.size) (hl : Later ρ1 ρ2 w1) (h2 : ZA ρ2 pre w1.heap.size) : ZA ρ2 pre w.heap.size := fun k hk => by
 rcases Nat.lt_or_ge k w1.heap.size with h | h
 ·rcases h1 k hk with h3 | ⟨s, h3⟩
  ·exact .inl ((hl k h).trans h3)
  ·exact .inr ⟨s, (hl k h).trans h3⟩
 ·exact h2 k h
theorem ZeQ (a b : List FRow) : totR (a ++ b) = totR a + totR b := by simp [totR]
theorem Zh0 (x : FRow) (j : Nat) : totR (partR x j) ≤ x.its.length := by
 unfold partR
 split
 ·simp [totR]
 ·simp [totR]
  omega
theorem Zko {pre : List Int} {ρ : Roles} {w : World} {f sp : Nat} {q : Int} {v : Value} {ns : List Nd} {qb : Int → Nat} {its : Int → List It} (h : RAt pre ρ w f sp q false v ns qb its) {k : Nat} {n : Nd} (hn : ns[k]? = some n) {d : Int} (h0 : 0 ≤ d) (h1 : d ≤ 1088) :
 RingAt pre ρ (w.setCell ⟨n.blk, 2, none⟩ (.int .i64 d)) f q false ((ns.map (rowOf its)).set k ⟨n.id, n.wt, d, its n.id⟩) := by
 have hg := ZaC.1 h.good
 have hg' : NdsOk false (ns.set k { n with df := d }) := ZaC.2 (fun m hm => by
  rcases ZaA hm with hm | rfl
  ·exact hg m hm
  ·have := hg n (List.mem_of_getElem? hn)
   exact ⟨this.1, this.2.1, h0, h1⟩)
 have hp := h.pre'.df_turn hn d hg'
 refine ⟨sp, v, _, qb, its, hp.full (fun m hm => ?_), ?_⟩
 ·rcases ZaA hm with hm | rfl
  ·exact h.full m hm
  ·exact h.full n (List.mem_of_getElem? hn)
 ·rw [Zbi]
  rfl
section
variable {pre : List Int} {ρ : Roles} {f : Nat} {q : Int} {rows : List FRow}
def rowO (x : FRow) (vi : Value) : Obj := .cells #[.int .i64 x.id, .int .i64 x.wt, .int .i64 x.df, vi] 143 (0, 0)
theorem ZcF {w : World} {b : Nat} {x : FRow} {vi : Value} (h : w.heap[b]? = some (rowO x vi)) : w.cell? ⟨b, 0, none⟩ = some (.int .i64 x.id) ∧ w.cell? ⟨b, 1, none⟩ = some (.int .i64 x.wt) ∧ w.cell? ⟨b, 2, none⟩ = some (.int .i64 x.df) ∧ w.cell? ⟨b, 3, none⟩ = some vi :=
 ⟨Za h rfl, Za h rfl, Za h rfl, Za h rfl⟩
set_option maxRecDepth 100000 in
set_option maxHeartbeats 8000000 in
theorem Zjg (hpre : pre ≠ []) (x : FRow) (vi : Value) (w : World) (hR : RingAt pre ρ w f q false rows) (hi : ItsAt w vi x.its) (hig : x.its ≠ [] → ∀ k, vi.ownBlock = some k → ¬ Part ρ pre k) (hx : I64 x.id) (hxi : ∀ y ∈ x.its, I64 y.id) (hf : totR rows + x.its.length < 1000000) :
 Calls Tryz.prog 136 #[.pointer (some ⟨f, 0, none⟩), .agg #[.int .i64 x.id, .int .i64 x.wt, .int .i64 x.df, vi]] w (Zfh pre ρ w f q rows x) := by
 obtain ⟨ai, ci, hvi⟩ := ZN hi
 have HI := Lib.hid hi
 have HIG := Lib.hid hig
 have HX := Lib.hid hx
 have HXI := Lib.hid hxi
 have HF := Lib.hid hf
 have HR := Lib.hid hR
 obtain ⟨sp, v, ns, qb, its, hr0, hrows⟩ := hR
 have hfalse : ∀ w1, Below w.heap.size w w1 → ¬ okIn rows x → Zfh pre ρ w f q rows x (.returned (.bool false)) w1 := fun w1 hb hn => by
  exact ⟨false, rows, fence ρ w, rfl, ⟨fun h => absurd h (by decide), fun h => absurd h hn⟩, Zg ρ w, fun k hk => .inl (by simp [fence, Nat.not_lt.2 hk]), (HR.out.later (Zg ρ w)).below hb, Fp.of_below hb, fun h => absurd h (by decide)⟩
 have HFALSE := Lib.hid hfalse
 have HR0 := Lib.hid hr0
 have HROWS := Lib.hid hrows
 clear hi hig hx hxi hf hr0 hrows hfalse
 subst hvi
 go_enter Tryz.func136, Tryz.ntmps136
 go_upto_region 1 with fail
 obtain ⟨w1, hw1⟩ : ∃ w1 : World, w1 = w.alloc (.cells #[.int .i64 x.id, .int .i64 x.wt, .int .i64 x.df, .slice ai x.its.length ci] 143) := ⟨_, rfl⟩
 obtain ⟨bx, hbx⟩ : ∃ bx : Nat, bx = w.heap.size := ⟨_, rfl⟩
 rw [← hw1, ← hbx]
 have hx1 : w1.heap[bx]? = some (rowO x (.slice ai x.its.length ci)) := by rw [hw1, hbx]; exact Zf
 have HX1 := Lib.hid hx1
 have HBX := Lib.hid hbx
 have HB1 := Lib.hid (show Below w.heap.size w w1 by rw [hw1]; exact box_below)
 clear hw1 hbx
 obtain ⟨k0, k1, k2, k3⟩ := ZcF hx1
 have d0 := cell_regrown k0
 have d2 := cell_regrown k2
 have d3 := cell_regrown k3
 have e0 := cell_regrown (Zc HB1.out HR0.out.c0)
 clear hx1
 by_cases hfd : ∃ n ∈ ns, n.id = x.id
 ·have hnot : ¬ okIn rows x := fun ho => by
   obtain ⟨n, hn, hid⟩ := hfd
   have h1 := ho.1
   unfold findF at h1
   rw [List.findIdx?_eq_none_iff] at h1
   have := h1 (rowOf its n) (by rw [HROWS.out]; exact List.mem_map_of_mem hn)
   simp [rowOf, hid] at this
  have HNOT := Lib.hid hnot
  obtain ⟨n, hn, hid⟩ := hfd
  obtain ⟨k, hk⟩ := List.mem_iff_getElem?.1 hn
  have hfind : ∀ (d : Nat) (os : Array Obj), Calls Tryz.prog 82 #[.pointer (some ⟨sp, 0, none⟩), .int .i64 x.id] (grow (redrawn w1 d) os) fun e w' => e = .returned (.pointer (some ⟨n.blk, 0, none⟩)) ∧ Below (grow (redrawn w1 d) os).heap.size (grow (redrawn w1 d) os) w' := fun d os => by
   have hS := (HR0.out.spin.below HB1.out).below (below_regrown w1 d os)
   exact Zbq x.id k n _ hS hk (hS.place hk hid)
  have HFIND := Lib.hid hfind
  clear hnot hn hid hk hfind
  refine wp_region_quiet_below (by kernel_rfl) (by kernel_rfl) ?_
  repeat (go_big_quiet_step (exact Calls.regrown_of (HFIND.out _ _)))
  refine wpQuiet_nil ?_
  rintro _ ⟨⟨dq, osq⟩, rfl⟩
  clear d0 d2 d3 e0 k0 k1 k2 k3
  go_wp2_with fail
  go_ret
  exact HFALSE.out _ (Zp HB1.out HB1.out.size) HNOT.out
 ·have hnew : ∀ n ∈ ns, n.id ≠ x.id := fun n hn e => hfd ⟨n, hn, e⟩
  have HNEW := Lib.hid hnew
  have hfind : ∀ (d : Nat) (os : Array Obj), Calls Tryz.prog 82 #[.pointer (some ⟨sp, 0, none⟩), .int .i64 x.id] (grow (redrawn w1 d) os) fun e w' => e = .returned (.pointer none) ∧ Below (grow (redrawn w1 d) os).heap.size (grow (redrawn w1 d) os) w' := fun d os =>
   Zbp x.id _ ((HR0.out.spin.below HB1.out).below (below_regrown w1 d os)) HNEW.out
  have HFIND := Lib.hid hfind
  clear hfd hnew hfind
  by_cases hbad : x.its = [] ∨ x.df < 0 ∨ 1088 < x.df
  ·have HNOT := Lib.hid (show ¬ okIn rows x from fun ho => by
    rcases hbad with h | h | h
    ·exact ho.2.2.2.1 h
    ·have := ho.2.1
     omega
    ·have := ho.2.2.1
     omega)
   have hcase : ((x.its.length : Int) == 0) = true ∨ (((x.its.length : Int) == 0) = false ∧ decide (x.df < 0) = true) ∨ (((x.its.length : Int) == 0) = false ∧ decide (x.df < 0) = false ∧ decide (1088 < x.df) = true) := by
    simp only [beq_iff_eq, beq_eq_false_iff_ne, decide_eq_true_eq, decide_eq_false_iff_not]
    by_cases h : x.its = []
    ·left
     simp [h]
    ·have := List.length_pos_iff.2 h
     rcases hbad with h' | h' | h'
     ·exact absurd h' h
     ·right
      left
      exact ⟨by omega, h'⟩
     ·right
      right
      exact ⟨by omega, by omega, h'⟩
   clear hbad
   rcases hcase with g1 | ⟨g1, g2⟩ | ⟨g1, g2, g3⟩
   ·refine wp_region_quiet_below (by kernel_rfl) (by kernel_rfl) ?_
    repeat (go_big_quiet_step (exact Calls.regrown_of (HFIND.out _ _)))
    refine wpQuiet_nil ?_
    rintro _ ⟨⟨dq, osq⟩, rfl⟩
    clear d0 d2 d3 e0 k0 k1 k2 k3
    go_wp2_with fail
    go_ret
    exact HFALSE.out _ (Zp HB1.out HB1.out.size) HNOT.out
   ·have h2 : x.df < 0 := of_decide_eq_true g2
    refine wp_region_quiet_below (by kernel_rfl) (by kernel_rfl) ?_
    repeat (go_big_quiet_step (exact Calls.regrown_of (HFIND.out _ _)))
    refine wpQuiet_nil ?_
    rintro _ ⟨⟨dq, osq⟩, rfl⟩
    clear d0 d2 d3 e0 k0 k1 k2 k3
    go_wp2_with fail
    go_ret
    exact HFALSE.out _ (Zp HB1.out HB1.out.size) HNOT.out
   ·have h3 : 1088 < x.df := of_decide_eq_true g3
    refine wp_region_quiet_below (by kernel_rfl) (by kernel_rfl) ?_
    repeat (go_big_quiet_step (exact Calls.regrown_of (HFIND.out _ _)))
    refine wpQuiet_nil ?_
    rintro _ ⟨⟨dq, osq⟩, rfl⟩
    clear d0 d2 d3 e0 k0 k1 k2 k3
    go_wp2_with fail
    go_ret
    exact HFALSE.out _ (Zp HB1.out HB1.out.size) HNOT.out
  ·have HGOOD := Lib.hid hbad
   have g1 : ((x.its.length : Int) == 0) = false := by
    rw [beq_eq_false_iff_ne]
    intro e
    exact hbad (.inl (List.length_eq_zero_iff.1 (by omega)))
   have g2 : decide (x.df < 0) = false := decide_eq_false (fun h => hbad (.inr (.inl h)))
   have g3 : decide (1088 < x.df) = false := decide_eq_false (fun h => hbad (.inr (.inr h)))
   clear hbad
   refine wp_region_quiet_below (by kernel_rfl) (by kernel_rfl) ?_
   repeat (go_big_quiet_step (exact Calls.regrown_of (HFIND.out _ _)))
   refine wpQuiet_nil ?_
   rintro _ ⟨⟨dq, osq⟩, rfl⟩
   clear d0 d2 d3 e0 k0 k1 k2 k3
   obtain ⟨w2, hw2⟩ : ∃ w2 : World, w2 = grow (redrawn w1 dq) osq := ⟨_, rfl⟩
   have HB2 := Lib.hid (show Below w1.heap.size w1 w2 by rw [hw2]; exact below_regrown w1 dq osq)
   rw [show (grow (redrawn w1 (Regrown.mk dq osq).d) (Regrown.mk dq osq).os) = w2 from hw2.symm]
   clear hw2
   have hBB := HB1.out.trans (HB2.out.mono HB1.out.size)
   have HBB := Lib.hid hBB
   have HX2 := Lib.hid ((HB2.out.block bx (Zb HX1.out)).trans HX1.out)
   have hz : ∀ j, w.heap.size ≤ j → fence ρ w j = [] := fun j hj => by simp [fence, Nat.not_lt.2 hj]
   have HZ := Lib.hid hz
   have HS2 := Lib.hid (show LState pre (fence ρ w) w2 f q rows x 0 w2 from ⟨⟨fence ρ w, Later.refl _ _, fun k hk => .inl (hz k (Nat.le_trans hBB.size hk)), by rw [show rows ++ partR x 0 = rows by simp [partR]]; exact (HR.out.later (Zg ρ w)).below hBB⟩, Fp.refl _ _, fun i y hi => by omega⟩)
   have hFD := Lib.hid (show findF x.id rows = none by
    unfold findF
    rw [List.findIdx?_eq_none_iff]
    intro r hr
    rw [HROWS.out] at hr
    obtain ⟨n, hn, rfl⟩ := List.mem_map.1 hr
    have := HNEW.out n hn
    simpa [rowOf] using this)
   have HNB := Lib.hid (show ∀ k, Part (fence ρ w) pre k → Part ρ pre k from fun k hk => ZaS hpre hk)
   obtain ⟨k0, k1, k2, k3⟩ := ZcF HX2.out
   clear hBB hz
   go_wp2_with fail
   go_loopg [34] x.its.length (fun g i wr => ∃ j : Nat, g = x.its.length - j ∧ i = .int .i64 j ∧ j ≤ x.its.length ∧ LState pre (Proofs.YtdbjihkgafhakaaGreatDoor.fence ρ w) w2 f q rows x j wr)
   case atStart => exact ⟨0, rfl, rfl, Nat.zero_le _, HS2.out⟩
   case round =>
    obtain ⟨j, hg, rfl, hj, hS⟩ := hrel
    have HG := Lib.hid hg
    have HS := Lib.hid hS
    clear hg hS k0 k1 k2 k3
    have hxr := HS.out.fp.heap HX2.out (fun ⟨s, hs⟩ => by
     rw [HZ.out bx (by rw [HBX.out]; exact Nat.le_refl _)] at hs
     exact hpre (List.append_eq_nil_iff.1 hs.symm).1)
    have HXR := Lib.hid hxr
    obtain ⟨k0, k1, k2, k3⟩ := ZcF hxr
    clear hxr
    by_cases hlt : j < x.its.length
    ·obtain ⟨y, hy⟩ : ∃ y, x.its[j]? = some y := ⟨_, List.getElem?_eq_getElem hlt⟩
     have HY := Lib.hid hy
     have hiw := (HI.out.below HBB.out).fp HS.out.fp (fun k hk hp => HIG.out (fun e => by rw [e] at hlt; simp at hlt) k hk (HNB.out k hp))
     obtain ⟨gi, offi, ci', hv, i0, i1⟩ := ZbA hiw hy
     cases hv
     have hjl : (j : Int) < (x.its.length : Int) := by omega
     have hbw := Zb HXR.out
     clear hy hiw
     go_wp2_with fail
     obtain ⟨ρ', hl', hn', hR'⟩ := HS.out.ring
     have hfew : totR (rows ++ partR x j) < 1000000 := by
      have h1 := Zh0 x j
      have h2 := HF.out
      rw [ZeQ]
      omega
     refine (ZcQ hpre x.id x.wt y _ (hR'.below (box_below (o := .cells #[.int .i64 y.id, .int .i64 y.cost] 132))) HX.out (HXI.out y (List.mem_of_getElem? HY.out)) hfew).mono ?_
     rintro e w9 ⟨rfl, ρ9, hl9, hn9, hR9, hF9⟩
     have hsz : wr.heap.size ≤ (wr.alloc (.cells #[.int .i64 y.id, .int .i64 y.cost] 132)).heap.size := by simp
     have hl29 : Later (fence ρ w) ρ9 w2 := Zaf hl' hl9 (Nat.le_trans HS.out.fp.size hsz)
     have hn29 : ZA ρ9 pre w2.heap.size := Zca hn' hl9 (fun k hk => hn9 k hk)
     have hF29 : Fp (Part (fence ρ w) pre) w2 w9 := (HS.out.fp.then_below box_below).trans hF9 (fun k hk hp => ZaE hl' hk hp)
     have HL29 := Lib.hid hl29
     have HN29 := Lib.hid hn29
     have HF29 := Lib.hid hF29
     have HR9 := Lib.hid hR9
     have HPP := Lib.hid (ZgT (j := j) (y := y) hFD.out)
     clear hl' hn' hR' hfew hl9 hn9 hR9 hF9 hsz hl29 hn29 hF29 i0 i1
     by_cases h0 : pushE x.id x.wt y (rows ++ partR x j) = 0
     ·have hne : (pushE x.id x.wt y (rows ++ partR x j) != 0) = false := by simp [h0]
      have H0 := Lib.hid h0
      clear h0
      go_wp2_with fail
      go_roundg (x.its.length - (j + 1))
      case rel =>
       have hf := HF.out
       refine ⟨j + 1, rfl, by rw [show wrap64 ((j : Int) + 1) = ((j + 1 : Nat) : Int) by unfold wrap64; omega], by omega, ⟨ρ9, HL29.out, HN29.out, ?_⟩, HF29.out, fun i z hi hz => ?_⟩
       ·rw [← ZgU hFD.out HY.out H0.out]
        exact HR9.out
       ·rcases Nat.lt_or_ge i j with h | h
        ·exact HS.out.ok i z h hz
        ·obtain rfl : i = j := by omega
         obtain rfl : y = z := Option.some.inj (HY.out.symm.trans hz)
         have h := HPP.out.symm.trans H0.out
         split at h
         ·cases h
         ·rename_i hb
          exact ⟨hb, h⟩
      case measure => have := HG.out; omega
     ·have hne : (pushE x.id x.wt y (rows ++ partR x j) != 0) = true := by simp [h0]
      have HNOT := Lib.hid (show ¬ okIn rows x from fun ho => h0 (by rw [HPP.out, if_neg ho.2.2.2.2.1]; exact ho.2.2.2.2.2 j y HY.out))
      clear h0
      go_wp2_with fail
      go_ret
      refine ⟨false, _, ρ9, rfl, ⟨fun h => absurd h (by decide), fun h => absurd h HNOT.out⟩, Zaf (Zg ρ w) HL29.out HBB.out.size, ?_, HR9.out, ((Fp.of_below HBB.out).trans HF29.out (fun k _ hp => HNB.out k hp)), fun h => absurd h (by decide)⟩
      exact Zca (ρ1 := fence ρ w) (fun k hk => .inl (HZ.out k hk)) HL29.out HN29.out
    ·have hjj : j = x.its.length := by omega
     obtain ⟨ρ', hl', hn', hR'⟩ := HS.out.ring
     have hok : okRow x := by
      have hne : x.its ≠ [] := fun h => HGOOD.out (.inl h)
      obtain ⟨y, ys, hy⟩ : ∃ y ys, x.its = y :: ys := by
       cases h : x.its with
       | nil => exact absurd h hne
       | cons y ys => exact ⟨y, ys, rfl⟩
      have hpos : 0 < j := by rw [hjj, hy]; simp
      refine ⟨(HS.out.ok 0 y hpos (by rw [hy]; rfl)).1, fun i z hz => (HS.out.ok i z ?_ hz).2⟩
      have := (List.getElem?_eq_some_iff.1 hz).1
      omega
     have hpr : partR x j = [⟨x.id, x.wt, 0, x.its⟩] := by
      have hne : j ≠ 0 := fun h => HGOOD.out (.inl (List.length_eq_zero_iff.1 (by omega)))
      unfold partR
      rw [if_neg hne, hjj, List.take_length]
     have HOK := Lib.hid (show okIn rows x from ⟨hFD.out, Int.not_lt.1 (fun h => HGOOD.out (.inr (.inl h))), Int.not_lt.1 (fun h => HGOOD.out (.inr (.inr h))), fun h => HGOOD.out (.inl h), hok⟩)
     rw [hpr] at hR'
     obtain ⟨sp', v', ns', qb', its', hr', hrows'⟩ := hR'
     obtain ⟨n, hn, hne⟩ := hr'.rowAt (k := rows.length) (r := ⟨x.id, x.wt, 0, x.its⟩) (by rw [← hrows', List.getElem?_append_right (Nat.le_refl _)]; simp)
     have HR' := Lib.hid hr'
     have HN := Lib.hid hn
     have HNE := Lib.hid hne
     have HROWS' := Lib.hid hrows'
     have HL' := Lib.hid hl'
     have HN' := Lib.hid hn'
     have e0 := hr'.c0
     have hnid : n.id = x.id := (congrArg FRow.id hne).symm
     have HPL := Lib.hid (show Zbh x.id ns' = (rows.length : Nat) from hr'.spin.place hn hnid)
     have hnl : n.blk < wr.heap.size := Zb (hr'.spin.node _ n hn).2
     have HD0 := Lib.hid (show Below wr.heap.size wr wr.drew from ⟨rfl, rfl, rfl, Nat.le_refl _, fun _ _ => rfl⟩)
     have hrn := (hr'.spin.node _ n hn).1
     have hfn : ¬ f = n.blk := fun e => by
      have h := hr'.rf
      rw [e, hrn] at h
      simp at h
     have hbn : ¬ bx = n.blk := fun e => by
      have h := hl' bx (Zb HX2.out)
      rw [HZ.out bx (by rw [HBX.out]; exact Nat.le_refl _), e, hrn] at h
      simp at h
     clear hjj hok hpr hr' hrows' hn hne hnid hl' hn' hrn
     go_upto_region 9 with fail
     go_region_held3 (fun w' => w'.cell? ⟨f, 0, none⟩ = some (.pointer (some ⟨sp', 0, none⟩)) ∧ w'.cell? ⟨bx, 0, none⟩ = some (.int .i64 x.id) ∧ w'.cell? ⟨bx, 2, none⟩ = some (.int .i64 x.df))
      (first | go_keep | exact ⟨Zc hb9 e0, Zc hb9 k0, Zc hb9 k2⟩ | exact ⟨hF9.cell (Zc hb9 e0) hfn, hF9.cell (Zc hb9 k0) hbn, hF9.cell (Zc hb9 k2) hbn⟩)
      (first
        | (go_at_call 82; refine (Zbq x.id rows.length n _ (HR'.out.spin.below HD0.out) HN.out HPL.out).mono ?_; rintro e w9 ⟨rfl, hb9'⟩; (have hb9 := HD0.out.trans hb9'); (have hnn := (hb9.block n.blk hnl).trans (HR'.out.spin.node _ n HN.out).2); (have q2 : w9.cell? ⟨n.blk, 2, none⟩ = some (.int .i64 n.df) := Za hnn rfl); (have q3 : w9.frozen? ⟨n.blk, 2, none⟩ = false := Zd hnn); (have hF9 : Fp (fun j => j = n.blk) w9 (w9.setCell ⟨n.blk, 2, none⟩ (.int .i64 x.df)) := (Fp.refl (fun j => j = n.blk) w9).setCell (p := ⟨n.blk, 2, none⟩) (fun _ => rfl) _); clear hnn))
     have HB9 := Lib.hid hb9
     have HF9 := Lib.hid hF9
     clear q2 q3 hF9 hb9 hb9' e0 k0 k1 k2 k3
     go_wp2_with fail
     go_ret
     have hset := Zko (HR'.out.below HB9.out) HN.out HOK.out.2.1 HOK.out.2.2.1
     have hrole : Part ρ' pre n.blk := ⟨_, (HR'.out.spin.node _ n HN.out).1⟩
     have hFall : Fp (Part (fence ρ w) pre) w2 (w9.setCell ⟨n.blk, 2, none⟩ (.int .i64 x.df)) := (HS.out.fp.then_below HB9.out).trans HF9.out (fun k hk e => by
      rw [e] at hk ⊢
      exact ZaE HL'.out hk hrole)
     refine ⟨true, _, ρ', rfl, ⟨fun _ => HOK.out, fun _ => rfl⟩, Zaf (Zg ρ w) HL'.out HBB.out.size, ?_, hset, (Fp.of_below HBB.out).trans hFall (fun k _ hp => HNB.out k hp), fun _ => ?_⟩
     ·exact Zca (ρ1 := fence ρ w) (fun k hk => .inl (HZ.out k hk)) HL'.out HN'.out
     ·rw [← HROWS'.out]
      have h := HNE.out
      have h1 : n.id = x.id := (congrArg FRow.id h).symm
      have h2 : n.wt = x.wt := (congrArg FRow.wt h).symm
      have h3 : its' n.id = x.its := (congrArg FRow.its h).symm
      rw [h3, h1, h2, List.set_append_right _ _ (Nat.le_refl _)]
      simp
end
end Go.Proofs.YtdbjihkgafhakaaGreatDoor
