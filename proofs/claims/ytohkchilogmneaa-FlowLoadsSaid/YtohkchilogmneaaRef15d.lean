/-
  ref15 (flows): Take: the walk.
-/
import Derived.Test.YtohkchilogmneaaRef15c
namespace Go.Proofs.Ytohkchilogmneaa
open Go.RowKit
variable {G : Nat → Prop}

theorem picks_ok {q : Int} {gv : Bool} {l l2 : List FRow} (h : PicksR q gv l l2) (hq1 : 1 ≤ q) (hq : q ≤ 64) (hok : RowsOk gv l) : RowsOk true l2 := by
  induction h with
  | @grant gv x r h =>
    refine ⟨?_, fun y hy => ?_⟩
    · show NdsOk true (ndOf (chargeR q gv x) :: r.map ndOf)
      rw [ndOf_charge]
      exact ⟨charge_ok hq1 hq hok.nds.1, hok.nds.2⟩
    · rcases List.mem_cons.1 hy with rfl | hy
      · rw [(chargeR_its q gv x).1]
        exact hok.full x List.mem_cons_self
      · exact hok.full y (List.mem_cons_of_mem _ hy)
  | @rotate gv x r l2 h hr ih =>
    refine ih ⟨?_, fun y hy => ?_⟩
    · rw [List.map_append, List.map_cons, List.map_nil, ndsOk_false]
      intro m hm
      rcases List.mem_append.1 hm with hm | hm
      · exact hok.nds.2 m hm
      · rw [List.mem_singleton] at hm
        subst hm
        have hc := charge_ok hq1 hq hok.nds.1
        have hd : (charge q gv (ndOf x)).df = (chargeR q gv x).df := by rw [← ndOf_charge]; rfl
        rw [ndOf_charge]
        refine ⟨hc.1, hc.2.1, hc.2.2.1, ?_⟩
        obtain ⟨y, ys, hy, h1, h2⟩ := hok.full x List.mem_cons_self
        have hh : headC x.its = y.cost := by rw [hy]; rfl
        omega
    · rcases List.mem_append.1 hy with hy | hy
      · exact hok.full y (List.mem_cons_of_mem _ hy)
      · rw [List.mem_singleton] at hy
        subst hy
        rw [(chargeR_its q gv x).1]
        exact hok.full x List.mem_cons_self
theorem picks_once {q : Int} {gv : Bool} {l l2 : List FRow} (h : PicksR q gv l l2) (ho : ∀ r ∈ l, (r.its.map It.id).Nodup) : ∀ r ∈ l2, (r.its.map It.id).Nodup := by
  induction h with
  | @grant gv x r h =>
    intro y hy
    rcases List.mem_cons.1 hy with rfl | hy
    · rw [(chargeR_its q gv x).1]
      exact ho x List.mem_cons_self
    · exact ho y (List.mem_cons_of_mem _ hy)
  | @rotate gv x r l2 h hr ih =>
    refine ih (fun y hy => ?_)
    rcases List.mem_append.1 hy with hy | hy
    · exact ho y (List.mem_cons_of_mem _ hy)
    · rw [List.mem_singleton] at hy
      subst hy
      rw [(chargeR_its q gv x).1]
      exact ho x List.mem_cons_self
theorem cell_past {w : World} {o n : Nat} {u t : Value} {T : TypeId} (h : w.heap[o]? = some (.cells #[u, t] T (0, 0))) (hn : 2 ≤ n) (z : Value) : w.cell? ⟨o, n, none⟩ ≠ some z := by
  intro e
  simp [World.cell?, h, hn] at e
theorem RefAt.box {w w' : World} {b o : Nat} {q : Int} {gv : Bool} {v u t : Value} {T : TypeId} {l : List (FRow × Value)} (h : RefAt G w b q gv v l) (hF : Fp (fun j => j = o) w w') (hob : ¬ b = o) (ho : w.heap[o]? = some (.cells #[u, t] T (0, 0))) (hI : ∀ p ∈ l, ∀ k, p.2.ownBlock = some k → ¬ k = o) : RefAt G w' b q gv v l := by
  refine ⟨hF.heap h.head hob, ?_, fun hl => (h.vg hl).grow hF.size, fun p hp => (h.ig p hp).grow hF.size, h.nb, fun k hk => h.up k (Nat.le_trans hF.size hk), h.few, h.fews⟩
  rcases l with _ | ⟨p, r⟩
  · obtain ⟨⟨a, cap, hv, hle, _⟩, _⟩ := h.rows
    exact ⟨⟨a, cap, hv, hle, fun j u hu => by simp [flatRV] at hu⟩, fun p hp => by cases hp⟩
  · refine h.rows.fp hF (fun k hk e => ?_) hI
    obtain ⟨g, off, cap, rfl, _, _, _, _, c3⟩ := h.rows.at (k := 0) rfl
    have hg : g = k := by simpa [Value.ownBlock] using hk
    rw [hg, e] at c3
    exact cell_past ho (by omega) _ c3
def RTPost (G : Nat → Prop) (b : Nat) (q : Int) (gv : Bool) (rows : List FRow) (w : World) (e : Ending) (w' : World) : Prop :=
  ∃ row rest v' l', e = .returned (.tuple #[.int .i64 row.id, itV (row.its.headD ⟨0, 0⟩), .bool true]) ∧ PicksR q gv rows (row :: rest) ∧ RefAt G w' b q (tookR row rest).1 v' l' ∧ l'.map Prod.fst = (tookR row rest).2 ∧ Fp (fun j => j = b) w w'
set_option maxRecDepth 100000 in
set_option maxHeartbeats 1000000 in
theorem r15Take_nil (b : Nat) (q : Int) (gv : Bool) (v : Value) (w : World) (h : RefAt G w b q gv v []) : Calls Try.prog 59 #[.pointer (some ⟨b, 0, none⟩)] w fun e w' => e = .returned (.tuple #[.int .i64 0, .agg #[.int .i64 0, .int .i64 0], .bool false]) ∧ Below w.heap.size w w' := by
  have HR := Lib.hid h
  clear h
  go_enter Try.func59, Try.ntmps59
  go_wp2_with fail
  refine (r15Pick_nil b q gv v _ (HR.out.below box_below)).mono ?_
  rintro e w2 ⟨rfl, hb⟩
  have HB := Lib.hid (box_below2 hb)
  have hh2 := (hb.block w.heap.size (by simp)).trans fr_alloc_at
  have HH2 := Lib.hid hh2
  have HZ := Lib.hid (item_sz ⟨0, 0⟩)
  clear hb hh2
  go_wp2_with (refine wpList_store_row rfl 37 _ _ rfl w.heap.size #[.int .i64 0, .int .i64 0] rfl rfl 37 _ HH2.out HZ.out rfl (item_one ⟨0, 0⟩) ?_)
  refine bodyPost_ret (v := .tuple #[.int .i64 0, .agg #[.int .i64 0, .int .i64 0], .bool false]) (results_mid Try.results59 rfl rfl rfl (setRow_heap _ w.heap.size _ _ _ _ HH2.out) Try.underlying37 rfl HZ.out) rfl ⟨rfl, ?_⟩
  exact (Fp.of_below (S := fun k => k = w.heap.size) HB.out).setRow (fun _ => rfl) |>.below (Nat.le_refl _) (fun k hk e => by omega)
set_option maxRecDepth 100000 in
set_option maxHeartbeats 4000000 in
/-- THE WALK: Take. -/
theorem r15Take_cons (b : Nat) (q : Int) (gv : Bool) (v : Value) (l : List (FRow × Value)) (w : World) (h : RefAt G w b q gv v l) (hne : l ≠ []) (hq1 : 1 ≤ q) (hq : q ≤ 64) (hok : RowsOk gv (l.map Prod.fst)) (hon : ∀ r ∈ l.map Prod.fst, (r.its.map It.id).Nodup) :
    Calls Try.prog 59 #[.pointer (some ⟨b, 0, none⟩)] w (RTPost G b q gv (l.map Prod.fst) w) := by
  have HR := Lib.hid h
  have HNE := Lib.hid hne
  have HQ1 := Lib.hid hq1
  have HQ := Lib.hid hq
  have HOK := Lib.hid hok
  have HON := Lib.hid hon
  have hbw := fp_lt_of_heap h.head
  clear h hne hq1 hq hok hon
  go_enter Try.func59, Try.ntmps59
  go_wp2_with fail
  refine (r15Pick_cons b q gv v l _ (HR.out.below box_below) HNE.out HQ1.out HQ.out HOK.out).mono ?_
  rintro e w2 ⟨rfl, v2, l2, hR2, hp, hF2⟩
  obtain ⟨x0, rest0, he, hle⟩ := hp.le
  obtain ⟨p, r, rfl⟩ : ∃ p r, l2 = p :: r := by
    cases l2 with
    | nil => cases he
    | cons p r => exact ⟨p, r, rfl⟩
  rw [List.map_cons, List.cons.injEq] at he
  obtain ⟨rfl, rfl⟩ := he
  have hh2 := hF2.heap fr_alloc_at (show ¬ w.heap.size = b by omega)
  have HH2 := Lib.hid hh2
  have HR2 := Lib.hid hR2
  have HP := Lib.hid hp
  have HF2 := Lib.hid ((Fp.of_below (S := fun j => j = b) box_below).trans hF2 (fun _ _ h => h))
  have HLE := Lib.hid hle
  have HOK2 := Lib.hid (picks_ok hp HQ1.out HQ.out HOK.out)
  clear hh2 hR2 hp hF2 hle
  obtain ⟨gb, off, cap', hv, hcap, c0, c1, c2, c3⟩ := HR2.out.rows.at (k := 0) (p := p) rfl
  obtain ⟨x, xs, hx, hx1, hx2⟩ := HOK2.out.full p.1 List.mem_cons_self
  have HX := Lib.hid hx
  have honx : dropIt (x :: xs) x.id = xs := by
    have h := picks_once HP.out HON.out p.1 List.mem_cons_self
    rw [hx] at h
    rw [drop_erase h (i := 0) rfl]
    rfl
  have HDR := Lib.hid honx
  clear honx
  have hpi := HR2.out.rows.its p List.mem_cons_self
  rw [hx] at hpi
  obtain ⟨pa, po, pc, hpv, i0, i1⟩ := its_at hpi (k := 0) rfl
  have HPI := Lib.hid hpi
  have HV := Lib.hid hv
  have HPV := Lib.hid hpv
  rw [hpv] at c3
  simp only [Nat.zero_mul, Nat.add_zero, List.length_cons] at c0 c1 c2 c3 i0 i1
  have b1 : w2.cell? ⟨b, 1, none⟩ = some (.slice (some ⟨gb, off, none⟩) (r.length + 1) cap') := by rw [← List.length_cons (a := p), ← hv]; exact fr_cell_of_heap HR2.out.head rfl
  clear hv hpv hx hpi
  go_upto_region 4 with fail
  obtain ⟨w3, hw3⟩ : ∃ w3 : World, w3 = w2.alloc (.cells #[.int .i64 p.1.id, .int .i64 p.1.wt, .int .i64 p.1.df, .slice (some ⟨pa, po, none⟩) (xs.length + 1) pc] 56) := ⟨_, rfl⟩
  obtain ⟨bx, hbx⟩ : ∃ bx : Nat, bx = w2.heap.size := ⟨_, rfl⟩
  rw [← hw3, ← hbx]
  have hB3 : Below w2.heap.size w2 w3 := by rw [hw3]; exact box_below
  have hX3 : w3.heap[bx]? = some (.cells #[.int .i64 p.1.id, .int .i64 p.1.wt, .int .i64 p.1.df, .slice (some ⟨pa, po, none⟩) (xs.length + 1) pc] 56 (0, 0)) := by rw [hw3, hbx]; exact fr_alloc_at
  have x3 : w3.cell? ⟨bx, 3, none⟩ = some (.slice (some ⟨pa, po, none⟩) (xs.length + 1) pc) := fr_cell_of_heap hX3 rfl
  have HX3 := Lib.hid hX3
  have HB3 := Lib.hid hB3
  have HBX := Lib.hid hbx
  have i0 := (Fp.of_below (S := fun _ => False) hB3).cell i0 (fun h => h)
  have i1 := (Fp.of_below (S := fun _ => False) hB3).cell i1 (fun h => h)
  have hz3 : w3.heap.size = bx + 1 := by rw [hw3, hbx]; simp
  have HZ3 := Lib.hid hz3
  clear hw3 hX3 hB3 hbx b1 c0 c1 c2 c3 hz3
  go_upto_region 5 with fail
  obtain ⟨w4, hw4⟩ : ∃ w4 : World, w4 = w3.alloc (.cells #[.int .i64 x.id, .int .i64 x.cost] 37) := ⟨_, rfl⟩
  obtain ⟨bi, hbi⟩ : ∃ bi : Nat, bi = w3.heap.size := ⟨_, rfl⟩
  rw [← hw4, ← hbi]
  have hB4 : Below w3.heap.size w3 w4 := by rw [hw4]; exact box_below
  have hX4 : w4.heap[bx]? = some (.cells #[.int .i64 p.1.id, .int .i64 p.1.wt, .int .i64 p.1.df, .slice (some ⟨pa, po, none⟩) (xs.length + 1) pc] 56 (0, 0)) := (hB4.block bx (fp_lt_of_heap HX3.out)).trans HX3.out
  have hI4 : w4.heap[bi]? = some (.cells #[.int .i64 x.id, .int .i64 x.cost] 37 (0, 0)) := by rw [hw4, hbi]; exact fr_alloc_at
  have x3 : w4.cell? ⟨bx, 3, none⟩ = some (.slice (some ⟨pa, po, none⟩) (xs.length + 1) pc) := fr_cell_of_heap hX4 rfl
  have y0 : w4.cell? ⟨bi, 0, none⟩ = some (.int .i64 x.id) := fr_cell_of_heap hI4 rfl
  have HX4 := Lib.hid hX4
  have HI4 := Lib.hid hI4
  have HB4 := Lib.hid hB4
  have HBI := Lib.hid hbi
  clear hw4 hX4 hB4 hbi hI4 i0 i1
  go_wp2_with fail
  have hit4 : ItsAt w4 (.slice (some ⟨pa, po, none⟩) (xs.length + 1) pc) (x :: xs) := by
    have h := HPI.out
    rw [HPV.out] at h
    exact (h.below HB3.out).below HB4.out
  refine (r14Drop_any x.id _ (x :: xs) w4 hit4 (by rw [← HX.out]; exact HR2.out.fews p List.mem_cons_self)).mono ?_
  rintro e w5 ⟨v5, rfl, ho5, hB5⟩
  rw [HDR.out] at ho5
  obtain ⟨a5, c5, rfl⟩ := its_form (ItsAt.own ho5)
  have hX5 : w5.heap[bx]? = some (.cells #[.int .i64 p.1.id, .int .i64 p.1.wt, .int .i64 p.1.df, .slice (some ⟨pa, po, none⟩) (xs.length + 1) pc] 56 (0, 0)) := (hB5.block bx (fp_lt_of_heap HX4.out)).trans HX4.out
  have hI5 : w5.heap[bi]? = some (.cells #[.int .i64 x.id, .int .i64 x.cost] 37 (0, 0)) := (hB5.block bi (fp_lt_of_heap HI4.out)).trans HI4.out
  have f3 : w5.frozen? ⟨bx, 3, none⟩ = false := fr_free_of_heap hX5
  have HX5 := Lib.hid hX5
  have HI5 := Lib.hid hI5
  have HO5 := Lib.hid ho5
  have HB5 := Lib.hid hB5
  have hnb : bx ≠ bi := by rw [HBI.out, HZ3.out]; omega
  have HNB := Lib.hid hnb
  clear hX5 hI5 ho5 hB5 x3 y0 hit4 hnb
  have x3 : w5.cell? ⟨bx, 3, none⟩ = some (.slice (some ⟨pa, po, none⟩) (xs.length + 1) pc) := fr_cell_of_heap HX5.out rfl
  go_upto_region 6 with fail
  obtain ⟨w6, hw6⟩ : ∃ w6 : World, w6 = w5.setCell ⟨bx, 3, none⟩ (.slice a5 xs.length c5) := ⟨_, rfl⟩
  rw [← hw6]
  have hF6 : Fp (fun j => j = bx) w5 w6 := by rw [hw6]; exact (Fp.refl (fun j => j = bx) w5).setCell (p := ⟨bx, 3, none⟩) (fun _ => rfl) _
  have hX6 : w6.heap[bx]? = some (.cells #[.int .i64 p.1.id, .int .i64 p.1.wt, .int .i64 p.1.df, .slice a5 xs.length c5] 56 (0, 0)) := by rw [hw6]; exact fr_setCell_at HX5.out
  have hI6 : w6.heap[bi]? = some (.cells #[.int .i64 x.id, .int .i64 x.cost] 37 (0, 0)) := hF6.heap HI5.out (fun e => HNB.out e.symm)
  have x2 : w6.cell? ⟨bx, 2, none⟩ = some (.int .i64 p.1.df) := fr_cell_of_heap hX6 rfl
  have y1 : w6.cell? ⟨bi, 1, none⟩ = some (.int .i64 x.cost) := fr_cell_of_heap hI6 rfl
  have f2 : w6.frozen? ⟨bx, 2, none⟩ = false := fr_free_of_heap hX6
  have hws : wrap64 (p.1.df - x.cost) = p.1.df - x.cost := by
    have h : NdOk 2112 (ndOf p.1) := HOK2.out.nds.1
    have h0 : 0 ≤ p.1.df := h.2.2.1
    have h1 : p.1.df ≤ 2112 := h.2.2.2
    unfold wrap64
    omega
  have HX6 := Lib.hid hX6
  have HI6 := Lib.hid hI6
  have HF6 := Lib.hid hF6
  clear hw6 hX6 hI6 hF6 f3 x3
  go_upto_region 7 with fail
  obtain ⟨w7, hw7⟩ : ∃ w7 : World, w7 = w6.setCell ⟨bx, 2, none⟩ (.int .i64 (p.1.df - x.cost)) := ⟨_, rfl⟩
  rw [← hw7]
  have hF7 : Fp (fun j => j = bx) w6 w7 := by rw [hw7]; exact (Fp.refl (fun j => j = bx) w6).setCell (p := ⟨bx, 2, none⟩) (fun _ => rfl) _
  have hX7 : w7.heap[bx]? = some (.cells #[.int .i64 p.1.id, .int .i64 p.1.wt, .int .i64 (p.1.df - x.cost), .slice a5 xs.length c5] 56 (0, 0)) := by rw [hw7]; exact fr_setCell_at HX6.out
  have hI7 : w7.heap[bi]? = some (.cells #[.int .i64 x.id, .int .i64 x.cost] 37 (0, 0)) := hF7.heap HI6.out (fun e => HNB.out e.symm)
  have x0 : w7.cell? ⟨bx, 0, none⟩ = some (.int .i64 p.1.id) := fr_cell_of_heap hX7 rfl
  have x1 : w7.cell? ⟨bx, 1, none⟩ = some (.int .i64 p.1.wt) := fr_cell_of_heap hX7 rfl
  have x2 : w7.cell? ⟨bx, 2, none⟩ = some (.int .i64 (p.1.df - x.cost)) := fr_cell_of_heap hX7 rfl
  have x3 : w7.cell? ⟨bx, 3, none⟩ = some (.slice a5 xs.length c5) := fr_cell_of_heap hX7 rfl
  have HX7 := Lib.hid hX7
  have HI7 := Lib.hid hI7
  have HF7 := Lib.hid hF7
  clear hw7 hX7 hI7 hF7 f2 y1 hws
  go_wp2_with fail
  have hF57 : Fp (fun j => j = bx) w5 w7 := HF6.out.trans HF7.out (fun _ _ h => h)
  have hR5 := ((HR2.out.below HB3.out).below HB4.out).below HB5.out
  have hbw2 := fp_lt_of_heap HR2.out.head
  have hbxb : ¬ b = bx := by rw [HBX.out]; omega
  have hbw4 : w4.heap.size ≥ w3.heap.size := HB4.out.size
  have hR7 : RefAt G w7 b q true v2 (p :: r) := hR5.fp hF57 hbxb (fun j hj e => by
    rw [HBX.out] at e
    have := rows_lt HR2.out.rows.rows (by simp) j hj
    omega) (fun p' hp' j hj e => by
    rw [HBX.out] at e
    obtain ⟨y, ys, hy, _⟩ := HOK2.out.full p'.1 (List.mem_map_of_mem hp')
    have := its_lt (HR2.out.rows.its p' hp') (by rw [hy]; simp) j hj
    omega)
  have hit7 : ItsAt w7 (.slice a5 xs.length c5) xs := (ItsAt.own HO5.out).fp hF57 (fun j hj e => by
    have h1 := own_block HO5.out j hj
    have h2 := HZ3.out
    omega)
  have hvb : InG G w7 (Value.slice a5 xs.length c5) := (own_inG HO5.out (fun k hk => ((HR2.out.below HB3.out).below HB4.out).up k hk)).grow hF57.size
  have hfew : xs.length ≤ 1000000 := by
    have h := HR2.out.fews p List.mem_cons_self
    rw [HX.out, List.length_cons] at h
    omega
  refine (r15With_any b q true v2 (p :: r) 0 { p.1 with df := p.1.df - x.cost, its := xs } (.slice a5 xs.length c5) w7 hR7 (by simp) hit7 hvb hfew).mono ?_
  rintro e w8 ⟨rfl, hF8, v8, hR8⟩
  have hX8 := hF8.heap HX7.out (fun e => hbxb e.symm)
  have hbi : ¬ bi = b := by
    have h2 := HZ3.out
    have h3 := HBX.out
    have h4 := HBI.out
    omega
  have hI8 := hF8.heap HI7.out hbi
  have hwb : ¬ w.heap.size = b := by omega
  have hw2 := fp_lt_of_heap HH2.out
  have hH5 := (HB5.out.block w.heap.size (by have := HZ3.out; have := HBX.out; omega)).trans ((HB4.out.block w.heap.size (by have := HZ3.out; have := HBX.out; omega)).trans ((HB3.out.block w.heap.size hw2).trans HH2.out))
  have hH8 := hF8.heap (hF57.heap hH5 (by rw [HBX.out]; omega)) hwb
  have HH8 := Lib.hid hH8
  have HX8 := Lib.hid hX8
  have HI8 := Lib.hid hI8
  have HF8 := Lib.hid hF8
  have HR8 := Lib.hid hR8
  have HF57 := Lib.hid hF57
  have z0 : w8.cell? ⟨bx, 0, none⟩ = some (.int .i64 p.1.id) := fr_cell_of_heap hX8 rfl
  have y0 : w8.cell? ⟨bi, 0, none⟩ = some (.int .i64 x.id) := fr_cell_of_heap hI8 rfl
  have y1 : w8.cell? ⟨bi, 1, none⟩ = some (.int .i64 x.cost) := fr_cell_of_heap hI8 rfl
  clear hF57 hR5 hR7 hit7 hvb hfew hF8 hR8 hX8 hI8 hH5 hH8 x0 x1 x2 x3
  have t0 : w8.cell? ⟨w.heap.size, 0, none⟩ = some (.int .i64 0) := fr_cell_of_heap HH8.out rfl
  have t1 : w8.cell? ⟨w.heap.size, 1, none⟩ = some (.int .i64 0) := fr_cell_of_heap HH8.out rfl
  have g0 : w8.frozen? ⟨w.heap.size, 0, none⟩ = false := fr_free_of_heap HH8.out
  have g1 : w8.frozen? ⟨w.heap.size, 1, none⟩ = false := fr_free_of_heap HH8.out
  go_upto_region 8 with fail
  go_region
  clear z0 y0 y1 t0 t1 g0 g1
  go_wp2_with fail
  obtain ⟨w9, hw9⟩ : ∃ w9 : World, w9 = ((w8.setCell ⟨w.heap.size, 0, none⟩ (.int .i64 x.id)).setCell ⟨w.heap.size, 1, none⟩ (.int .i64 x.cost)).drew := ⟨_, rfl⟩
  have hh9 : w9.heap[w.heap.size]? = some (.cells #[.int .i64 x.id, .int .i64 x.cost] 37 (0, 0)) := by rw [hw9]; exact fr_setCell_at (fr_setCell_at HH8.out)
  have HF9 := Lib.hid (show Fp (fun k => k = w.heap.size) w8 w9 by
    rw [hw9]
    exact (((Fp.refl (fun k => k = w.heap.size) w8).setCell (p := ⟨w.heap.size, 0, none⟩) (fun _ => rfl) _).setCell (p := ⟨w.heap.size, 1, none⟩) (fun _ => rfl) _).drew)
  rw [← hw9]
  clear hw9
  refine bodyPost_ret (v := .tuple #[.int .i64 p.1.id, .agg #[.int .i64 x.id, .int .i64 x.cost], .bool true]) (results_mid Try.results59 rfl rfl rfl hh9 Try.underlying37 rfl (item_sz x)) rfl ?_
  have hsz3 := HZ3.out
  have hbxe := HBX.out
  have hF := (((((HF2.out.then_below HB3.out).then_below HB4.out).then_below HB5.out).trans HF57.out (fun j hj e => by omega)).trans HF8.out (fun _ _ h => h)).trans HF9.out (fun j hj e => by omega)
  have hres := HR8.out.box HF9.out (fun e => by omega) HH8.out (fun p' hp' k hk e => by
    rcases with_mem hp' with hp' | rfl
    · obtain ⟨y, ys, hy, hy1, hy2⟩ := HOK2.out.full p'.1 (List.mem_map_of_mem hp')
      have hi := HR2.out.rows.its p' hp'
      rw [hy] at hi
      obtain ⟨g, o, cap, hv, j0, j1⟩ := its_at hi (k := 0) rfl
      rw [hv] at hk
      have hg : g = k := by simpa [Value.ownBlock] using hk
      rw [hg, e] at j1
      simp only [Nat.zero_mul, Nat.add_zero] at j1
      by_cases ho : o = 0
      · subst ho
        rw [fr_cell_of_heap HH2.out (show (#[Value.int .i64 0, .int .i64 0] : Array Value)[0 + 1]? = some (.int .i64 0) from rfl)] at j1
        simp at j1
        omega
      · exact cell_past HH2.out (by omega) _ j1
    · have := own_block HO5.out k hk
      omega)
  have hcfg := withV_rows 0 ({ p.1 with df := p.1.df - x.cost, its := xs }, Value.slice a5 xs.length c5) true (p :: r)
  have hhc : headC p.1.its = x.cost := by rw [HX.out]; rfl
  have htl : p.1.its.tail = xs := by rw [HX.out]; rfl
  have htk : tookR p.1 (r.map Prod.fst) = withR 0 { p.1 with df := p.1.df - x.cost, its := xs } true ((p :: r).map Prod.fst) := by
    unfold tookR
    rw [hhc, htl]
    rfl
  refine ⟨p.1, r.map Prod.fst, v8, _, by rw [HX.out]; rfl, HP.out, ?_, by rw [htk]; exact hcfg.2, hF⟩
  rw [htk, ← hcfg.1]
  exact hres
end Go.Proofs.Ytohkchilogmneaa
