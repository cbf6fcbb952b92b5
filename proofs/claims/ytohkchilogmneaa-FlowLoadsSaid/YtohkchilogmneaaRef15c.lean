/-
  ref15 (flows): Pick: the walk.
-/
import Derived.Test.YtohkchilogmneaaRef15b
import Derived.Deep.DeepCutAuto
namespace Go.Proofs.Ytohkchilogmneaa
open Go.RowKit
variable {G : Nat → Prop}

/-- A row as a node: the laws on going round serve. -/
def ndOf (r : FRow) : Nd := ⟨r.id, r.wt, r.df, 0, undef⟩
theorem ndOf_charge (q : Int) (gv : Bool) (r : FRow) : ndOf (chargeR q gv r) = charge q gv (ndOf r) := by cases gv <;> rfl
/-- The bounds on a ring's rows. -/
structure RowsOk (gv : Bool) (rows : List FRow) : Prop where
  nds : NdsOk gv (rows.map ndOf)
  full : ∀ r ∈ rows, ∃ y l, r.its = y :: l ∧ 1 ≤ y.cost ∧ y.cost ≤ 64
theorem RingAt.rowsOk {pre : List Int} {ρ : Roles} {w : World} {f : Nat} {q : Int} {gv : Bool} {rows : List FRow} (h : RingAt pre ρ w f q gv rows) : RowsOk gv rows := by
  obtain ⟨sp, v, ns, qb, its, h, rfl⟩ := h
  refine ⟨?_, fun r hr => ?_⟩
  · have hg := h.good
    cases ns with
    | nil => trivial
    | cons n l =>
      refine ⟨hg.1, fun m hm => ?_⟩
      obtain ⟨r, hr, rfl⟩ := List.mem_map.1 hm
      obtain ⟨n', hn', rfl⟩ := List.mem_map.1 hr
      exact hg.2 n' hn'
  · obtain ⟨n, hn, rfl⟩ := List.mem_map.1 hr
    have h1 := h.full n hn
    have h2 := (h.que n hn).good
    cases hl : its n.id with
    | nil => exact absurd hl h1
    | cons y l =>
      have h3 := h2.ok y (by rw [hl]; exact List.mem_cons_self)
      exact ⟨y, l, hl, h3.2.2⟩
theorem RowsOk.rotate {q : Int} {gv : Bool} {x : FRow} {r : List FRow} (hq1 : 1 ≤ q) (hq : q ≤ 64) (h : RowsOk gv (x :: r)) (hn : ¬ headC x.its ≤ (chargeR q gv x).df) : RowsOk false (r ++ [chargeR q gv x]) ∧ roundM false ((r ++ [chargeR q gv x]).map ndOf) < roundM gv ((x :: r).map ndOf) := by
  obtain ⟨y, l, hy, c1, c2⟩ := h.full x List.mem_cons_self
  have hh : headC x.its = y.cost := by rw [hy]; rfl
  have hn' : ¬ y.cost ≤ (charge q gv (ndOf x)).df := by rw [← ndOf_charge, ← hh]; exact hn
  have e : (r ++ [chargeR q gv x]).map ndOf = r.map ndOf ++ [charge q gv (ndOf x)] := by rw [List.map_append, ← ndOf_charge]; rfl
  refine ⟨⟨by rw [e]; exact rotate_ok hq1 hq c2 h.nds hn', fun z hz => ?_⟩, by rw [e]; exact roundM_less hq1 hq c2 h.nds hn'⟩
  rcases List.mem_append.1 hz with hz | hz
  · exact h.full z (List.mem_cons_of_mem _ hz)
  · rw [List.mem_singleton] at hz
    subst hz
    rw [(chargeR_its q gv x).1]
    exact h.full x List.mem_cons_self
/-- Where the round stands. -/
structure PState (G : Nat → Prop) (b : Nat) (q : Int) (gv0 : Bool) (rows0 : List FRow) (w : World) (g : Nat) (gv : Bool) (v : Value) (l : List (FRow × Value)) (wr : World) : Prop where
  less : g = roundM gv ((l.map Prod.fst).map ndOf)
  ref : RefAt G wr b q gv v l
  ok : RowsOk gv (l.map Prod.fst)
  same : ∀ l2, PicksR q gv (l.map Prod.fst) l2 → PicksR q gv0 rows0 l2
  fp : Fp (fun j => j = b) w wr
def RPPost (G : Nat → Prop) (b : Nat) (q : Int) (gv : Bool) (rows : List FRow) (w : World) (e : Ending) (w' : World) : Prop :=
  e = .returned (.bool true) ∧ ∃ v' l', RefAt G w' b q true v' l' ∧ PicksR q gv rows (l'.map Prod.fst) ∧ Fp (fun j => j = b) w w'
theorem slice_tail (g off n cap : Nat) (W : World) : (Instr.sliceAt 51 (.slice (some ⟨g, off, none⟩) (n + 1) cap) (some (.int .i64 1)) none none).run Try.prog W = .ok (.slice (if cap = 1 then some ⟨g, off, none⟩ else some ⟨g, off + 4, none⟩) n (cap - 1)) W := by
  have hu := Try.underlying51
  have hi := rrow_info
  have h1 : ¬ ((n : Int) + 1 < 1) := by omega
  simp [Instr.sliceAt, go_sem, h1]
theorem tail_src {w : World} {v : Value} {p : FRow × Value} {r : List (FRow × Value)} (h : RowsAt w v (p :: r)) : ∃ tv, (∀ W, (Instr.sliceAt 51 v (some (.int .i64 1)) none none).run Try.prog W = .ok tv W) ∧ SrcAt 4 w tv r.length (flatRV r) := by
  obtain ⟨⟨a, cap, rfl, hle, hc⟩, _⟩ := h
  obtain ⟨g, off, rfl, _⟩ := hc 0 _ rfl
  rw [List.length_cons] at hle
  refine ⟨_, fun W => slice_tail g off r.length cap W, ?_⟩
  have hat : ∀ (j : Nat) u, (flatRV r)[j]? = some u → w.cell? ⟨g, off + 4 + j, none⟩ = some u := fun j u hu => by
    obtain ⟨g', off', he, h0⟩ := hc (4 + j) u (by
      have e : flatRV (p :: r) = encRV p ++ flatRV r := rfl
      rw [e, List.getElem?_append_right (by rw [encRV_len]; omega), encRV_len, show 4 + j - 4 = j by omega]
      exact hu)
    cases he
    rw [Nat.add_assoc]
    exact h0
  by_cases h1 : cap = 1
  · have hr : r = [] := List.length_eq_zero_iff.1 (by omega)
    subst hr
    exact ⟨_, _, rfl, rfl, fun j u hu => by simp [flatRV] at hu⟩
  · rw [if_neg h1]
    exact ⟨_, _, rfl, flatRV_len r, fun j u hu => ⟨g, off + 4, rfl, hat j u hu⟩⟩
theorem flatRV_one {w : World} {l : List (FRow × Value)} (h : ∀ p ∈ l, ItsAt w p.2 p.1.its) : ∀ u ∈ flatRV l, u.oneCell' = true := by
  intro u hu
  obtain ⟨p, hp, hx⟩ := List.mem_flatMap.1 hu
  obtain ⟨a, c, hv⟩ := its_form (h p hp)
  simp [encRV] at hx
  rcases hx with rfl | rfl | rfl | rfl
  · rfl
  · rfl
  · rfl
  · rw [hv]
    rfl
theorem rot_close {w4 wa : World} {b : Nat} {q : Int} {gv : Bool} {v2 v3 : Value} {p : FRow × Value} {r : List (FRow × Value)} (hR : RefAt G w4 b q gv v2 (p :: r)) (hL : Laid2 56 4 w4 v3 (r.length + 1) (flatRV r ++ encRV p) wa) :
    RefAt G (wa.setCell ⟨b, 1, none⟩ v3) b q gv v3 (r ++ [p]) ∧ Fp (fun j => j = b) w4 (wa.setCell ⟨b, 1, none⟩ v3) := by
  have hbw := fp_lt_of_heap hR.head
  have hF : Fp (fun j => j = b) wa (wa.setCell ⟨b, 1, none⟩ v3) := (Fp.refl (fun j => j = b) wa).setCell (p := ⟨b, 1, none⟩) (fun _ => rfl) _
  have hsz := Nat.le_trans hL.below.size hF.size
  have hvg : InG G (wa.setCell ⟨b, 1, none⟩ v3) v3 := (own_inG hL.own (fun k hk => hR.up k hk)).grow hF.size
  have hv3 : v3.ownBlock ≠ some b := hvg.not hR.nb
  have hm : ∀ y ∈ r ++ [p], y ∈ p :: r := fun y hy => by
    rcases List.mem_append.1 hy with hy | hy
    · exact List.mem_cons_of_mem _ hy
    · rw [List.mem_singleton] at hy
      subst hy
      exact List.mem_cons_self
  refine ⟨⟨fr_setCell_at ((hL.below.block b hbw).trans hR.head), ?_, fun _ => hvg, fun y hy => (hR.ig y (hm y hy)).grow hsz, hR.nb, fun k hk => hR.up k (Nat.le_trans hsz hk), by have := hR.few; simp at this ⊢; omega, fun y hy => hR.fews y (hm y hy)⟩, (Fp.of_below hL.below).trans hF (fun _ _ h => h)⟩
  refine (rows_own (l := r ++ [p]) (by rw [List.length_append, flatRV_snoc]; exact hL.own) (fun y hy => (hR.rows.its y (hm y hy)).below hL.below)).fp hF (fun j hj e => hv3 (e ▸ hj)) (fun y hy j hj e => hR.ni y (hm y hy) (e ▸ hj))
theorem its_lt {w : World} {v : Value} {l : List It} (h : ItsAt w v l) (hne : l ≠ []) : ∀ j, v.ownBlock = some j → j < w.heap.size := by
  intro j hj
  obtain ⟨x, r, rfl⟩ : ∃ x r, l = x :: r := by
    cases l with
    | nil => exact absurd rfl hne
    | cons x r => exact ⟨x, r, rfl⟩
  obtain ⟨g, off, cap, rfl, h0, _⟩ := its_at h (k := 0) rfl
  simp only [Value.ownBlock, Option.some.injEq] at hj
  subst hj
  exact World.block_lt_of_cell? w _ h0
theorem rows_lt {w : World} {v : Value} {l : List (FRow × Value)} (h : ∃ a cap, v = .slice a l.length cap ∧ l.length ≤ cap ∧ ∀ (j : Nat) u, (flatRV l)[j]? = some u → ∃ g off, a = some ⟨g, off, none⟩ ∧ w.cell? ⟨g, off + j, none⟩ = some u) (hne : l ≠ []) : ∀ j, v.ownBlock = some j → j < w.heap.size := by
  intro j hj
  obtain ⟨a, cap, rfl, _, hc⟩ := h
  obtain ⟨x, r, rfl⟩ : ∃ x r, l = x :: r := by
    cases l with
    | nil => exact absurd rfl hne
    | cons x r => exact ⟨x, r, rfl⟩
  obtain ⟨g, off, rfl, h0⟩ := hc 0 _ rfl
  simp only [Value.ownBlock, Option.some.injEq] at hj
  subst hj
  exact World.block_lt_of_cell? w _ h0
theorem ref_given {w : World} {b : Nat} {q : Int} {gv : Bool} {v : Value} {l : List (FRow × Value)} (h : RefAt G w b q gv v l) (g' : Bool) : RefAt G (w.setCell ⟨b, 2, none⟩ (.bool g')) b q g' v l := by
  have hF : Fp (fun j => j = b) w (w.setCell ⟨b, 2, none⟩ (.bool g')) := (Fp.refl (fun j => j = b) w).setCell (p := ⟨b, 2, none⟩) (fun _ => rfl) _
  exact ⟨fr_setCell_at h.head, h.rows.fp' hF (fun hl j hj e => h.nv hl (e ▸ hj)) (fun p hp j hj e => h.ni p hp (e ▸ hj)), fun hl => (h.vg hl).grow hF.size, fun p hp => (h.ig p hp).grow hF.size, h.nb, fun k hk => h.up k (Nat.le_trans hF.size hk), h.few, h.fews⟩
set_option maxRecDepth 100000 in
set_option maxHeartbeats 1000000 in
theorem r15Pick_nil (b : Nat) (q : Int) (gv : Bool) (v : Value) (w : World) (h : RefAt G w b q gv v []) : Calls Try.prog 60 #[.pointer (some ⟨b, 0, none⟩)] w fun e w' => e = .returned (.bool false) ∧ Below w.heap.size w w' := by
  obtain ⟨a, cap, rfl, -⟩ := h.rows.form
  have b1 : w.cell? ⟨b, 1, none⟩ = some (.slice a 0 cap) := fr_cell_of_heap h.head rfl
  clear h
  go_enter Try.func60, Try.ntmps60
  go_wp2_with fail
  go_ret
  exact ⟨rfl, Below.refl _ _⟩
set_option maxRecDepth 100000 in
set_option maxHeartbeats 8000000 in
/-- THE WALK: Pick. -/
theorem r15Pick_cons (b : Nat) (q : Int) (gv : Bool) (v : Value) (l : List (FRow × Value)) (w : World) (h : RefAt G w b q gv v l) (hne : l ≠ []) (hq1 : 1 ≤ q) (hq : q ≤ 64) (hok : RowsOk gv (l.map Prod.fst)) :
    Calls Try.prog 60 #[.pointer (some ⟨b, 0, none⟩)] w (RPPost G b q gv (l.map Prod.fst) w) := by
  have HST := Lib.hid (show PState G b q gv (l.map Prod.fst) w (roundM gv ((l.map Prod.fst).map ndOf)) gv v l w from ⟨rfl, h, hok, fun _ h => h, Fp.refl _ _⟩)
  have HQ1 := Lib.hid hq1
  have HQ := Lib.hid hq
  obtain ⟨a, cap, rfl, -⟩ := h.rows.form
  have b1 : w.cell? ⟨b, 1, none⟩ = some (.slice a l.length cap) := fr_cell_of_heap h.head rfl
  have hz : ((l.length : Int) == 0) = false := by
    rw [beq_eq_false_iff_ne]
    have := List.length_pos_iff.2 hne
    omega
  have HNE := Lib.hid hne
  clear h hok hq1 hq hne
  go_enter Try.func60, Try.ntmps60
  go_wp2_with fail
  go_loopg [] (roundM gv ((l.map Prod.fst).map ndOf)) (fun g wr => ∃ gv' v' l', l' ≠ [] ∧ PState G b q gv (l.map Prod.fst) w g gv' v' l' wr)
  case atStart => exact ⟨gv, _, l, HNE.out, HST.out⟩
  case round =>
    obtain ⟨gv', v', l', hne', hS⟩ := hrel
    obtain ⟨p, r, rfl⟩ : ∃ p r, l' = p :: r := by
      cases l' with
      | nil => exact absurd rfl hne'
      | cons p r => exact ⟨p, r, rfl⟩
    have HS := Lib.hid hS
    clear hS hne' b1 hz
    obtain ⟨gb, off, cap', hv, hcap, c0, c1, c2, c3⟩ := HS.out.ref.rows.at (k := 0) (p := p) rfl
    obtain ⟨pa, pc, hpv⟩ := its_form (HS.out.ref.rows.its p List.mem_cons_self)
    have HV := Lib.hid hv
    have HPV := Lib.hid hpv
    rw [hpv] at c3
    simp only [Nat.zero_mul, Nat.add_zero] at c0 c1 c2 c3
    have b1 : wr.cell? ⟨b, 1, none⟩ = some (.slice (some ⟨gb, off, none⟩) (r.length + 1) cap') := by rw [← List.length_cons (a := p), ← hv]; exact fr_cell_of_heap HS.out.ref.head rfl
    have b2 : wr.cell? ⟨b, 2, none⟩ = some (.bool gv') := fr_cell_of_heap HS.out.ref.head rfl
    clear hv hpv
    go_upto_region 4 with fail
    obtain ⟨w1, hw1⟩ : ∃ w1 : World, w1 = wr.alloc (.cells #[.int .i64 p.1.id, .int .i64 p.1.wt, .int .i64 p.1.df, .slice pa p.1.its.length pc] 56) := ⟨_, rfl⟩
    obtain ⟨bx, hbx⟩ : ∃ bx : Nat, bx = wr.heap.size := ⟨_, rfl⟩
    rw [← hw1, ← hbx]
    have HX1 := Lib.hid (show w1.heap[bx]? = some (.cells #[.int .i64 p.1.id, .int .i64 p.1.wt, .int .i64 p.1.df, .slice pa p.1.its.length pc] 56 (0, 0)) by rw [hw1, hbx]; exact fr_alloc_at)
    have HR1 := Lib.hid (show RefAt G w1 b q gv' v' (p :: r) by rw [hw1]; exact HS.out.ref.below box_below)
    have HF1 := Lib.hid (show Fp (fun j => j = b) w w1 by rw [hw1]; exact HS.out.fp.alloc _)
    have HBX := Lib.hid (show bx ≠ b by have := fp_lt_of_heap HS.out.ref.head; omega)
    have hbxw : w.heap.size ≤ bx := by rw [hbx]; exact HS.out.fp.size
    have HXV := Lib.hid (show ∀ j, v'.ownBlock = some j → ¬ j = bx from fun j hj e => by rw [hbx] at e; have := rows_lt HS.out.ref.rows.rows (by simp) j hj; omega)
    have HXI := Lib.hid (show ∀ p' ∈ p :: r, ∀ j, p'.2.ownBlock = some j → ¬ j = bx from fun p' hp' j hj e => by
      rw [hbx] at e
      have h1 := HS.out.ok.full p'.1 (List.mem_map_of_mem hp')
      obtain ⟨y, ys, hy, _⟩ := h1
      have := its_lt (HS.out.ref.rows.its p' hp') (by rw [hy]; simp) j hj
      omega)
    clear hw1 hbx c0 c1 c2 c3 b1 b2
    have b2 : w1.cell? ⟨b, 2, none⟩ = some (.bool gv') := fr_cell_of_heap HR1.out.head rfl
    go_upto_if 20 with fail
    go_cut [3] (fun s wx => s = .pointer (some ⟨bx, 0, none⟩) ∧ (∃ v2, RefAt G wx b q true v2 ((chargeR q gv' p.1, .slice pa p.1.its.length pc) :: r)) ∧ Fp (fun j => j = b) w wx ∧ wx.heap[bx]? = some (.cells #[.int .i64 p.1.id, .int .i64 p.1.wt, .int .i64 (chargeR q gv' p.1).df, .slice pa p.1.its.length pc] 56 (0, 0)))
    case first =>
      have hpp : p = (p.1, .slice pa p.1.its.length pc) := by rw [← HPV.out]
      have HPP := Lib.hid hpp
      clear hpp
      rcases gv' with _ | _
      · have x1 : w1.cell? ⟨bx, 1, none⟩ = some (.int .i64 p.1.wt) := fr_cell_of_heap HX1.out rfl
        have x2 : w1.cell? ⟨bx, 2, none⟩ = some (.int .i64 p.1.df) := fr_cell_of_heap HX1.out rfl
        have b0 : w1.cell? ⟨b, 0, none⟩ = some (.int .i64 q) := fr_cell_of_heap HR1.out.head rfl
        have f2 : w1.frozen? ⟨bx, 2, none⟩ = false := fr_free_of_heap HX1.out
        have hg := HS.out.ok.nds.1
        have hm := mul_le_of HQ1.out HQ.out hg.1 hg.2.1
        have hw1 : wrap64 (q * p.1.wt) = q * p.1.wt := by have e : (ndOf p.1).wt = p.1.wt := rfl; rw [e] at hm; unfold wrap64; omega
        have hw2 : wrap64 (p.1.df + q * p.1.wt) = p.1.df + q * p.1.wt := by
          have e : (ndOf p.1).wt = p.1.wt := rfl
          rw [e] at hm
          have h3 : 0 ≤ p.1.df := hg.2.2.1
          have h4 : p.1.df ≤ if false = true then 2112 else 1088 := hg.2.2.2
          simp at h4
          unfold wrap64
          omega
        clear hg hm
        go_upto_region 5 with fail
        go_region
        clear x1 x2 b0 f2 b2
        go_upto_region 6 with fail
        obtain ⟨w2, hw2'⟩ : ∃ w2 : World, w2 = (w1.setCell ⟨bx, 2, none⟩ (.int .i64 (p.1.df + q * p.1.wt))).drew := ⟨_, rfl⟩
        rw [← hw2']
        have hF2 : Fp (fun j => j = bx) w1 w2 := by rw [hw2']; exact ((Fp.refl (fun j => j = bx) w1).setCell (p := ⟨bx, 2, none⟩) (fun _ => rfl) _).drew
        have HX2 := Lib.hid (show w2.heap[bx]? = some (.cells #[.int .i64 p.1.id, .int .i64 p.1.wt, .int .i64 (p.1.df + q * p.1.wt), .slice pa p.1.its.length pc] 56 (0, 0)) by rw [hw2']; exact fr_setCell_at HX1.out)
        have HR2 := Lib.hid (HR1.out.fp hF2 (fun e => HBX.out e.symm) (HXV.out) (fun p hp => HXI.out p hp))
        have HF2 := Lib.hid (show Fp (fun j => j = b) w w2 from HF1.out.trans hF2 (fun j hj e => by omega))
        have y0 : w2.cell? ⟨bx, 0, none⟩ = some (.int .i64 p.1.id) := fr_cell_of_heap HX2.out rfl
        have y1 : w2.cell? ⟨bx, 1, none⟩ = some (.int .i64 p.1.wt) := fr_cell_of_heap HX2.out rfl
        have y2 : w2.cell? ⟨bx, 2, none⟩ = some (.int .i64 (p.1.df + q * p.1.wt)) := fr_cell_of_heap HX2.out rfl
        have y3 : w2.cell? ⟨bx, 3, none⟩ = some (.slice pa p.1.its.length pc) := fr_cell_of_heap HX2.out rfl
        clear hw1 hw2 hw2' hF2
        go_wp2_with fail
        have hwith := r15With_any b q false v' (p :: r) 0 (chargeR q false p.1) (.slice pa p.1.its.length pc) w2 HR2.out (by simp) (by have h := HR2.out.rows.its p List.mem_cons_self; rw [HPV.out] at h; exact h) (by have h := HR2.out.ig p List.mem_cons_self; rw [HPV.out] at h; exact h) (HR2.out.fews p List.mem_cons_self)
        refine hwith.mono ?_
        rintro e w3 ⟨rfl, hF3, v3, hR3⟩
        have hwv : withV 0 (chargeR q false p.1, .slice pa p.1.its.length pc) false (p :: r) = (false, (chargeR q false p.1, .slice pa p.1.its.length pc) :: r) := by
          obtain ⟨y, ys, hy, _⟩ := HS.out.ok.full p.1 List.mem_cons_self
          unfold withV
          rw [if_neg (show ¬ (chargeR q false p.1).its = [] by rw [(chargeR_its q false p.1).1, hy]; simp)]
          rfl
        rw [hwv] at hR3
        have HX3 := Lib.hid (hF3.heap HX2.out HBX.out)
        have HF3 := Lib.hid (HF2.out.trans hF3 (fun _ _ h => h))
        have HR3 := Lib.hid hR3
        have b2 : w3.cell? ⟨b, 2, none⟩ = some (.bool false) := fr_cell_of_heap hR3.head rfl
        have f2 : w3.frozen? ⟨b, 2, none⟩ = false := fr_free_of_heap hR3.head
        clear hwith hF3 hR3 hwv y0 y1 y2 y3
        go_wp2_with fail
        go_meet
        case rel => exact ⟨rfl, ⟨v3, ref_given HR3.out true⟩, HF3.out.setCell (p := ⟨b, 2, none⟩) (fun _ => rfl) _, (fr_setCell_other HBX.out).trans HX3.out⟩
      · go_wp2_with fail
        go_meet
        case rel =>
          refine ⟨rfl, ⟨v', ?_⟩, HF1.out, HX1.out⟩
          rw [show chargeR q true p.1 = p.1 from rfl, ← HPP.out]
          exact HR1.out
    case rest =>
      obtain ⟨rfl, ⟨v2, hR2⟩, hF2, hX2⟩ := hcut
      obtain ⟨y, ys, hy, hyc⟩ := HS.out.ok.full p.1 List.mem_cons_self
      obtain ⟨x', hx'⟩ : ∃ x', x' = chargeR q gv' p.1 := ⟨_, rfl⟩
      have hch := chargeR_its q gv' p.1
      rw [← hx'] at hR2 hX2 hch
      rw [← hch.1, ← hch.2.1, ← hch.2.2] at hX2
      have hxi : x'.its = y :: ys := by rw [hch.1, hy]
      rw [← hch.1] at hR2
      have hit := hR2.rows.its _ List.mem_cons_self
      simp only at hit
      obtain ⟨gi, offi, ci, hpv, i0, i1⟩ := its_at hit (k := 0) (x := y) (by rw [hxi]; rfl)
      simp only [Nat.zero_mul, Nat.add_zero] at i0 i1
      cases hpv
      have HX' := Lib.hid hx'
      have HXI' := Lib.hid hxi
      have HR2 := Lib.hid hR2
      have HF2 := Lib.hid hF2
      have HX2 := Lib.hid hX2
      have HCH := Lib.hid hch
      have z2 : wc.cell? ⟨bx, 2, none⟩ = some (.int .i64 x'.df) := fr_cell_of_heap hX2 rfl
      have z3 : wc.cell? ⟨bx, 3, none⟩ = some (.slice (some ⟨gi, offi, none⟩) x'.its.length pc) := fr_cell_of_heap hX2 rfl
      have hpos : (0 : Int) < (x'.its.length : Int) := by rw [hxi]; simp
      clear hx' hxi hR2 hF2 hX2 hch hit i0 b2
      by_cases hle : y.cost ≤ x'.df
      · have hd : decide (y.cost ≤ x'.df) = true := decide_eq_true hle
        have HLE := Lib.hid hle
        clear hle
        go_upto_region 8 with fail
        go_quiet (fail)
        go_wp2_with fail
        go_ret
        refine ⟨rfl, v2, _, HR2.out.below ⟨rfl, rfl, rfl, Nat.le_refl _, fun _ _ => rfl⟩, HS.out.same _ ?_, HF2.out.then_below ⟨rfl, rfl, rfl, Nat.le_refl _, fun _ _ => rfl⟩⟩
        rw [List.map_cons, List.map_cons]
        show PicksR q gv' (p.1 :: r.map Prod.fst) (x' :: r.map Prod.fst)
        have h := HX'.out
        subst h
        refine .grant ?_
        rw [← HCH.out.1, HXI'.out]
        exact HLE.out
      · have hd : decide (y.cost ≤ x'.df) = false := decide_eq_false hle
        have HLE := Lib.hid hle
        clear hle
        go_upto_region 8 with fail
        go_quiet (fail)
        go_upto_region 10 with fail
        obtain ⟨w4, hw4⟩ : ∃ w4 : World, w4 = wc.drewN nq := ⟨_, rfl⟩
        rw [← hw4]
        have hbel : Below wc.heap.size wc w4 := by rw [hw4]; exact below_drewN (Below.refl _ _) nq
        have hR4 := HR2.out.below hbel
        have hX4 := (hbel.block bx (fp_lt_of_heap HX2.out)).trans HX2.out
        have hF4 := HF2.out.then_below hbel
        obtain ⟨tv, hsl, hsrc⟩ := tail_src hR4.rows
        obtain ⟨i0', hi0, hz0, hz1', hz2'⟩ := info_parts rrow_info
        have hrl : r.length < 1000000 := by have := hR4.few; simp at this; omega
        obtain ⟨⟨v1', w5, ga, ca, wa, r1, r2, hLa, hba⟩, ⟨v2', w6, gb', cb, wb, r3, r4, hLb, hbb⟩, ⟨v3', w7, gc, cc, wcc, r5, r6, hLc, hbc⟩⟩ :=
          copy_snoc_runs (P := Try.prog) w4 51 51 51 56 i0' _ 4 48 Try.underlying51 hi0 hz0 hz1' hz2' rfl (by decide) (v := tv) (n := r.length) (xs := flatRV r) (us := encRV (x', .slice (some ⟨gi, offi, none⟩) x'.its.length pc)) hsrc (flatRV_one (w := w4) (fun p' hp' => hR4.rows.its p' (List.mem_cons_of_mem _ hp'))) rfl (by simp [encRV, Value.oneCell']) hrl (by omega)
        have HR4 := Lib.hid hR4
        have HX4 := Lib.hid hX4
        have HF4 := Lib.hid hF4
        have HLA := Lib.hid hLa
        have HLB := Lib.hid hLb
        have HLC := Lib.hid hLc
        have hbw4 := fp_lt_of_heap hR4.head
        have hxw4 := fp_lt_of_heap hX4
        have b1 : w4.cell? ⟨b, 1, none⟩ = some v2 := fr_cell_of_heap hR4.head rfl
        have q0 : w4.cell? ⟨bx, 0, none⟩ = some (.int .i64 x'.id) := fr_cell_of_heap hX4 rfl
        have q1 : w4.cell? ⟨bx, 1, none⟩ = some (.int .i64 x'.wt) := fr_cell_of_heap hX4 rfl
        have q2 : w4.cell? ⟨bx, 2, none⟩ = some (.int .i64 x'.df) := fr_cell_of_heap hX4 rfl
        have q3 : w4.cell? ⟨bx, 3, none⟩ = some (.slice (some ⟨gi, offi, none⟩) x'.its.length pc) := fr_cell_of_heap hX4 rfl
        have q0a := cell_below hba q0
        have q1a := cell_below hba q1
        have q2a := cell_below hba q2
        have q3a := cell_below hba q3
        have q0b := cell_below hbb q0
        have q1b := cell_below hbb q1
        have q2b := cell_below hbb q2
        have q3b := cell_below hbb q3
        have q0c := cell_below hbc q0
        have q1c := cell_below hbc q1
        have q2c := cell_below hbc q2
        have q3c := cell_below hbc q3
        have hha := (hLa.below.block b hbw4).trans hR4.head
        have hhb := (hLb.below.block b hbw4).trans hR4.head
        have hhc := (hLc.below.block b hbw4).trans hR4.head
        have ka1 : wa.cell? ⟨b, 1, none⟩ = some v2 := fr_cell_of_heap hha rfl
        have kb1 : wb.cell? ⟨b, 1, none⟩ = some v2 := fr_cell_of_heap hhb rfl
        have kc1 : wcc.cell? ⟨b, 1, none⟩ = some v2 := fr_cell_of_heap hhc rfl
        have fa1 : wa.frozen? ⟨b, 1, none⟩ = false := fr_free_of_heap hha
        have fb1 : wb.frozen? ⟨b, 1, none⟩ = false := fr_free_of_heap hhb
        have fc1 : wcc.frozen? ⟨b, 1, none⟩ = false := fr_free_of_heap hhc
        clear hba hbb hbc hLa hLb hLc hi0 hz0 hz1' hz2' hha hhb hhc hR4 hX4 hF4 hw4 hbel hsrc i1 z2 z3 hpos hrl hyc hy
        simp only [encRV] at r2 r3 r4 r5 r6
        simp [go_sem] at r1 r2 r3 r4 r5 r6 hsl
        go_cut [] (fun wx => (∃ v3, RefAt G wx b q true v3 (r ++ [(x', .slice (some ⟨gi, offi, none⟩) x'.its.length pc)])) ∧ Fp (fun j => j = b) w wx)
        case first =>
          go_region
          all_goals
            clear r1 r2 r3 r4 r5 r6
            go_wp2_with fail
            go_meet
          all_goals
            first
            | exact ⟨⟨_, (rot_close HR4.out HLA.out).1⟩, HF4.out.trans (rot_close HR4.out HLA.out).2 (fun _ _ h => h)⟩
            | exact ⟨⟨_, (rot_close HR4.out HLB.out).1⟩, HF4.out.trans (rot_close HR4.out HLB.out).2 (fun _ _ h => h)⟩
            | exact ⟨⟨_, (rot_close HR4.out HLC.out).1⟩, HF4.out.trans (rot_close HR4.out HLC.out).2 (fun _ _ h => h)⟩
        case rest =>
          obtain ⟨⟨v3, hR5⟩, hF5⟩ := hcut
          have HR5 := Lib.hid hR5
          have HF5 := Lib.hid hF5
          have hmap : (r ++ [(x', Value.slice (some ⟨gi, offi, none⟩) x'.its.length pc)]).map Prod.fst = r.map Prod.fst ++ [chargeR q gv' p.1] := by rw [List.map_append, HX'.out]; rfl
          have hno : ¬ headC p.1.its ≤ (chargeR q gv' p.1).df := by
            rw [← HX'.out, ← HCH.out.1, HXI'.out]
            exact HLE.out
          have HMAP := Lib.hid hmap
          have HNO := Lib.hid hno
          have HROT := Lib.hid (RowsOk.rotate HQ1.out HQ.out HS.out.ok hno)
          have b2 : wc.cell? ⟨b, 2, none⟩ = some (.bool true) := fr_cell_of_heap hR5.head rfl
          have f2 : wc.frozen? ⟨b, 2, none⟩ = false := fr_free_of_heap hR5.head
          clear hR5 hF5 hmap hno hsl b1 q0 q1 q2 q3 q0a q1a q2a q3a q0b q1b q2b q3b q0c q1c q2c q3c ka1 kb1 kc1 fa1 fb1 fc1 r1 r2 r3 r4 r5 r6
          go_wp2_with fail
          go_roundg (roundM false (((r ++ [(x', Value.slice (some ⟨gi, offi, none⟩) x'.its.length pc)]).map Prod.fst).map ndOf))
          case rel =>
            refine ⟨false, v3, _, by simp, ⟨rfl, ref_given HR5.out false, ?_, fun l2 h2 => HS.out.same l2 (.rotate (Int.not_le.2 HNO.out) ?_), HF5.out.setCell (p := ⟨b, 2, none⟩) (fun _ => rfl) _⟩⟩
            · rw [HMAP.out]
              exact HROT.out.1
            · rw [HMAP.out] at h2
              exact h2
          case measure =>
            rw [HS.out.less, HMAP.out]
            exact HROT.out.2
end Go.Proofs.Ytohkchilogmneaa
