/-
  law35: To: the walk.
  state: slices.EqualFunc of the program's pools: which Bool it tells.
-/
import Derived.Test.YtjmlimogmmikoaaGreatDoorSx12
import Derived.Test.YtjmlimogmmikoaaGreatDoorSx10
import Derived.Test.YtjmlimogmmikoaaGreatDoorSx11
import Derived.Test.YtjmlimogmmikoaaGreatDoorSx08
namespace Go.Proofs.YtjmlimogmmikoaaGreatDoor
open Go.RowKit
structure PoAt (w : World) (p : QX) (t : PoR) : Prop where
  name : t.r.name = p.name
  uses : t.r.uses = p.uses
  sv : t.r.sv = p.sv
  hv : SlAt w t.r.hv p.sh.length (t.sh.map Prod.fst)
  gv : SlAt w t.r.gv p.sh.length (p.sh.map (fun y => Value.bool y.2.gv))
  rows : ∀ s ∈ t.sh, TRowsAt w s.1 s.2
  same : t.sh.map (fun s => s.2.map Prod.fst) = p.sh.map (fun y => y.2.l.map Prod.fst)
  lists : t.sh.map (fun s => s.2.map (fun z => z.2.2)) = p.sh.map (fun y => y.2.l.map (fun d => d.2.2.2))
structure PosAt (w : World) (v : Value) (l : List QX) (T : List PoR) : Prop where
  own : SlAt w v T.length (T.flatMap (fun t => encPR t.r))
  len : T.length = l.length
  row : ∀ (i : Nat) t p, T[i]? = some t → l[i]? = some p → PoAt w p t
theorem PoAt.below {w w' : World} {p : QX} {t : PoR} (h : PoAt w p t) (hb : Below w.heap.size w w') : PoAt w' p t := ⟨h.name, h.uses, h.sv, h.hv.below hb, h.gv.below hb, fun s hs => (h.rows s hs).below hb, h.same, h.lists⟩
theorem PosAt.below {w w' : World} {v : Value} {l : List QX} {T : List PoR} (h : PosAt w v l T) (hb : Below w.heap.size w w') : PosAt w' v l T := ⟨h.own.below hb, h.len, fun i t p h1 h2 => (h.row i t p h1 h2).below hb⟩
theorem BIn.pos {w0 w wr : World} {v : Value} {l : List QX} {T : List PoR} (h : BIn w wr v l T) (hl : T.length = l.length) (hb : Below w0.heap.size w0 wr) (hq : ∀ p ∈ l, QXAt w0 p) : PosAt wr v l T :=
  ⟨sl_own h.own, hl, fun i t p h1 h2 => by
    have hr := h.row i t p h1 h2
    refine ⟨hr.name, hr.uses, hr.sv, sl_own hr.hv, sl_own hr.gv, fun s hs => ((hr.rows s hs).from (fun z hz r hrr => ?_)).rows hb, hr.same, hr.lists⟩
    have hm := List.mem_map_of_mem (f := fun s : Value × List TV => s.2.map (fun z => z.2.2)) hs
    rw [hr.lists] at hm
    obtain ⟨y, hy, hye⟩ := List.mem_map.1 hm
    have hz2 := List.mem_map_of_mem (f := fun z : TV => z.2.2) hz
    rw [← hye] at hz2
    obtain ⟨d, hd, hde⟩ := List.mem_map.1 hz2
    rw [← hde] at hrr
    exact (((hq p (List.mem_of_getElem? h2)).inv y hy).inv d hd).rows.its r hrr⟩
section
variable {w wr w9 : World} {g : Nat}
theorem own_turn {base size : Nat} {e : TypeId} {v : Value} {n : Nat} {xs : List Value} (h : wr.ownsRow base e size v n xs) (hg : wr.grownBy w9 (some g)) (hb : g < base) : w9.ownsRow base e size v n xs :=
  own_grown h hg (.inr (fun e => by have := own_block h g e; omega))
theorem TIn17.turn {base : Nat} {v : Value} {l : List TV} (h : TIn17 base w wr v l) (hg : wr.grownBy w9 (some g)) (hb : g < base) : TIn17 base w w9 v l := ⟨own_turn h.own hg hb, fun p hp => ⟨own_turn (h.inv p hp).1 hg hb, (h.inv p hp).2⟩⟩
theorem BIn.turn {v : Value} {l : List QX} {T : List PoR} (h : BIn w wr v l T) (hg : wr.grownBy w9 (some g)) (hb : g < w.heap.size) : BIn w w9 v l T :=
  ⟨own_turn h.own hg hb, fun i t p h1 h2 => by
    have hr := h.row i t p h1 h2
    exact ⟨hr.name, hr.uses, hr.sv, own_turn hr.hv hg hb, own_turn hr.gv hg hb, fun s hs => (hr.rows s hs).turn hg hb, hr.same, hr.lists⟩⟩
theorem grown_setRow {ds : Array Value} : w.grownBy (w.setRow g ds) (some g) := ⟨rfl, rfl, rfl, by simp, fun k _ hn => setRow_not (fun e => hn (by rw [e]))⟩
end
def StV.po (V : StV) (v : Value) : StV := { V with pools := v }
theorem staC_one {w : World} {s : Sta} {V : StV} (h : StaAt w s V) (v : Value) (hv : ∃ a n c, v = .slice a n c) : (staC s (V.po v)).all (·.oneCell') = true := by
  obtain ⟨a0, c0, h0, -⟩ := h.live.form
  obtain ⟨a1, c1, h1, -⟩ := h.ended.form
  obtain ⟨a2, c2, h2, -⟩ := h.wks.form
  obtain ⟨a3, c3, h3, -⟩ := h.invs.form
  obtain ⟨a4, c4, h4, -⟩ := h.pools.form
  obtain ⟨a5, c5, h5, -⟩ := h.hist.form
  obtain ⟨a6, c6, h6, -⟩ := h.lets.form
  obtain ⟨a7, c7, h7, -⟩ := h.wts.form
  obtain ⟨a, n, c, rfl⟩ := hv
  simp [staC, StV.po, Value.oneCell', h0, h1, h2, h3, h5, h6, h7]
set_option maxRecDepth 100000 in
set_option maxHeartbeats 4000000 in
theorem to35_any (s : Sta) (V : StV) (w : World) (h : StaAt w s V) (hf : s.pools.length ≤ 1000) (hsz : SizesB s.pools) : Calls Tryz.prog 10 #[.agg (staC s V)] w fun e w' => ∃ vp T, e = .returned (.agg (staC s (V.po vp))) ∧ PosAt w' vp s.pools T ∧ Below w.heap.size w w' := by
  obtain ⟨v0, v1, v2, v3, v4, v5, v6, v7⟩ := V
  obtain ⟨p0, q0, h0, -⟩ := h.live.form
  obtain ⟨p1, q1, h1, -⟩ := h.ended.form
  obtain ⟨p2, q2, h2, -⟩ := h.wks.form
  obtain ⟨p3, q3, h3, -⟩ := h.invs.form
  obtain ⟨p4, q4, h4, -⟩ := h.pools.form
  obtain ⟨p5, q5, h5, -⟩ := h.hist.form
  obtain ⟨p6, q6, h6, -⟩ := h.lets.form
  obtain ⟨p7, q7, h7, -⟩ := h.wts.form
  simp only at h0 h1 h2 h3 h4 h5 h6 h7
  subst h0 h1 h2 h3 h4 h5 h6 h7
  obtain ⟨C, hC⟩ : ∃ C, C = staC s (StV.mk (.slice p0 s.live.length q0) (.slice p1 s.ended.length q1) (.slice p2 s.wks.length q2) (.slice p3 s.invs.length q3) (.slice p4 s.pools.length q4) (.slice p5 s.hist.length q5) (.slice p6 s.lets.length q6) (.slice p7 s.wts.length q7)) := ⟨_, rfl⟩
  have hh : ((w.alloc (.cells C 35)).alloc (.cells #[.int .u64 0, .bool false, .int .i64 0, .int .i64 0, .int .i64 0, .int .i64 0, .int .i64 0, .slice none 0 0, .slice none 0 0, .slice none 0 0, .slice none 0 0, .slice none 0 0, .slice none 0 0, .slice none 0 0, .slice none 0 0] 42)).heap[w.heap.size]? = some (.cells C 35) := fr_alloc_old (heap_alloc_new _ _)
  have hz : ((w.alloc (.cells C 35)).alloc (.cells #[.int .u64 0, .bool false, .int .i64 0, .int .i64 0, .int .i64 0, .int .i64 0, .int .i64 0, .slice none 0 0, .slice none 0 0, .slice none 0 0, .slice none 0 0, .slice none 0 0, .slice none 0 0, .slice none 0 0, .slice none 0 0] 42)).heap[w.heap.size + 1]? = some (.cells #[.int .u64 0, .bool false, .int .i64 0, .int .i64 0, .int .i64 0, .int .i64 0, .int .i64 0, .slice none 0 0, .slice none 0 0, .slice none 0 0, .slice none 0 0, .slice none 0 0, .slice none 0 0, .slice none 0 0, .slice none 0 0] 42) := heap_alloc_two _ _ _
  have hb : Below w.heap.size w ((w.alloc (.cells C 35)).alloc (.cells #[.int .u64 0, .bool false, .int .i64 0, .int .i64 0, .int .i64 0, .int .i64 0, .int .i64 0, .slice none 0 0, .slice none 0 0, .slice none 0 0, .slice none 0 0, .slice none 0 0, .slice none 0 0, .slice none 0 0, .slice none 0 0] 42)) := box_below.alloc (by simp) _
  have hlt : w.heap.size + 1 < ((w.alloc (.cells C 35)).alloc (.cells #[.int .u64 0, .bool false, .int .i64 0, .int .i64 0, .int .i64 0, .int .i64 0, .int .i64 0, .slice none 0 0, .slice none 0 0, .slice none 0 0, .slice none 0 0, .slice none 0 0, .slice none 0 0, .slice none 0 0, .slice none 0 0] 42)).heap.size := by simp
  have HP := Lib.hid h
  have HF := Lib.hid hf
  have HSZ := Lib.hid hsz
  have HONE := Lib.hid (staC_one h)
  rw [← hC]
  have HC := Lib.hid hC
  clear h hf hsz hC
  go_enter Tryz.func10, Tryz.ntmps10
  go_upto_region 1 with fail
  generalize ((w.alloc (.cells C 35)).alloc (.cells #[.int .u64 0, .bool false, .int .i64 0, .int .i64 0, .int .i64 0, .int .i64 0, .int .i64 0, .slice none 0 0, .slice none 0 0, .slice none 0 0, .slice none 0 0, .slice none 0 0, .slice none 0 0, .slice none 0 0, .slice none 0 0] 42)) = W2 at hh hz hb hlt ⊢
  have a0 : W2.drew.cell? ⟨w.heap.size, 0, none⟩ = some (.int .u64 s.now) := fr_cell_of_heap (w := W2) (i := 0) hh (by rw [HC.out]; rfl)
  have a1 : W2.drew.cell? ⟨w.heap.size, 1, none⟩ = some (.bool s.dr) := fr_cell_of_heap (w := W2) (i := 1) hh (by rw [HC.out]; rfl)
  have a2 : W2.drew.cell? ⟨w.heap.size, 2, none⟩ = some (.int .i64 s.ep) := fr_cell_of_heap (w := W2) (i := 2) hh (by rw [HC.out]; rfl)
  have a3 : W2.drew.cell? ⟨w.heap.size, 3, none⟩ = some (.int .i64 s.nx) := fr_cell_of_heap (w := W2) (i := 3) hh (by rw [HC.out]; rfl)
  have a4 : W2.drew.cell? ⟨w.heap.size, 4, none⟩ = some (.int .i64 s.lw) := fr_cell_of_heap (w := W2) (i := 4) hh (by rw [HC.out]; rfl)
  have a5 : W2.drew.cell? ⟨w.heap.size, 5, none⟩ = some (.int .i64 s.li) := fr_cell_of_heap (w := W2) (i := 5) hh (by rw [HC.out]; rfl)
  have a6 : W2.drew.cell? ⟨w.heap.size, 6, none⟩ = some (.int .i64 s.sv) := fr_cell_of_heap (w := W2) (i := 6) hh (by rw [HC.out]; rfl)
  have a7 : W2.drew.cell? ⟨w.heap.size, 7, none⟩ = some (.slice p0 s.live.length q0) := fr_cell_of_heap (w := W2) (i := 7) hh (by rw [HC.out]; rfl)
  have a8 : W2.drew.cell? ⟨w.heap.size, 8, none⟩ = some (.slice p1 s.ended.length q1) := fr_cell_of_heap (w := W2) (i := 8) hh (by rw [HC.out]; rfl)
  have a9 : W2.drew.cell? ⟨w.heap.size, 9, none⟩ = some (.slice p2 s.wks.length q2) := fr_cell_of_heap (w := W2) (i := 9) hh (by rw [HC.out]; rfl)
  have a10 : W2.drew.cell? ⟨w.heap.size, 10, none⟩ = some (.slice p3 s.invs.length q3) := fr_cell_of_heap (w := W2) (i := 10) hh (by rw [HC.out]; rfl)
  have a11 : W2.drew.cell? ⟨w.heap.size, 11, none⟩ = some (.slice p4 s.pools.length q4) := fr_cell_of_heap (w := W2) (i := 11) hh (by rw [HC.out]; rfl)
  have a12 : W2.drew.cell? ⟨w.heap.size, 12, none⟩ = some (.slice p5 s.hist.length q5) := fr_cell_of_heap (w := W2) (i := 12) hh (by rw [HC.out]; rfl)
  have a13 : W2.drew.cell? ⟨w.heap.size, 13, none⟩ = some (.slice p6 s.lets.length q6) := fr_cell_of_heap (w := W2) (i := 13) hh (by rw [HC.out]; rfl)
  have a14 : W2.drew.cell? ⟨w.heap.size, 14, none⟩ = some (.slice p7 s.wts.length q7) := fr_cell_of_heap (w := W2) (i := 14) hh (by rw [HC.out]; rfl)
  have HZ := Lib.hid (show W2.drew.heap[w.heap.size + 1]? = some (.cells #[.int .u64 0, .bool false, .int .i64 0, .int .i64 0, .int .i64 0, .int .i64 0, .int .i64 0, .slice none 0 0, .slice none 0 0, .slice none 0 0, .slice none 0 0, .slice none 0 0, .slice none 0 0, .slice none 0 0, .slice none 0 0] 42) from hz)
  have HB := Lib.hid (show Below w.heap.size w W2.drew from hb.drew)
  have HB0 := Lib.hid hb
  have HLT := Lib.hid (show w.heap.size + 1 < W2.drew.heap.size from hlt)
  clear hh hz hb hlt HC
  refine wp_region_noPanic ?_
  refine wp_region_any (by kernel_rfl) ?_
  change wpAny _ _ _ _ _ _ _ (World.drew _)
  refine wpAny_of_held (S := (fun w2 => w2.cell? ⟨w.heap.size, 0, none⟩ = some (.int .u64 s.now) ∧ w2.cell? ⟨w.heap.size, 1, none⟩ = some (.bool s.dr) ∧ w2.cell? ⟨w.heap.size, 2, none⟩ = some (.int .i64 s.ep) ∧ w2.cell? ⟨w.heap.size, 3, none⟩ = some (.int .i64 s.nx) ∧ w2.cell? ⟨w.heap.size, 4, none⟩ = some (.int .i64 s.lw) ∧ w2.cell? ⟨w.heap.size, 5, none⟩ = some (.int .i64 s.li) ∧ w2.cell? ⟨w.heap.size, 6, none⟩ = some (.int .i64 s.sv) ∧ w2.cell? ⟨w.heap.size, 7, none⟩ = some (.slice p0 s.live.length q0) ∧ w2.cell? ⟨w.heap.size, 8, none⟩ = some (.slice p1 s.ended.length q1) ∧ w2.cell? ⟨w.heap.size, 9, none⟩ = some (.slice p2 s.wks.length q2) ∧ w2.cell? ⟨w.heap.size, 10, none⟩ = some (.slice p3 s.invs.length q3) ∧ w2.cell? ⟨w.heap.size, 11, none⟩ = some (.slice p4 s.pools.length q4) ∧ w2.cell? ⟨w.heap.size, 12, none⟩ = some (.slice p5 s.hist.length q5) ∧ w2.cell? ⟨w.heap.size, 13, none⟩ = some (.slice p6 s.lets.length q6) ∧ w2.cell? ⟨w.heap.size, 14, none⟩ = some (.slice p7 s.wts.length q7))) _ _ _ _ ?_
  have hHeld : (fun w2 => w2.cell? ⟨w.heap.size, 0, none⟩ = some (.int .u64 s.now) ∧ w2.cell? ⟨w.heap.size, 1, none⟩ = some (.bool s.dr) ∧ w2.cell? ⟨w.heap.size, 2, none⟩ = some (.int .i64 s.ep) ∧ w2.cell? ⟨w.heap.size, 3, none⟩ = some (.int .i64 s.nx) ∧ w2.cell? ⟨w.heap.size, 4, none⟩ = some (.int .i64 s.lw) ∧ w2.cell? ⟨w.heap.size, 5, none⟩ = some (.int .i64 s.li) ∧ w2.cell? ⟨w.heap.size, 6, none⟩ = some (.int .i64 s.sv) ∧ w2.cell? ⟨w.heap.size, 7, none⟩ = some (.slice p0 s.live.length q0) ∧ w2.cell? ⟨w.heap.size, 8, none⟩ = some (.slice p1 s.ended.length q1) ∧ w2.cell? ⟨w.heap.size, 9, none⟩ = some (.slice p2 s.wks.length q2) ∧ w2.cell? ⟨w.heap.size, 10, none⟩ = some (.slice p3 s.invs.length q3) ∧ w2.cell? ⟨w.heap.size, 11, none⟩ = some (.slice p4 s.pools.length q4) ∧ w2.cell? ⟨w.heap.size, 12, none⟩ = some (.slice p5 s.hist.length q5) ∧ w2.cell? ⟨w.heap.size, 13, none⟩ = some (.slice p6 s.lets.length q6) ∧ w2.cell? ⟨w.heap.size, 14, none⟩ = some (.slice p7 s.wts.length q7)) W2.drew := ⟨a0, a1, a2, a3, a4, a5, a6, a7, a8, a9, a10, a11, a12, a13, a14⟩
  refine wpAnyH_take (i := 0) (oi := ⟨some 3, _, _, _, _, _⟩) (v := ?_) rfl (by kernel_rfl) (by kernel_rfl) (by kernel_rfl) (fun _ _ _ h => h) (Or.inl ⟨by rfl, ?_⟩) (by assumption) ?_
  rotate_left 1
  · intro w hSw
    try dsimp only at hSw
    go_simp
    try with_reducible rfl
  try simp only [Act.put, List.setIfInBounds_toArray, List.set_cons_zero, List.set_cons_succ]
  refine wpAnyH_take (i := 1) (oi := ⟨some 4, _, _, _, _, _⟩) (v := ?_) rfl (by kernel_rfl) (by kernel_rfl) (by kernel_rfl) (fun _ _ _ h => h) (Or.inl ⟨by rfl, ?_⟩) (by assumption) ?_
  rotate_left 1
  · intro w hSw
    try dsimp only at hSw
    go_simp
    try with_reducible rfl
  try simp only [Act.put, List.setIfInBounds_toArray, List.set_cons_zero, List.set_cons_succ]
  refine wpAnyH_take (i := 2) (oi := ⟨some 5, _, _, _, _, _⟩) (v := ?_) rfl (by kernel_rfl) (by kernel_rfl) (by kernel_rfl) (fun _ _ _ h => h) (Or.inl ⟨by rfl, ?_⟩) (by assumption) ?_
  rotate_left 1
  · intro w hSw
    try dsimp only at hSw
    go_simp
    try with_reducible rfl
  try simp only [Act.put, List.setIfInBounds_toArray, List.set_cons_zero, List.set_cons_succ]
  refine wpAnyH_take (i := 3) (oi := ⟨some 6, _, _, _, _, _⟩) (v := ?_) rfl (by kernel_rfl) (by kernel_rfl) (by kernel_rfl) (fun _ _ _ h => h) (Or.inl ⟨by rfl, ?_⟩) (by assumption) ?_
  rotate_left 1
  · intro w hSw
    try dsimp only at hSw
    go_simp
    try with_reducible rfl
  try simp only [Act.put, List.setIfInBounds_toArray, List.set_cons_zero, List.set_cons_succ]
  refine wpAnyH_take (i := 4) (oi := ⟨some 7, _, _, _, _, _⟩) (v := ?_) rfl (by kernel_rfl) (by kernel_rfl) (by kernel_rfl) (fun _ _ _ h => h) (Or.inl ⟨by rfl, ?_⟩) (by assumption) ?_
  rotate_left 1
  · intro w hSw
    try dsimp only at hSw
    go_simp
    try with_reducible rfl
  try simp only [Act.put, List.setIfInBounds_toArray, List.set_cons_zero, List.set_cons_succ]
  refine wpAnyH_take (i := 5) (oi := ⟨some 8, _, _, _, _, _⟩) (v := ?_) rfl (by kernel_rfl) (by kernel_rfl) (by kernel_rfl) (fun _ _ _ h => h) (Or.inl ⟨by rfl, ?_⟩) (by assumption) ?_
  rotate_left 1
  · intro w hSw
    try dsimp only at hSw
    go_simp
    try with_reducible rfl
  try simp only [Act.put, List.setIfInBounds_toArray, List.set_cons_zero, List.set_cons_succ]
  refine wpAnyH_take (i := 6) (oi := ⟨some 9, _, _, _, _, _⟩) (v := ?_) rfl (by kernel_rfl) (by kernel_rfl) (by kernel_rfl) (fun _ _ _ h => h) (Or.inl ⟨by rfl, ?_⟩) (by assumption) ?_
  rotate_left 1
  · intro w hSw
    try dsimp only at hSw
    go_simp
    try with_reducible rfl
  try simp only [Act.put, List.setIfInBounds_toArray, List.set_cons_zero, List.set_cons_succ]
  refine wpAnyH_take (i := 7) (oi := ⟨some 10, _, _, _, _, _⟩) (v := ?_) rfl (by kernel_rfl) (by kernel_rfl) (by kernel_rfl) (fun _ _ _ h => h) (Or.inl ⟨by rfl, ?_⟩) (by assumption) ?_
  rotate_left 1
  · intro w hSw
    try dsimp only at hSw
    go_simp
    try with_reducible rfl
  try simp only [Act.put, List.setIfInBounds_toArray, List.set_cons_zero, List.set_cons_succ]
  refine wpAnyH_take (i := 8) (oi := ⟨some 11, _, _, _, _, _⟩) (v := ?_) rfl (by kernel_rfl) (by kernel_rfl) (by kernel_rfl) (fun _ _ _ h => h) (Or.inl ⟨by rfl, ?_⟩) (by assumption) ?_
  rotate_left 1
  · intro w hSw
    try dsimp only at hSw
    go_simp
    try with_reducible rfl
  try simp only [Act.put, List.setIfInBounds_toArray, List.set_cons_zero, List.set_cons_succ]
  refine wpAnyH_take (i := 9) (oi := ⟨some 12, _, _, _, _, _⟩) (v := ?_) rfl (by kernel_rfl) (by kernel_rfl) (by kernel_rfl) (fun _ _ _ h => h) (Or.inl ⟨by rfl, ?_⟩) (by assumption) ?_
  rotate_left 1
  · intro w hSw
    try dsimp only at hSw
    go_simp
    try with_reducible rfl
  try simp only [Act.put, List.setIfInBounds_toArray, List.set_cons_zero, List.set_cons_succ]
  refine wpAnyH_take (i := 10) (oi := ⟨some 13, _, _, _, _, _⟩) (v := ?_) rfl (by kernel_rfl) (by kernel_rfl) (by kernel_rfl) (fun _ _ _ h => h) (Or.inl ⟨by rfl, ?_⟩) (by assumption) ?_
  rotate_left 1
  · intro w hSw
    try dsimp only at hSw
    go_simp
    try with_reducible rfl
  try simp only [Act.put, List.setIfInBounds_toArray, List.set_cons_zero, List.set_cons_succ]
  refine wpAnyH_take (i := 11) (oi := ⟨some 14, _, _, _, _, _⟩) (v := ?_) rfl (by kernel_rfl) (by kernel_rfl) (by kernel_rfl) (fun _ _ _ h => h) (Or.inl ⟨by rfl, ?_⟩) (by assumption) ?_
  rotate_left 1
  · intro w hSw
    try dsimp only at hSw
    go_simp
    try with_reducible rfl
  try simp only [Act.put, List.setIfInBounds_toArray, List.set_cons_zero, List.set_cons_succ]
  refine wpAnyH_take (i := 12) (oi := ⟨some 15, _, _, _, _, _⟩) (v := ?_) rfl (by kernel_rfl) (by kernel_rfl) (by kernel_rfl) (fun _ _ _ h => h) (Or.inl ⟨by rfl, ?_⟩) (by assumption) ?_
  rotate_left 1
  · intro w hSw
    try dsimp only at hSw
    go_simp
    try with_reducible rfl
  try simp only [Act.put, List.setIfInBounds_toArray, List.set_cons_zero, List.set_cons_succ]
  refine wpAnyH_take (i := 13) (oi := ⟨some 16, _, _, _, _, _⟩) (v := ?_) rfl (by kernel_rfl) (by kernel_rfl) (by kernel_rfl) (fun _ _ _ h => h) (Or.inl ⟨by rfl, ?_⟩) (by assumption) ?_
  rotate_left 1
  · intro w hSw
    try dsimp only at hSw
    go_simp
    try with_reducible rfl
  try simp only [Act.put, List.setIfInBounds_toArray, List.set_cons_zero, List.set_cons_succ]
  refine wpAnyH_take (i := 14) (oi := ⟨some 17, _, _, _, _, _⟩) (v := ?_) rfl (by kernel_rfl) (by kernel_rfl) (by kernel_rfl) (fun _ _ _ h => h) (Or.inl ⟨by rfl, ?_⟩) (by assumption) ?_
  rotate_left 1
  · intro w hSw
    try dsimp only at hSw
    go_simp
    try with_reducible rfl
  try simp only [Act.put, List.setIfInBounds_toArray, List.set_cons_zero, List.set_cons_succ]
  refine wpAnyH_take (i := 15) (oi := ⟨some 18, _, _, _, _, _⟩) (v := ?_) rfl (by kernel_rfl) (by kernel_rfl) (by kernel_rfl) (fun _ _ _ h => h) (Or.inl ⟨by rfl, ?_⟩) (by assumption) ?_
  rotate_left 1
  · intro w hSw
    try dsimp only at hSw
    go_simp
    try with_reducible rfl
  try simp only [Act.put, List.setIfInBounds_toArray, List.set_cons_zero, List.set_cons_succ]
  refine wpAnyH_take (i := 16) (oi := ⟨some 19, _, _, _, _, _⟩) (v := ?_) rfl (by kernel_rfl) (by kernel_rfl) (by kernel_rfl) (fun _ _ _ h => h) (Or.inl ⟨by rfl, ?_⟩) (by assumption) ?_
  rotate_left 1
  · intro w hSw
    try dsimp only at hSw
    go_simp
    try with_reducible rfl
  try simp only [Act.put, List.setIfInBounds_toArray, List.set_cons_zero, List.set_cons_succ]
  refine wpAnyH_take (i := 17) (oi := ⟨some 20, _, _, _, _, _⟩) (v := ?_) rfl (by kernel_rfl) (by kernel_rfl) (by kernel_rfl) (fun _ _ _ h => h) (Or.inl ⟨by rfl, ?_⟩) (by assumption) ?_
  rotate_left 1
  · intro w hSw
    try dsimp only at hSw
    go_simp
    try with_reducible rfl
  try simp only [Act.put, List.setIfInBounds_toArray, List.set_cons_zero, List.set_cons_succ]
  refine wpAnyH_take (i := 18) (oi := ⟨some 21, _, _, _, _, _⟩) (v := ?_) rfl (by kernel_rfl) (by kernel_rfl) (by kernel_rfl) (fun _ _ _ h => h) (Or.inl ⟨by rfl, ?_⟩) (by assumption) ?_
  rotate_left 1
  · intro w hSw
    try dsimp only at hSw
    go_simp
    try with_reducible rfl
  try simp only [Act.put, List.setIfInBounds_toArray, List.set_cons_zero, List.set_cons_succ]
  refine wpAnyH_take (i := 19) (oi := ⟨some 22, _, _, _, _, _⟩) (v := ?_) rfl (by kernel_rfl) (by kernel_rfl) (by kernel_rfl) (fun _ _ _ h => h) (Or.inl ⟨by rfl, ?_⟩) (by assumption) ?_
  rotate_left 1
  · intro w hSw
    try dsimp only at hSw
    go_simp
    try with_reducible rfl
  try simp only [Act.put, List.setIfInBounds_toArray, List.set_cons_zero, List.set_cons_succ]
  refine wpAnyH_take (i := 20) (oi := ⟨some 23, _, _, _, _, _⟩) (v := ?_) rfl (by kernel_rfl) (by kernel_rfl) (by kernel_rfl) (fun _ _ _ h => h) (Or.inl ⟨by rfl, ?_⟩) (by assumption) ?_
  rotate_left 1
  · intro w hSw
    try dsimp only at hSw
    go_simp
    try with_reducible rfl
  try simp only [Act.put, List.setIfInBounds_toArray, List.set_cons_zero, List.set_cons_succ]
  refine wpAnyH_take (i := 21) (oi := ⟨some 24, _, _, _, _, _⟩) (v := ?_) rfl (by kernel_rfl) (by kernel_rfl) (by kernel_rfl) (fun _ _ _ h => h) (Or.inl ⟨by rfl, ?_⟩) (by assumption) ?_
  rotate_left 1
  · intro w hSw
    try dsimp only at hSw
    go_simp
    try with_reducible rfl
  try simp only [Act.put, List.setIfInBounds_toArray, List.set_cons_zero, List.set_cons_succ]
  refine wpAnyH_take (i := 22) (oi := ⟨some 25, _, _, _, _, _⟩) (v := ?_) rfl (by kernel_rfl) (by kernel_rfl) (by kernel_rfl) (fun _ _ _ h => h) (Or.inl ⟨by rfl, ?_⟩) (by assumption) ?_
  rotate_left 1
  · intro w hSw
    try dsimp only at hSw
    go_simp
    try with_reducible rfl
  try simp only [Act.put, List.setIfInBounds_toArray, List.set_cons_zero, List.set_cons_succ]
  refine wpAnyH_take (i := 23) (oi := ⟨some 26, _, _, _, _, _⟩) (v := ?_) rfl (by kernel_rfl) (by kernel_rfl) (by kernel_rfl) (fun _ _ _ h => h) (Or.inl ⟨by rfl, ?_⟩) (by assumption) ?_
  rotate_left 1
  · intro w hSw
    try dsimp only at hSw
    go_simp
    try with_reducible rfl
  try simp only [Act.put, List.setIfInBounds_toArray, List.set_cons_zero, List.set_cons_succ]
  refine wpAnyH_take (i := 25) (oi := ⟨some 28, _, _, _, _, _⟩) (v := ?_) rfl (by kernel_rfl) (by kernel_rfl) (by kernel_rfl) (fun _ _ _ h => h) (Or.inl ⟨by rfl, ?_⟩) (by assumption) ?_
  rotate_left 1
  · intro w hSw
    try dsimp only at hSw
    go_simp
    try with_reducible rfl
  try simp only [Act.put, List.setIfInBounds_toArray, List.set_cons_zero, List.set_cons_succ]
  refine wpAnyH_take (i := 26) (oi := ⟨some 29, _, _, _, _, _⟩) (v := ?_) rfl (by kernel_rfl) (by kernel_rfl) (by kernel_rfl) (fun _ _ _ h => h) (Or.inl ⟨by rfl, ?_⟩) (by assumption) ?_
  rotate_left 1
  · intro w hSw
    try dsimp only at hSw
    go_simp
    try with_reducible rfl
  try simp only [Act.put, List.setIfInBounds_toArray, List.set_cons_zero, List.set_cons_succ]
  refine wpAnyH_take (i := 27) (oi := ⟨some 30, _, _, _, _, _⟩) (v := ?_) rfl (by kernel_rfl) (by kernel_rfl) (by kernel_rfl) (fun _ _ _ h => h) (Or.inl ⟨by rfl, ?_⟩) (by assumption) ?_
  rotate_left 1
  · intro w hSw
    try dsimp only at hSw
    go_simp
    try with_reducible rfl
  try simp only [Act.put, List.setIfInBounds_toArray, List.set_cons_zero, List.set_cons_succ]
  refine wpAnyH_take (i := 28) (oi := ⟨some 31, _, _, _, _, _⟩) (v := ?_) rfl (by kernel_rfl) (by kernel_rfl) (by kernel_rfl) (fun _ _ _ h => h) (Or.inl ⟨by rfl, ?_⟩) (by assumption) ?_
  rotate_left 1
  · intro w hSw
    try dsimp only at hSw
    go_simp
    try with_reducible rfl
  try simp only [Act.put, List.setIfInBounds_toArray, List.set_cons_zero, List.set_cons_succ]
  refine wpAnyH_take (i := 29) (oi := ⟨some 32, _, _, _, _, _⟩) (v := ?_) rfl (by kernel_rfl) (by kernel_rfl) (by kernel_rfl) (fun _ _ _ h => h) (Or.inl ⟨by rfl, ?_⟩) (by assumption) ?_
  rotate_left 1
  · intro w hSw
    try dsimp only at hSw
    go_simp
    try with_reducible rfl
  try simp only [Act.put, List.setIfInBounds_toArray, List.set_cons_zero, List.set_cons_succ]
  refine wpAnyH_take (i := 30) (oi := ⟨some 33, _, _, _, _, _⟩) (v := ?_) rfl (by kernel_rfl) (by kernel_rfl) (by kernel_rfl) (fun _ _ _ h => h) (Or.inl ⟨by rfl, ?_⟩) (by assumption) ?_
  rotate_left 1
  · intro w hSw
    try dsimp only at hSw
    go_simp
    try with_reducible rfl
  try simp only [Act.put, List.setIfInBounds_toArray, List.set_cons_zero, List.set_cons_succ]
  refine wpAnyH_ready (rs := [24]) (by kernel_rfl) (by simp) ?_
  refine AllReadyH.cons (o := ⟨some 27, _, _, _, _, _⟩) rfl (fun K hK => ?_) AllReadyH.nil
  go_simp
  refine (pools35_any (.slice p4 s.pools.length q4) s.pools _ (HP.out.pools.below (below_drewN HB0.out 1)) (fun p hp => (HP.out.rows p hp).below (below_drewN HB0.out 1)) HF.out HSZ.out).mono ?_
  rintro e w6 ⟨vp, T6, rfl, hi6, hl6, hb6⟩
  obtain ⟨va, vc, hvp, -⟩ := (sl_own hi6.own).form
  rw [hl6] at hvp
  subst hvp
  have hHeld6 : (fun w2 => w2.cell? ⟨w.heap.size, 0, none⟩ = some (.int .u64 s.now) ∧ w2.cell? ⟨w.heap.size, 1, none⟩ = some (.bool s.dr) ∧ w2.cell? ⟨w.heap.size, 2, none⟩ = some (.int .i64 s.ep) ∧ w2.cell? ⟨w.heap.size, 3, none⟩ = some (.int .i64 s.nx) ∧ w2.cell? ⟨w.heap.size, 4, none⟩ = some (.int .i64 s.lw) ∧ w2.cell? ⟨w.heap.size, 5, none⟩ = some (.int .i64 s.li) ∧ w2.cell? ⟨w.heap.size, 6, none⟩ = some (.int .i64 s.sv) ∧ w2.cell? ⟨w.heap.size, 7, none⟩ = some (.slice p0 s.live.length q0) ∧ w2.cell? ⟨w.heap.size, 8, none⟩ = some (.slice p1 s.ended.length q1) ∧ w2.cell? ⟨w.heap.size, 9, none⟩ = some (.slice p2 s.wks.length q2) ∧ w2.cell? ⟨w.heap.size, 10, none⟩ = some (.slice p3 s.invs.length q3) ∧ w2.cell? ⟨w.heap.size, 11, none⟩ = some (.slice p4 s.pools.length q4) ∧ w2.cell? ⟨w.heap.size, 12, none⟩ = some (.slice p5 s.hist.length q5) ∧ w2.cell? ⟨w.heap.size, 13, none⟩ = some (.slice p6 s.lets.length q6) ∧ w2.cell? ⟨w.heap.size, 14, none⟩ = some (.slice p7 s.wts.length q7)) w6 := ⟨cell_below hb6 hHeld.1, cell_below hb6 hHeld.2.1, cell_below hb6 hHeld.2.2.1, cell_below hb6 hHeld.2.2.2.1, cell_below hb6 hHeld.2.2.2.2.1, cell_below hb6 hHeld.2.2.2.2.2.1, cell_below hb6 hHeld.2.2.2.2.2.2.1, cell_below hb6 hHeld.2.2.2.2.2.2.2.1, cell_below hb6 hHeld.2.2.2.2.2.2.2.2.1, cell_below hb6 hHeld.2.2.2.2.2.2.2.2.2.1, cell_below hb6 hHeld.2.2.2.2.2.2.2.2.2.2.1, cell_below hb6 hHeld.2.2.2.2.2.2.2.2.2.2.2.1, cell_below hb6 hHeld.2.2.2.2.2.2.2.2.2.2.2.2.1, cell_below hb6 hHeld.2.2.2.2.2.2.2.2.2.2.2.2.2.1, cell_below hb6 hHeld.2.2.2.2.2.2.2.2.2.2.2.2.2.2⟩
  refine hK.out _ _ hHeld6 (fun hHeld => ?_)
  clear hK K
  try simp only [Act.put, List.setIfInBounds_toArray, List.set_cons_zero, List.set_cons_succ]
  clear hHeld6
  refine wpAnyH_take (i := 31) (oi := ⟨some 34, _, _, _, _, _⟩) (v := ?_) rfl (by kernel_rfl) (by kernel_rfl) (by kernel_rfl) (fun _ _ _ h => h) (Or.inl ⟨by rfl, ?_⟩) (by assumption) ?_
  rotate_left 1
  · intro w hSw
    try dsimp only at hSw
    go_simp
    try with_reducible rfl
  try simp only [Act.put, List.setIfInBounds_toArray, List.set_cons_zero, List.set_cons_succ]
  have HI6 := Lib.hid hi6
  have HZ6 := Lib.hid ((hb6.block _ HLT.out).trans HZ.out)
  have HB6 := Lib.hid (HB.out.trans (hb6.mono HB.out.size))
  refine wpAnyH_ready (rs := [32]) (by kernel_rfl) (by simp) ?_
  refine AllReadyH.cons (o := ⟨none, _, _, _, _, _⟩) rfl (fun K hK => ?_) AllReadyH.nil
  refine wp_store_row 42 _ _ rfl (w.heap.size + 1) (staC s (StV.po (StV.mk (.slice p0 s.live.length q0) (.slice p1 s.ended.length q1) (.slice p2 s.wks.length q2) (.slice p3 s.invs.length q3) (.slice p4 s.pools.length q4) (.slice p5 s.hist.length q5) (.slice p6 s.lets.length q6) (.slice p7 s.wts.length q7)) (.slice va s.pools.length vc))) rfl rfl 42 _ HZ6.out st_info rfl (HONE.out _ ⟨va, _, vc, rfl⟩) ?_
  refine hK.out _ _ ⟨(cell_setRow_not (by omega)).trans hHeld.1, (cell_setRow_not (by omega)).trans hHeld.2.1, (cell_setRow_not (by omega)).trans hHeld.2.2.1, (cell_setRow_not (by omega)).trans hHeld.2.2.2.1, (cell_setRow_not (by omega)).trans hHeld.2.2.2.2.1, (cell_setRow_not (by omega)).trans hHeld.2.2.2.2.2.1, (cell_setRow_not (by omega)).trans hHeld.2.2.2.2.2.2.1, (cell_setRow_not (by omega)).trans hHeld.2.2.2.2.2.2.2.1, (cell_setRow_not (by omega)).trans hHeld.2.2.2.2.2.2.2.2.1, (cell_setRow_not (by omega)).trans hHeld.2.2.2.2.2.2.2.2.2.1, (cell_setRow_not (by omega)).trans hHeld.2.2.2.2.2.2.2.2.2.2.1, (cell_setRow_not (by omega)).trans hHeld.2.2.2.2.2.2.2.2.2.2.2.1, (cell_setRow_not (by omega)).trans hHeld.2.2.2.2.2.2.2.2.2.2.2.2.1, (cell_setRow_not (by omega)).trans hHeld.2.2.2.2.2.2.2.2.2.2.2.2.2.1, (cell_setRow_not (by omega)).trans hHeld.2.2.2.2.2.2.2.2.2.2.2.2.2.2⟩ (fun hHeld => ?_)
  clear hK K
  refine wpAnyH_done (by kernel_rfl) ?_ _
  refine NoPanic.normal ?_
  clear hHeld
  go_wp2_with fail
  refine bodyPost_ret (v := .agg (staC s (StV.po (StV.mk (.slice p0 s.live.length q0) (.slice p1 s.ended.length q1) (.slice p2 s.wks.length q2) (.slice p3 s.invs.length q3) (.slice p4 s.pools.length q4) (.slice p5 s.hist.length q5) (.slice p6 s.lets.length q6) (.slice p7 s.wts.length q7)) (.slice va s.pools.length vc)))) (results_row1 Tryz.results10 rfl (setRow_at HZ6.out) Tryz.underlying42 rfl st_info) rfl ⟨_, rfl, ⟨T6, ?_⟩, below_setRow HB6.out (by omega) _⟩
  exact (HI6.out.turn grown_setRow HLT.out).pos hl6 (below_setRow HB6.out (by omega) _) HP.out.rows
end Go.Proofs.YtjmlimogmmikoaaGreatDoor
namespace Go.Proofs.YtjmlimogmmikoaaGreatDoor
open Go.RowKit
theorem eqL_map {α β : Type} {e : β → β → Bool} {f g : α → β} : ∀ (l m : List α), eqL (fun x y => e (f x) (g y)) l m = eqL e (l.map f) (m.map g)
  | [], [] => rfl
  | [], _ :: _ => rfl
  | _ :: _, [] => rfl
  | x :: l, y :: m => by simp only [eqL, List.map_cons, eqL_map l m]
theorem eqL_and {α : Type} {e f : α → α → Bool} : ∀ (l m : List α), eqL (fun x y => e x y && f x y) l m = (eqL e l m && eqL f l m)
  | [], [] => rfl
  | [], _ :: _ => rfl
  | _ :: _, [] => rfl
  | x :: l, y :: m => by
    simp only [eqL, eqL_and l m]
    cases e x y <;> cases f x y <;> cases eqL e l m <;> rfl
def kT (p : TV) : TRow × List (FRow × Value) := (p.1, p.2.2)
def kD (d : DV) : TRow × List (FRow × Value) := (d.1, d.2.2.2)
def eqK (p q : TRow × List (FRow × Value)) : Bool := (p.1.id == q.1.id) && (p.1.wt == q.1.wt) && (p.1.df == q.1.df) && (p.1.gv == q.1.gv) && eqL eqFV p.2 q.2
def eqTV (p q : TV) : Bool := eqK (kT p) (kT q)
theorem map_two {α β γ δ : Type} {f : α → γ} {f' : α → δ} {g : β → γ} {g' : β → δ} : ∀ {l : List α} {m : List β}, l.map f = m.map g → l.map f' = m.map g' → l.map (fun x => (f x, f' x)) = m.map (fun y => (g y, g' y))
  | [], [], _, _ => rfl
  | [], _ :: _, h, _ => by simp at h
  | _ :: _, [], h, _ => by simp at h
  | x :: l, y :: m, h, h' => by
    simp only [List.map_cons, List.cons.injEq] at h h' ⊢
    exact ⟨by rw [h.1, h'.1], map_two h.2 h'.2⟩
theorem zip_two {α γ δ : Type} (f : α → γ) (g : α → δ) : ∀ l : List α, (l.map f).zip (l.map g) = l.map (fun x => (f x, g x))
  | [] => rfl
  | x :: l => by simp only [List.map_cons, List.zip_cons_cons, zip_two f g l]
theorem PoAt.keys {w : World} {p : QX} {t : PoR} (h : PoAt w p t) : t.sh.map (fun s => s.2.map kT) = p.sh.map (fun y => y.2.l.map kD) := by
  have h1 := map_two h.same h.lists
  have h2 := congrArg (List.map (fun z : List TRow × List (List (FRow × Value)) => z.1.zip z.2)) h1
  rw [List.map_map, List.map_map] at h2
  have e1 : ((fun z : List TRow × List (List (FRow × Value)) => z.1.zip z.2) ∘ fun s : Value × List TV => (s.2.map Prod.fst, s.2.map (fun z => z.2.2))) = fun s => s.2.map kT := by
    funext s
    exact zip_two _ _ _
  have e2 : ((fun z : List TRow × List (List (FRow × Value)) => z.1.zip z.2) ∘ fun y : Int × QS => (y.2.l.map Prod.fst, y.2.l.map (fun d => d.2.2.2))) = fun y => y.2.l.map kD := by
    funext y
    exact zip_two _ _ _
  rw [e1, e2] at h2
  exact h2
theorem flat_one {α : Type} (f : α → Value) : ∀ l : List α, l.flatMap (fun x => [f x]) = l.map f
  | [] => rfl
  | x :: l => by rw [List.flatMap_cons, flat_one f l]; rfl
theorem eqSD_split (l m : List (Int × QS)) : eqL eqSD l m = (eqL eqB (l.map (fun y => y.2.gv)) (m.map (fun y => y.2.gv)) && eqL (eqL eqK) (l.map (fun y => y.2.l.map kD)) (m.map (fun y => y.2.l.map kD))) := by
  rw [← eqL_map, ← eqL_map, ← eqL_and]
  congr 1
  funext x y
  unfold eqSD eqB
  rw [← eqL_map]
  rfl
theorem shares_split {w w' : World} {p q : QX} {t t' : PoR} (h : PoAt w p t) (h' : PoAt w' q t') : eqL (fun s s' : Value × List TV => eqL eqTV s.2 s'.2) t.sh t'.sh = eqL (eqL eqK) (p.sh.map (fun y => y.2.l.map kD)) (q.sh.map (fun y => y.2.l.map kD)) := by
  rw [← h.keys, ← h'.keys, ← eqL_map]
  congr 1
  funext s s'
  rw [← eqL_map]
  rfl
def enF (p : FRow × Value) : Array Value := #[.int .i64 p.1.id, .int .i64 p.1.wt, .int .i64 p.1.df, p.2]
def enT (p : TV) : Array Value := #[.int .i64 p.1.id, .int .i64 p.1.wt, .int .i64 p.1.df, p.2.1, .bool p.1.gv]
theorem RowsAt.sl {w : World} {v : Value} {l : List (FRow × Value)} (h : RowsAt w v l) : SlAt w v l.length (l.flatMap fun x => (enF x).toList) := by
  obtain ⟨⟨a, cap, hv, hle, hc⟩, _⟩ := h
  exact ⟨a, cap, hv, hle, hc⟩
theorem TRowsAt.sl {w : World} {v : Value} {l : List TV} (h : TRowsAt w v l) : SlAt w v l.length (l.flatMap fun x => (enT x).toList) := by
  obtain ⟨⟨a, cap, hv, hle, hc⟩, _⟩ := h
  exact ⟨a, cap, hv, hle, hc⟩
theorem enF_one {w : World} {v : Value} {l : List (FRow × Value)} (h : RowsAt w v l) : ∀ x ∈ l, (enF x).all (·.oneCell') = true := fun x hx => by
  obtain ⟨a, c, hv, _⟩ := h.its x hx
  simp [enF, Value.oneCell', hv]
theorem enT_one {w : World} {v : Value} {l : List TV} (h : TRowsAt w v l) : ∀ x ∈ l, (enT x).all (·.oneCell') = true := fun x hx => by
  obtain ⟨a, c, hv, _⟩ := (h.inv x hx).1.form
  simp [enT, Value.oneCell', hv]
theorem eqFlows (v1 v2 : Value) (l m : List (FRow × Value)) (w : World) (h1 : RowsAt w v1 l) (h2 : RowsAt w v2 m) (hn : l.length ≤ 1000000) (hs : ∀ p ∈ l, p.1.its.length ≤ 1000000) :
    Calls Tryz.prog 177 #[v1, v2, .func (.func 178) #[] #[]] w (BoolPost (eqL eqFV l m) w) :=
  eqfFlow enF (fun _ => rfl) eqFV l m (fun x hx => hx.elim (enF_one h1 x) (enF_one h2 x)) v1 v2 w h1.sl h2.sl hn fun x hx y hy w' hb =>
    sameflow_any x.1.id x.1.wt x.1.df y.1.id y.1.wt y.1.df x.2 y.2 (eqL eqIt x.1.its y.1.its) w' fun w2 hb2 =>
      sleqIt x.2 y.2 x.1.its y.1.its w2 (((h1.its x hx).below hb).below hb2) (((h2.its y hy).below hb).below hb2) (hs x hx)
def FewTV (l : List TV) : Prop := l.length ≤ 1000000 ∧ ∀ p ∈ l, p.2.2.length ≤ 1000000 ∧ ∀ r ∈ p.2.2, r.1.its.length ≤ 1000000
theorem eqTens (v1 v2 : Value) (l m : List TV) (w : World) (h1 : TRowsAt w v1 l) (h2 : TRowsAt w v2 m) (hn : FewTV l) :
    Calls Tryz.prog 119 #[v1, v2, .func (.func 120) #[] #[]] w (BoolPost (eqL eqTV l m) w) :=
  eqfShare enT (fun _ => rfl) eqTV l m (fun x hx => hx.elim (enT_one h1 x) (enT_one h2 x)) v1 v2 w h1.sl h2.sl hn.1 fun x hx y hy w' hb =>
    sameshare_any x.1.id x.1.wt x.1.df y.1.id y.1.wt y.1.df x.1.gv y.1.gv x.2.1 y.2.1 (eqL eqFV x.2.2 y.2.2) w' fun w2 hb2 =>
      eqFlows x.2.1 y.2.1 x.2.2 y.2.2 w2 (((h1.inv x hx).1.below hb).below hb2) (((h2.inv y hy).1.below hb).below hb2) (hn.2 x hx).1 (hn.2 x hx).2
theorem PoAt.few {w : World} {p : QX} {t : PoR} (h : PoAt w p t) (hs : SmallP p) : ∀ s ∈ t.sh, FewTV s.2 := by
  intro s hs1
  have hm := List.mem_map_of_mem (f := fun s : Value × List TV => s.2.map kT) hs1
  rw [h.keys] at hm
  obtain ⟨y, hy, hye⟩ := List.mem_map.1 hm
  have hf := hs.2.2 y hy
  have hlen : s.2.length = y.2.l.length := by have := congrArg List.length hye; simpa using this.symm
  refine ⟨by have := hf.1; omega, fun z hz => ?_⟩
  have hz2 := List.mem_map_of_mem (f := kT) hz
  rw [← hye] at hz2
  obtain ⟨d, hd, hde⟩ := List.mem_map.1 hz2
  have hdz : d.2.2.2 = z.2.2 := congrArg (fun k : TRow × List (FRow × Value) => k.2) hde
  have hfd := hf.2 d hd
  unfold FewT at hfd
  rw [hdz] at hfd
  exact ⟨by omega, fun r hr => by have := hfd.2 r hr; omega⟩
theorem samePool_of (w : World) (p q : QX) (t t' : PoR) (h : PoAt w p t) (h' : PoAt w q t') (hp : QXAt w p) (hq : QXAt w q) (hs : SmallP p) :
    Calls Tryz.prog 53 #[.agg (encPR t.r).toArray, .agg (encPR t'.r).toArray] w (BoolPost (eqN p q) w) := by
  have hl := hs.2.1
  have key := samepool_any t.r.name t'.r.name t.r.uses t'.r.uses t.r.sv t'.r.sv t.r.hv t'.r.hv t.r.gv t'.r.gv (eqL eqZ p.served q.served) (eqL eqB (p.sh.map (fun y => y.2.gv)) (q.sh.map (fun y => y.2.gv))) (eqL (fun s s' : Value × List TV => eqL eqTV s.2 s'.2) t.sh t'.sh) w
    (fun w' hb => by
      rw [h.sv, h'.sv]
      exact sleqZ _ _ _ _ w' (hp.sv.below hb) (hq.sv.below hb) (by have := hs.1; omega))
    (fun w' hb => sleqB _ _ _ _ w' (by
      have := h.gv.below hb
      rw [List.length_map, List.flatMap_map]
      rw [show p.sh.map (fun y => Value.bool y.2.gv) = p.sh.flatMap (fun y => encB y.2.gv) from (flat_one (fun y : Int × QS => Value.bool y.2.gv) _).symm] at this
      exact this) (by
      have := h'.gv.below hb
      rw [List.length_map, List.flatMap_map]
      rw [show q.sh.map (fun y => Value.bool y.2.gv) = q.sh.flatMap (fun y => encB y.2.gv) from (flat_one (fun y : Int × QS => Value.bool y.2.gv) _).symm] at this
      exact this) (by rw [List.length_map]; omega))
    (fun w' hb => eqfSlices Prod.fst (fun s s' : Value × List TV => eqL eqTV s.2 s'.2) t.sh t'.sh _ _ w' (by
      have := h.hv.below hb
      have hlen : t.sh.length = p.sh.length := by have := congrArg List.length h.same; simpa using this
      rw [hlen, show t.sh.flatMap (fun x => [Prod.fst x]) = t.sh.map Prod.fst from flat_one _ _]
      exact this) (by
      have := h'.hv.below hb
      have hlen : t'.sh.length = q.sh.length := by have := congrArg List.length h'.same; simpa using this
      rw [hlen, show t'.sh.flatMap (fun x => [Prod.fst x]) = t'.sh.map Prod.fst from flat_one _ _]
      exact this) (by have hlen : t.sh.length = p.sh.length := by { have := congrArg List.length h.same; simpa using this }; omega) fun x hx y hy w2 hb2 =>
        sameshares_any _ _ _ w2 fun w3 hb3 => eqTens _ _ _ _ w3 (((h.rows x hx).below hb).below hb2 |>.below hb3) (((h'.rows y hy).below hb).below hb2 |>.below hb3) (h.few hs x hx))
  refine key.mono ?_
  rintro e w' ⟨rfl, hb⟩
  refine ⟨?_, hb⟩
  rw [shares_split h h', h.name, h'.name, h.uses, h'.uses]
  unfold eqN
  rw [eqSD_split]
  simp only [Bool.and_assoc]
theorem zip_fst_of {α β : Type} : ∀ {l : List α} {m : List β}, l.length = m.length → (l.zip m).map Prod.fst = l ∧ (l.zip m).map Prod.snd = m
  | [], [], _ => ⟨rfl, rfl⟩
  | [], _ :: _, h => by simp at h
  | _ :: _, [], h => by simp at h
  | x :: l, y :: m, h => by
    obtain ⟨h1, h2⟩ := zip_fst_of (l := l) (m := m) (by simpa using h)
    simp only [List.zip_cons_cons, List.map_cons, h1, h2, and_self]
theorem eqPools (v1 v2 : Value) (l m : List QX) (T T' : List PoR) (w : World) (h1 : PosAt w v1 l T) (h2 : PosAt w v2 m T') (hp : ∀ p ∈ l, QXAt w p) (hq : ∀ p ∈ m, QXAt w p) (hn : l.length ≤ 1000000) (hs : ∀ p ∈ l, SmallP p) :
    Calls Tryz.prog 52 #[v1, v2, .func (.func 53) #[] #[]] w (BoolPost (eqL eqN l m) w) := by
  obtain ⟨z1, z2⟩ := zip_fst_of h1.len
  obtain ⟨y1, y2⟩ := zip_fst_of h2.len
  have hmem : ∀ {l : List QX} {T : List PoR} {v : Value}, PosAt w v l T → ∀ x ∈ T.zip l, PoAt w x.2 x.1 ∧ x.2 ∈ l := fun {l T v} h x hx => by
    obtain ⟨i, hi⟩ := List.getElem?_of_mem hx
    rw [List.getElem?_zip_eq_some] at hi
    exact ⟨h.row i _ _ hi.1 hi.2, List.mem_of_getElem? hi.2⟩
  have hsl : ∀ {l : List QX} {T : List PoR} {v : Value}, PosAt w v l T → (T.zip l).map Prod.fst = T → SlAt w v (T.zip l).length ((T.zip l).flatMap fun x => (encPR x.1.r).toArray.toList) := fun {l T v} h e => by
    have := h.own
    rw [show (T.zip l).length = T.length by rw [← List.length_map (f := Prod.fst), e]]
    rw [show ((T.zip l).flatMap fun x => (encPR x.1.r).toArray.toList) = T.flatMap (fun t => encPR t.r) by
      rw [← e]
      rw [List.flatMap_map]
      rw [e]]
    exact this
  have hone : ∀ {l : List QX} {T : List PoR} {v : Value}, PosAt w v l T → (∀ p ∈ l, QXAt w p) → ∀ x ∈ T.zip l, ((encPR x.1.r).toArray).all (·.oneCell') = true := fun {l T v} h hq x hx => by
    obtain ⟨ha, hm⟩ := hmem h x hx
    obtain ⟨a1, c1, e1, _⟩ := (hq x.2 hm).sv.form
    obtain ⟨a2, c2, e2, _⟩ := ha.hv.form
    obtain ⟨a3, c3, e3, _⟩ := ha.gv.form
    simp [encPR, Value.oneCell', ha.sv, e1, e2, e3]
  have key := eqfPool (fun x : PoR × QX => (encPR x.1.r).toArray) (fun _ => rfl) (fun x y => eqN x.2 y.2) (T.zip l) (T'.zip m) (fun x hx => hx.elim (hone h1 hp x) (hone h2 hq x)) v1 v2 w (hsl h1 z1) (hsl h2 y1) (by rw [← List.length_map (f := Prod.snd), z2]; exact hn)
    fun x hx y hy w' hb => by
      obtain ⟨hx1, hx2⟩ := hmem h1 x hx
      obtain ⟨hy1, hy2⟩ := hmem h2 y hy
      exact samePool_of w' x.2 y.2 x.1 y.1 (hx1.below hb) (hy1.below hb) ((hp _ hx2).below hb) ((hq _ hy2).below hb) (hs _ hx2)
  rw [eqL_map, z2, y2] at key
  exact key
end Go.Proofs.YtjmlimogmmikoaaGreatDoor
