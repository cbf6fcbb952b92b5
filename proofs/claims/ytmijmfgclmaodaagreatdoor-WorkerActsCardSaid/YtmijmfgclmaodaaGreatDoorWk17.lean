/-
  WorkerActs: the walk.
-/
import Derived.Test.YtmijmfgclmaodaaGreatDoorWk16
import Derived.Deep.RegionWith
import Derived.Deep.RegionHeld3
namespace Go.Proofs.YtmijmfgclmaodaaGreatDoor
open Go.RowKit

theorem step_last {s : Bk} {y : Ac} {n : Nat} (h0 : 0 ≤ s.last) (h1 : s.last ≤ n) : 0 ≤ (stepS s y).last ∧ (stepS s y).last ≤ ((n + 1 : Nat) : Int) := by
  have key : ∀ t : Bk, t.last = s.last ∨ t.last = s.last + 1 → 0 ≤ t.last ∧ t.last ≤ ((n + 1 : Nat) : Int) := fun t h => by rcases h with h | h <;> rw [h] <;> omega
  have hu : ∀ no f, (updS s no f).last = s.last := fun no f => by unfold updS; split <;> rfl
  apply key
  unfold stepS
  split
  · unfold addU; split
    · exact .inr rfl
    · exact .inl rfl
  split
  · exact .inl (hu _ _)
  split
  · exact .inl (hu _ _)
  split
  · unfold giveS; split
    · exact .inl (hu _ _)
    · exact .inl rfl
  split
  · exact .inl (hu _ _)
  · unfold remS; split
    · exact .inl rfl
    · exact .inl rfl
theorem step_len {s : Bk} {y : Ac} {n : Nat} (h1 : s.ws.length ≤ n) : (stepS s y).ws.length ≤ n + 1 := by
  have key : ∀ t : Bk, t.ws.length ≤ s.ws.length + 1 → t.ws.length ≤ n + 1 := fun t h => by omega
  have hu : ∀ no f, (updS s no f).ws.length = s.ws.length := fun no f => by unfold updS; split <;> simp [setS]
  apply key
  unfold stepS
  split
  · unfold addU; split
    · simp [addS]
    · omega
  split
  · rw [hu]; omega
  split
  · rw [hu]; omega
  split
  · unfold giveS; split
    · rw [hu]; omega
    · omega
  split
  · unfold freeS; rw [hu]; omega
  · unfold remS; split
    · have := List.length_eraseIdx_le s.ws (findI (noB y.x.no) s.ws).toNat
      simp only [delS]
      omega
    · omega
def WARel (w0 : World) (b b' n : Nat) (i : Value) (wr : World) : Prop :=
  ∃ (k : Nat) (s : Bk), i = .int .i64 k ∧ k ≤ n ∧ 0 ≤ s.last ∧ s.last ≤ k ∧ s.ws.length ≤ k ∧ Two w0 b b' [] w0 s s wr
theorem two_new (room : Int) (w : World) : Two w w.heap.size (w.heap.size + 1) [] w ⟨room, 0, []⟩ ⟨room, 0, []⟩ ((w.alloc (.cells #[.int .i64 room, .int .i64 0, .slice none 0 0] 56)).alloc (.cells #[.int .i64 room, .int .i64 0, .slice none 0 0] 29)) :=
  ⟨⟨.slice none 0 0, .slice none 0 0, ⟨Nat.le_refl _, fr_alloc_old fr_alloc_at, own_nil _ _ _ _, Nat.zero_le _⟩, ⟨by omega, heap_alloc_two w _ _, own_nil _ _ _ _, Nat.zero_le _⟩, by simp [blk, Value.ownBlock], fun k hk => by cases hk⟩, (fun k hk => by cases hk), box_below.alloc (by simp) _⟩
set_option maxRecDepth 100000 in
set_option maxHeartbeats 4000000 in
theorem workerActs_long (room : Int) (a : Option Addr) (n cap : Nat) (w : World) (hr : Ready w) (h : 150 < n) (hn : n ≤ 140737488351232) :
    Calls Tryz.prog 3 #[.int .i64 room, .slice a n cap] w (TrueBelow w) := by
  have HR := Lib.hid hr
  clear hr
  by_cases h1 : room < 1
  all_goals
    go_enter Tryz.func3, Tryz.ntmps3
    go_wp2_with fail
  · refine (new_none room _ h1).mono ?_
    rintro e w1 ⟨rfl, rfl⟩
    go_wp2_with fail
    refine (live29_any _ HR.out).mono ?_
    rintro e w2 ⟨rfl, hb2⟩
    go_wp2
    go_ret
    exact ⟨rfl, hb2⟩
  · refine (new_some room _ (by omega)).mono ?_
    rintro e w1 ⟨rfl, rfl⟩
    go_wp2_with fail
    refine (live29_any _ (HR.out.below box_below)).mono ?_
    rintro e w2 ⟨rfl, hb2⟩
    go_wp2
    go_ret
    exact ⟨rfl, box_below.trans (hb2.mono (by simp))⟩
set_option maxRecDepth 100000 in
set_option maxHeartbeats 4000000 in
theorem workerActs_nil (room : Int) (a : Option Addr) (n cap : Nat) (w : World) (hr : Ready w) (h : n ≤ 150) (h1 : room < 1) :
    Calls Tryz.prog 3 #[.int .i64 room, .slice a n cap] w (TrueBelow w) := by
  have HR := Lib.hid hr
  clear hr
  go_enter Tryz.func3, Tryz.ntmps3
  go_wp2_with fail
  refine (new_none room _ h1).mono ?_
  rintro e w1 ⟨rfl, rfl⟩
  go_wp2_with fail
  refine (live29_any _ HR.out).mono ?_
  rintro e w2 ⟨rfl, hb2⟩
  go_wp2
  go_ret
  exact ⟨rfl, hb2⟩
set_option maxRecDepth 100000 in
set_option maxHeartbeats 8000000 in
theorem workerActs_go (room : Int) (v0 : Value) (l : List Ac) (w : World) (hr : Ready w) (hA : ActsAt w v0 l) (h : l.length ≤ 150) (h1 : 1 ≤ room) :
    Calls Tryz.prog 3 #[.int .i64 room, v0] w (TrueBelow w) := by
  have HR := Lib.hid hr
  obtain ⟨⟨a, cap, rfl, hl, hcell⟩, hsz⟩ := hA
  have HC := Lib.hid hcell
  have HSZ := Lib.hid hsz
  clear hr hcell hsz
  go_enter Tryz.func3, Tryz.ntmps3
  go_wp2_with fail
  refine (new_some room _ h1).mono ?_
  rintro e w1 ⟨rfl, rfl⟩
  go_wp2_with fail
  go_loopw [7] (fun i wr => WARel w w.heap.size (w.heap.size + 1) l.length i wr) (fun i _ => l.length - (intOf i).toNat)
  case atStart => exact ⟨0, ⟨room, 0, []⟩, rfl, Nat.zero_le _, Int.le_refl _, Int.le_refl _, Nat.le_refl _, two_new room w⟩
  case round =>
    obtain ⟨k, s, rfl, hk, hl0, hl1, hwk, hT⟩ := hrel
    have HT := Lib.hid hT
    have HB := Lib.hid hT.below
    have hl2 : s.last ≤ 1000000 := by omega
    have hw2 : s.ws.length < 1000 := by omega
    have HL2 := Lib.hid hl2
    have HW2 := Lib.hid hw2
    have HL0 := Lib.hid hl0
    have HST := Lib.hid (fun y => step_last (y := y) hl0 hl1)
    have HSL := Lib.hid (fun y => step_len (y := y) hwk)
    clear hT hl2 hw2 hl0 hl1 hwk
    by_cases hlt : k < l.length
    · obtain ⟨y, hy⟩ : ∃ y, l[k]? = some y := ⟨_, List.getElem?_eq_getElem hlt⟩
      obtain ⟨g, off, rfl, c0, c1, c2, c3, c4, c5, c6, c7⟩ := ActsAt.at HC.out hy
      obtain ⟨hs1, hs2⟩ := HSZ.out y (List.mem_of_getElem? hy)
      have HY := Lib.hid ((⟨c0, c1, c2, c3, c4, c5, c6, c7⟩ : _ ∧ _ ∧ _ ∧ _ ∧ _ ∧ _ ∧ _ ∧ _))
      have d1 := cell_below HB.out c1
      have d2 := cell_below HB.out c2
      have d3 := cell_below HB.out c3
      have d4 := cell_below HB.out c4
      have d5 := cell_below HB.out c5
      have d6 := cell_below HB.out c6
      have d7 := cell_below HB.out c7
      have i0 : (0 : Int) ≤ k := by omega
      have i1 : (k : Int) < l.length := by omega
      clear hy c0 c1 c2 c3 c4 c5 c6 c7
      go_wp2_with fail
      refine (long_any y.x _ hs1 hs2).mono ?_
      rintro e w1 ⟨rfl, hb1⟩
      have HT1 := Lib.hid (HT.out.below' hb1)
      have HB1 := Lib.hid (HB.out.trans (hb1.mono HB.out.size))
      clear hb1 d1 d2 d3 d4 d5 d6 d7
      rcases hL : longB y.x with _ | _
      · have HS := Lib.hid (long_small hL)
        have HLB := Lib.hid hL
        clear hL
        obtain ⟨c0, c1, c2, c3, c4, c5, c6, c7⟩ := HY.out
        have d0 := cell_below HB1.out c0
        have d1 := cell_below HB1.out c1
        have d2 := cell_below HB1.out c2
        have d3 := cell_below HB1.out c3
        have d4 := cell_below HB1.out c4
        have d5 := cell_below HB1.out c5
        have d6 := cell_below HB1.out c6
        have d7 := cell_below HB1.out c7
        clear c0 c1 c2 c3 c4 c5 c6 c7
        have hTd : Two w w.heap.size (w.heap.size + 1) [] w1.drew s s w1.drew := (HT1.out.below' (w' := w1.drew) ⟨rfl, rfl, rfl, Nat.le_refl _, fun _ _ => rfl⟩).bare _
        have HTD := Lib.hid hTd
        clear hTd
        go_upto_region 10 with fail
        refine wp_region_noPanic ?_
        refine wp_region_any (by kernel_rfl) ?_
        change wpAny _ _ _ _ _ _ _ (World.drew _)
        refine wpAny_take (i := 0) (oi := ⟨some 42, _, _, _, _, _⟩) (v := ?_) rfl (by kernel_rfl) (by kernel_rfl) (by kernel_rfl) (fun _ _ _ h => h) (Or.inl ⟨by rfl, ?_⟩) ?_
        rotate_left 1
        · intro w
          go_simp
          try with_reducible rfl
        try simp only [Act.put, List.setIfInBounds_toArray, List.set_cons_zero, List.set_cons_succ]
        refine wpAny_take (i := 1) (oi := ⟨some 43, _, _, _, _, _⟩) (v := ?_) rfl (by kernel_rfl) (by kernel_rfl) (by kernel_rfl) (fun _ _ _ h => h) (Or.inl ⟨by rfl, ?_⟩) ?_
        rotate_left 1
        · intro w
          go_simp
          try with_reducible rfl
        try simp only [Act.put, List.setIfInBounds_toArray, List.set_cons_zero, List.set_cons_succ]
        refine wpAny_take (i := 2) (oi := ⟨some 44, _, _, _, _, _⟩) (v := ?_) rfl (by kernel_rfl) (by kernel_rfl) (by kernel_rfl) (fun _ _ _ h => h) (Or.inl ⟨by rfl, ?_⟩) ?_
        rotate_left 1
        · intro w
          go_simp
          try with_reducible rfl
        try simp only [Act.put, List.setIfInBounds_toArray, List.set_cons_zero, List.set_cons_succ]
        refine wpAny_take (i := 3) (oi := ⟨some 45, _, _, _, _, _⟩) (v := ?_) rfl (by kernel_rfl) (by kernel_rfl) (by kernel_rfl) (fun _ _ _ h => h) (Or.inl ⟨by rfl, ?_⟩) ?_
        rotate_left 1
        · intro w
          go_simp
          try with_reducible rfl
        try simp only [Act.put, List.setIfInBounds_toArray, List.set_cons_zero, List.set_cons_succ]
        refine wpAny_take (i := 4) (oi := ⟨some 46, _, _, _, _, _⟩) (v := ?_) rfl (by kernel_rfl) (by kernel_rfl) (by kernel_rfl) (fun _ _ _ h => h) (Or.inl ⟨by rfl, ?_⟩) ?_
        rotate_left 1
        · intro w
          go_simp
          try with_reducible rfl
        try simp only [Act.put, List.setIfInBounds_toArray, List.set_cons_zero, List.set_cons_succ]
        refine wpAny_ready (rs := [5]) (by kernel_rfl) (by simp) ?_
        refine AllReady.cons (o := ⟨some 47, _, _, _, _, _⟩) rfl (fun K hK => ?_) AllReady.nil
        go_simp
        refine hK _ _ ?_
        clear hK K
        try simp only [Act.put, List.setIfInBounds_toArray, List.set_cons_zero, List.set_cons_succ]
        refine wpAny_ready (rs := [6]) (by kernel_rfl) (by simp) ?_
        refine AllReady.cons (o := ⟨some 48, _, _, _, _, _⟩) rfl (fun K hK => ?_) AllReady.nil
        go_simp
        refine (does_any y _ HR.out HTD.out HS.out HL0.out HL2.out HW2.out).mono ?_
        rintro e w3 ⟨rfl, h3⟩
        have HT3 := Lib.hid h3
        obtain ⟨v3, v3', hA3, hB3, -, -⟩ := h3.ex
        have HA3 := Lib.hid hA3
        have HB3 := Lib.hid hB3
        have HW3 := Lib.hid h3.below
        have e0 := hB3.c0
        have e1 := hB3.c1
        have e2 := hB3.c2
        clear h3 hA3 hB3 d0 d1 d2 d3 d4 d5 d6 d7
        have d1 := cell_below HW3.out HY.out.2.1
        have d2 := cell_below HW3.out HY.out.2.2.1
        have d3 := cell_below HW3.out HY.out.2.2.2.1
        have d4 := cell_below HW3.out HY.out.2.2.2.2.1
        have d5 := cell_below HW3.out HY.out.2.2.2.2.2.1
        have d6 := cell_below HW3.out HY.out.2.2.2.2.2.2.1
        have d7 := cell_below HW3.out HY.out.2.2.2.2.2.2.2
        refine hK _ _ ?_
        clear hK K
        try simp only [Act.put, List.setIfInBounds_toArray, List.set_cons_zero, List.set_cons_succ]
        refine wpAny_take (i := 7) (oi := ⟨some 49, _, _, _, _, _⟩) (v := ?_) rfl (by kernel_rfl) (by kernel_rfl) (by kernel_rfl) (fun _ _ _ h => h) (Or.inl ⟨by rfl, ?_⟩) ?_
        rotate_left 1
        · intro w
          go_simp
          try with_reducible rfl
        try simp only [Act.put, List.setIfInBounds_toArray, List.set_cons_zero, List.set_cons_succ]
        refine wpAny_take (i := 8) (oi := ⟨some 50, _, _, _, _, _⟩) (v := ?_) rfl (by kernel_rfl) (by kernel_rfl) (by kernel_rfl) (fun _ _ _ h => h) (Or.inl ⟨by rfl, ?_⟩) ?_
        rotate_left 1
        · intro w
          go_simp
          try with_reducible rfl
        try simp only [Act.put, List.setIfInBounds_toArray, List.set_cons_zero, List.set_cons_succ]
        refine wpAny_of_held (S := (fun w' => w'.cell? ⟨w.heap.size + 1, 0, none⟩ = some (.int .i64 (stepS s y).room) ∧ w'.cell? ⟨w.heap.size + 1, 1, none⟩ = some (.int .i64 (stepS s y).last) ∧ w'.cell? ⟨w.heap.size + 1, 2, none⟩ = some v3' ∧ w'.cell? ⟨g, off + k * 8 + 1, none⟩ = some (.int .i64 y.x.no) ∧ w'.cell? ⟨g, off + k * 8 + 2, none⟩ = some (.int .i64 y.x.cls) ∧ w'.cell? ⟨g, off + k * 8 + 3, none⟩ = some (.int .i64 y.x.op) ∧ w'.cell? ⟨g, off + k * 8 + 4, none⟩ = some (.string y.x.name) ∧ w'.cell? ⟨g, off + k * 8 + 5, none⟩ = some (.string y.x.plat) ∧ w'.cell? ⟨g, off + k * 8 + 6, none⟩ = some (.bool y.x.paused) ∧ w'.cell? ⟨g, off + k * 8 + 7, none⟩ = some (.int .u64 y.x.untl))) _ _ _ _ ?_
        have hHeld : (fun w' => w'.cell? ⟨w.heap.size + 1, 0, none⟩ = some (.int .i64 (stepS s y).room) ∧ w'.cell? ⟨w.heap.size + 1, 1, none⟩ = some (.int .i64 (stepS s y).last) ∧ w'.cell? ⟨w.heap.size + 1, 2, none⟩ = some v3' ∧ w'.cell? ⟨g, off + k * 8 + 1, none⟩ = some (.int .i64 y.x.no) ∧ w'.cell? ⟨g, off + k * 8 + 2, none⟩ = some (.int .i64 y.x.cls) ∧ w'.cell? ⟨g, off + k * 8 + 3, none⟩ = some (.int .i64 y.x.op) ∧ w'.cell? ⟨g, off + k * 8 + 4, none⟩ = some (.string y.x.name) ∧ w'.cell? ⟨g, off + k * 8 + 5, none⟩ = some (.string y.x.plat) ∧ w'.cell? ⟨g, off + k * 8 + 6, none⟩ = some (.bool y.x.paused) ∧ w'.cell? ⟨g, off + k * 8 + 7, none⟩ = some (.int .u64 y.x.untl)) w3 := ⟨e0, e1, e2, d1, d2, d3, d4, d5, d6, d7⟩
        refine wpAnyH_take (i := 9) (oi := ⟨some 51, _, _, _, _, _⟩) (v := ?_) rfl (by kernel_rfl) (by kernel_rfl) (by kernel_rfl) (fun _ _ _ h => h) (Or.inl ⟨by rfl, ?_⟩) (by assumption) ?_
        rotate_left 1
        · intro w hSw
          try dsimp only at hSw
          go_simp
          try with_reducible rfl
        try simp only [Act.put, List.setIfInBounds_toArray, List.set_cons_zero, List.set_cons_succ]
        refine wpAnyH_take (i := 10) (oi := ⟨some 52, _, _, _, _, _⟩) (v := ?_) rfl (by kernel_rfl) (by kernel_rfl) (by kernel_rfl) (fun _ _ _ h => h) (Or.inl ⟨by rfl, ?_⟩) (by assumption) ?_
        rotate_left 1
        · intro w hSw
          try dsimp only at hSw
          go_simp
          try with_reducible rfl
        try simp only [Act.put, List.setIfInBounds_toArray, List.set_cons_zero, List.set_cons_succ]
        refine wpAnyH_take (i := 11) (oi := ⟨some 53, _, _, _, _, _⟩) (v := ?_) rfl (by kernel_rfl) (by kernel_rfl) (by kernel_rfl) (fun _ _ _ h => h) (Or.inl ⟨by rfl, ?_⟩) (by assumption) ?_
        rotate_left 1
        · intro w hSw
          try dsimp only at hSw
          go_simp
          try with_reducible rfl
        try simp only [Act.put, List.setIfInBounds_toArray, List.set_cons_zero, List.set_cons_succ]
        refine wpAnyH_take (i := 12) (oi := ⟨some 54, _, _, _, _, _⟩) (v := ?_) rfl (by kernel_rfl) (by kernel_rfl) (by kernel_rfl) (fun _ _ _ h => h) (Or.inl ⟨by rfl, ?_⟩) (by assumption) ?_
        rotate_left 1
        · intro w hSw
          try dsimp only at hSw
          go_simp
          try with_reducible rfl
        try simp only [Act.put, List.setIfInBounds_toArray, List.set_cons_zero, List.set_cons_succ]
        refine wpAnyH_take (i := 13) (oi := ⟨some 55, _, _, _, _, _⟩) (v := ?_) rfl (by kernel_rfl) (by kernel_rfl) (by kernel_rfl) (fun _ _ _ h => h) (Or.inl ⟨by rfl, ?_⟩) (by assumption) ?_
        rotate_left 1
        · intro w hSw
          try dsimp only at hSw
          go_simp
          try with_reducible rfl
        try simp only [Act.put, List.setIfInBounds_toArray, List.set_cons_zero, List.set_cons_succ]
        refine wpAnyH_take (i := 14) (oi := ⟨some 56, _, _, _, _, _⟩) (v := ?_) rfl (by kernel_rfl) (by kernel_rfl) (by kernel_rfl) (fun _ _ _ h => h) (Or.inl ⟨by rfl, ?_⟩) (by assumption) ?_
        rotate_left 1
        · intro w hSw
          try dsimp only at hSw
          go_simp
          try with_reducible rfl
        try simp only [Act.put, List.setIfInBounds_toArray, List.set_cons_zero, List.set_cons_succ]
        refine wpAnyH_take (i := 15) (oi := ⟨some 57, _, _, _, _, _⟩) (v := ?_) rfl (by kernel_rfl) (by kernel_rfl) (by kernel_rfl) (fun _ _ _ h => h) (Or.inl ⟨by rfl, ?_⟩) (by assumption) ?_
        rotate_left 1
        · intro w hSw
          try dsimp only at hSw
          go_simp
          try with_reducible rfl
        try simp only [Act.put, List.setIfInBounds_toArray, List.set_cons_zero, List.set_cons_succ]
        refine wpAnyH_take (i := 16) (oi := ⟨some 58, _, _, _, _, _⟩) (v := ?_) rfl (by kernel_rfl) (by kernel_rfl) (by kernel_rfl) (fun _ _ _ h => h) (Or.inl ⟨by rfl, ?_⟩) (by assumption) ?_
        rotate_left 1
        · intro w hSw
          try dsimp only at hSw
          go_simp
          try with_reducible rfl
        try simp only [Act.put, List.setIfInBounds_toArray, List.set_cons_zero, List.set_cons_succ]
        refine wpAnyH_take (i := 17) (oi := ⟨some 59, _, _, _, _, _⟩) (v := ?_) rfl (by kernel_rfl) (by kernel_rfl) (by kernel_rfl) (fun _ _ _ h => h) (Or.inl ⟨by rfl, ?_⟩) (by assumption) ?_
        rotate_left 1
        · intro w hSw
          try dsimp only at hSw
          go_simp
          try with_reducible rfl
        try simp only [Act.put, List.setIfInBounds_toArray, List.set_cons_zero, List.set_cons_succ]
        refine wpAnyH_ready (rs := [18]) (by kernel_rfl) (by simp) ?_
        refine AllReadyH.cons (o := ⟨some 60, _, _, _, _, _⟩) rfl (fun K hK => ?_) AllReadyH.nil
        go_simp
        refine (same29_any y.x _ HA3.out HB3.out).mono ?_
        rintro e w4 ⟨rfl, hb4⟩
        have HT4 := Lib.hid (HT3.out.below' hb4)
        refine hK.out _ _ ⟨cell_below hb4 e0, cell_below hb4 e1, cell_below hb4 e2, cell_below hb4 d1, cell_below hb4 d2, cell_below hb4 d3, cell_below hb4 d4, cell_below hb4 d5, cell_below hb4 d6, cell_below hb4 d7⟩ (fun hHeld => ?_)
        clear hK K
        try simp only [Act.put, List.setIfInBounds_toArray, List.set_cons_zero, List.set_cons_succ]
        refine wpAnyH_take (i := 19) (oi := ⟨some 61, _, _, _, _, _⟩) (v := ?_) rfl (by kernel_rfl) (by kernel_rfl) (by kernel_rfl) (fun _ _ _ h => h) (Or.inl ⟨by rfl, ?_⟩) (by assumption) ?_
        rotate_left 1
        · intro w hSw
          try dsimp only at hSw
          go_simp
          try with_reducible rfl
        try simp only [Act.put, List.setIfInBounds_toArray, List.set_cons_zero, List.set_cons_succ]
        refine wpAnyH_take (i := 20) (oi := ⟨some 62, _, _, _, _, _⟩) (v := ?_) rfl (by kernel_rfl) (by kernel_rfl) (by kernel_rfl) (fun _ _ _ h => h) (Or.inl ⟨by rfl, ?_⟩) (by assumption) ?_
        rotate_left 1
        · intro w hSw
          try dsimp only at hSw
          go_simp
          try with_reducible rfl
        try simp only [Act.put, List.setIfInBounds_toArray, List.set_cons_zero, List.set_cons_succ]
        refine wpAnyH_done (by kernel_rfl) ?_ _
        refine NoPanic.normal ?_
        clear hHeld e0 e1 e2 d1 d2 d3 d4 d5 d6 d7
        go_wp2_with fail
        go_roundw
        case rel => exact ⟨k + 1, stepS s y, by go_num, by omega, (HST.out y).1, (HST.out y).2, HSL.out y, HT4.out.bare _⟩
        case measure => simp [intOf]; omega
      · have HLB := Lib.hid hL
        clear hL
        go_wp2_with fail
        refine (live29_any _ (HR.out.below HB1.out)).mono ?_
        rintro e w3 ⟨rfl, hb3⟩
        go_wp2
        go_ret
        exact ⟨rfl, HB1.out.trans (hb3.mono HB1.out.size)⟩
    · go_wp2_with fail
      refine (live29_any _ (HR.out.below HB.out)).mono ?_
      rintro e w3 ⟨rfl, hb3⟩
      go_wp2
      go_ret
      exact ⟨rfl, HB.out.trans (hb3.mono HB.out.size)⟩
theorem workerActs_any (room : Int) (v0 : Value) (l : List Ac) (w : World) (hr : Ready w) (hA : ActsAt w v0 l) :
    Calls Tryz.prog 3 #[.int .i64 room, v0] w (TrueBelow w) := by
  by_cases h : 150 < l.length
  · obtain ⟨⟨a, cap, rfl, hl, _⟩, _⟩ := hA
    exact workerActs_long room a l.length cap w hr h hl
  · by_cases h1 : room < 1
    · obtain ⟨⟨a, cap, rfl, hl, _⟩, _⟩ := hA
      exact workerActs_nil room a l.length cap w hr (by omega) h1
    · exact workerActs_go room v0 l w hr hA (by omega) (by omega)
end Go.Proofs.YtmijmfgclmaodaaGreatDoor
