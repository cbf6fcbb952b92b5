/-
  worker.Book: Remove, Give, Free; the law's example: the walks.
-/
import Derived.Test.YtmijmfgclmaodaaGreatDoorWk5
namespace Go.Proofs.YtmijmfgclmaodaaGreatDoor
open Go.RowKit

def delS (s : Bk) (k : Nat) : Bk := { s with ws := s.ws.eraseIdx k }
def setS (s : Bk) (k : Nat) (y : Wk) : Bk := { s with ws := s.ws.set k y }
set_option maxRecDepth 100000 in
set_option maxHeartbeats 1000000 in
theorem remove_none {base b : Nat} {v : Value} {s : Bk} (no : Int) (w : World) (hB : BookAt 56 base w b v s) (h : findI (noB no) s.ws = -1) :
    Calls Tryz.prog 17 #[.pointer (some ⟨b, 0, none⟩), .int .i64 no] w fun e w' => e = .returned (.bool false) ∧ Below w.heap.size w w' := by
  have HB := Lib.hid hB
  have HI := Lib.hid h
  clear hB h
  go_enter Tryz.func17, Tryz.ntmps17
  go_wp2_with fail
  refine (at_any no _ HB.out).mono ?_
  rintro e w1 ⟨rfl, hb1⟩
  rw [HI.out]
  go_wp2
  go_ret
  exact ⟨rfl, hb1⟩
set_option maxRecDepth 100000 in
set_option maxHeartbeats 1000000 in
theorem remove_some {base b : Nat} {v : Value} {s : Bk} (no : Int) (k : Nat) (x : Wk) (w : World) (hB : BookAt 56 base w b v s) (h : findI (noB no) s.ws = k) (hx : s.ws[k]? = some x) :
    Calls Tryz.prog 17 #[.pointer (some ⟨b, 0, none⟩), .int .i64 no] w (BookPost 56 base w b v (delS s k) (.bool true)) := by
  have HB := Lib.hid hB
  have HI := Lib.hid h
  have hk : k < s.ws.length := (List.getElem?_eq_some_iff.1 hx).1
  have hfew := hB.few
  obtain ⟨g, cap, rfl⟩ : ∃ g cap, v = .slice (some ⟨g, 0, none⟩) s.ws.length cap := by
    obtain ⟨_, ⟨_, h0⟩ | ⟨g, cap, cur, hv, _⟩⟩ := hB.own
    · omega
    · exact ⟨g, cap, hv⟩
  have hlt := hB.lt
  have hnb : b ≠ g := fun e => hB.not_blk (by decide) (by rw [blk_slice, e]; simp)
  have HNB := Lib.hid hnb
  clear hB h hx hnb
  go_enter Tryz.func17, Tryz.ntmps17
  go_wp2_with fail
  refine (at_any no _ HB.out).mono ?_
  rintro e w1 ⟨rfl, hb1⟩
  rw [HI.out]
  have HB1 := Lib.hid hb1
  have HA1 := Lib.hid (HB.out.below hb1)
  have c2 := HA1.out.c2
  clear hb1
  go_wp2_with fail
  refine (delete_any (base := base) g cap k s.ws _ HA1.out.own hk hfew).mono ?_
  rintro e w2 ⟨rfl, hown2, hf2⟩
  have HF2 := Lib.hid hf2
  have HO2 := Lib.hid hown2
  have hh2 := hf2.heap HA1.out.heap (by simp; exact HNB.out)
  have HH2 := Lib.hid hh2
  have d2 : w2.cell? ⟨b, 2, none⟩ = some (.slice (some ⟨g, 0, none⟩) s.ws.length cap) := fr_cell_of_heap hh2 rfl
  have f2 : w2.frozen? ⟨b, 2, none⟩ = false := fr_free_of_heap hh2
  clear hf2 hown2 hh2 c2
  go_wp2
  go_ret
  refine ⟨rfl, .slice (some ⟨g, 0, none⟩) (s.ws.length - 1) cap, ?_, (Fr.trans (Fr.of_below HB1.out) HF2.out (fun j hj => .inl (by rw [List.mem_singleton] at hj; subst hj; simp [blk_slice]))).setCell (.inl (by simp)) _, fun j hj => .inl (by simpa [blk_slice] using hj)⟩
  have hel : (s.ws.eraseIdx k).length = s.ws.length - 1 := by rw [List.length_eraseIdx_of_lt hk]
  exact book_put (s := s) HB.out.le HH2.out (l := s.ws.eraseIdx k) (by rw [hel]; exact HO2.out) (by rw [blk_slice]; simp; exact HNB.out) (by omega)
theorem own_put {w : World} {base g cap k i : Nat} {l : List Wk} {x y : Wk} {u : Value} (h : w.ownsRow base 33 7 (.slice (some ⟨g, 0, none⟩) l.length cap) l.length (flatW l)) (hx : l[k]? = some x) (hi : i < 7) (he : encW y = (encW x).set i u) :
    (w.setCell ⟨g, k * 7 + i, none⟩ u).ownsRow base 33 7 (.slice (some ⟨g, 0, none⟩) (l.set k y).length cap) (l.set k y).length (flatW (l.set k y)) := by
  have h1 := (h.stored (k * 7 + i) u).1
  rw [List.length_set]
  rw [show flatW (l.set k y) = (flatW l).set (k * 7 + i) u from (flat_set encW 7 encW_len i u hx hi he).symm]
  exact h1
theorem book_field {T : TypeId} {base b : Nat} {w : World} {s : Bk} {g cap n k i : Nat} {x y : Wk} {u : Value} (hT : T ≠ 33) (h : BookAt T base w b (.slice (some ⟨g, 0, none⟩) n cap) s) (hn : n = s.ws.length) (hx : s.ws[k]? = some x) (hi : i < 7) (he : encW y = (encW x).set i u) :
    BookAt T base (w.setCell ⟨g, k * 7 + i, none⟩ u) b (.slice (some ⟨g, 0, none⟩) n cap) (setS s k y) := by
  subst hn
  have hnb : b ≠ g := fun e => h.not_blk hT (by rw [blk_slice, e]; simp)
  refine ⟨h.le, by rw [fr_setCell_other hnb]; exact h.heap, ?_, by unfold setS; rw [List.length_set]; exact h.few⟩
  have h2 := own_put h.own hx hi he
  unfold setS
  rw [List.length_set] at h2 ⊢
  exact h2
set_option maxRecDepth 100000 in
set_option maxHeartbeats 1000000 in
theorem give1_no (B g o : Nat) (n op : Int) (w : World) (hp : w.cell? ⟨g, o + 2, none⟩ = some (.int .i64 n)) (hB : w.cell? ⟨B, 0, none⟩ = some (.int .i64 op)) (h : n ≠ 0 ∨ op < 1) :
    Calls Tryz.prog 63 #[.pointer (some ⟨g, o, none⟩), .pointer (some ⟨B, 0, none⟩)] w fun e w' => e = .returned (.bool false) ∧ w = w' := by
  by_cases hn : n = 0
  · have h2 : op < 1 := by omega
    subst hn
    clear h
    go_enter Tryz.func63, Tryz.ntmps63
    go_wp2
    go_ret
    exact ⟨rfl, rfl⟩
  · have hne : (n != 0) = true := by rw [bne_iff_ne]; exact hn
    clear h hn
    go_enter Tryz.func63, Tryz.ntmps63
    go_wp2
    go_ret
    exact ⟨rfl, rfl⟩
set_option maxRecDepth 100000 in
set_option maxHeartbeats 1000000 in
theorem give1_yes (B g o : Nat) (op : Int) (w : World) (hp : w.cell? ⟨g, o + 2, none⟩ = some (.int .i64 0)) (hf : w.frozen? ⟨g, o + 2, none⟩ = false) (hB : w.cell? ⟨B, 0, none⟩ = some (.int .i64 op)) (h : 1 ≤ op) :
    Calls Tryz.prog 63 #[.pointer (some ⟨g, o, none⟩), .pointer (some ⟨B, 0, none⟩)] w fun e w' => e = .returned (.bool true) ∧ w' = w.setCell ⟨g, o + 2, none⟩ (.int .i64 op) := by
  go_enter Tryz.func63, Tryz.ntmps63
  go_wp2
  go_ret
  exact ⟨rfl, rfl⟩
set_option maxRecDepth 100000 in
set_option maxHeartbeats 1000000 in
theorem free1_any (g o : Nat) (n : Int) (w : World) (hp : w.cell? ⟨g, o + 2, none⟩ = some (.int .i64 n)) (hf : w.frozen? ⟨g, o + 2, none⟩ = false) :
    Calls Tryz.prog 64 #[.pointer (some ⟨g, o, none⟩)] w fun e w' => e = .returned (.bool (n != 0)) ∧ w' = w.setCell ⟨g, o + 2, none⟩ (.int .i64 0) := by
  go_enter Tryz.func64, Tryz.ntmps64
  go_wp2
  go_ret
  exact ⟨rfl, rfl⟩
set_option maxRecDepth 100000 in
set_option maxHeartbeats 1000000 in
theorem change_none {base b : Nat} {v : Value} {s : Bk} (no : Int) (f : Value) (w : World) (hB : BookAt 56 base w b v s) (h : findI (noB no) s.ws = -1) :
    Calls Tryz.prog 59 #[.pointer (some ⟨b, 0, none⟩), .int .i64 no, f] w fun e w' => e = .returned (.bool false) ∧ Below w.heap.size w w' := by
  have HB := Lib.hid hB
  have HI := Lib.hid h
  clear hB h
  go_enter Tryz.func59, Tryz.ntmps59
  go_wp2_with fail
  refine (at_any no _ HB.out).mono ?_
  rintro e w1 ⟨rfl, hb1⟩
  rw [HI.out]
  go_wp2
  go_ret
  exact ⟨rfl, hb1⟩
set_option maxRecDepth 100000 in
set_option maxHeartbeats 1000000 in
theorem change_give_no {base b : Nat} {v : Value} {s : Bk} (no : Int) (k : Nat) (x : Wk) (B : Nat) (op : Int) (w : World) (hB : BookAt 56 base w b v s) (h : findI (noB no) s.ws = k) (hx : s.ws[k]? = some x) (hop : w.cell? ⟨B, 0, none⟩ = some (.int .i64 op)) (hn : x.op ≠ 0 ∨ op < 1) :
    Calls Tryz.prog 59 #[.pointer (some ⟨b, 0, none⟩), .int .i64 no, .func (.func 63) #[] #[.pointer (some ⟨B, 0, none⟩)]] w fun e w' => e = .returned (.bool false) ∧ Below w.heap.size w w' := by
  have HB := Lib.hid hB
  have HI := Lib.hid h
  have HX := Lib.hid hx
  have hk : k < s.ws.length := (List.getElem?_eq_some_iff.1 hx).1
  have hfew := hB.few
  obtain ⟨g, cap, rfl⟩ : ∃ g cap, v = .slice (some ⟨g, 0, none⟩) s.ws.length cap := by
    obtain ⟨_, ⟨_, h0⟩ | ⟨g, cap, cur, hv, _⟩⟩ := hB.own
    · omega
    · exact ⟨g, cap, hv⟩
  obtain ⟨a', cap', hv', _, _, _, hcells⟩ := own_cells hB.own
  cases hv'
  obtain ⟨g', hg', _, _, hc0, hf0⟩ := hcells (k * 7 + 2) (.int .i64 x.op) (by rw [flatW_get 2 hx (by omega)]; rfl)
  cases hg'
  clear hB h hx hcells
  go_enter Tryz.func59, Tryz.ntmps59
  go_wp2_with fail
  refine (at_any no _ HB.out).mono ?_
  rintro e w1 ⟨rfl, hb1⟩
  rw [HI.out]
  have HA1 := Lib.hid (HB.out.below hb1)
  have HB1 := Lib.hid hb1
  have c2 := HA1.out.c2
  have k2 := cell_below hb1 hc0
  have m2 : w1.frozen? ⟨g, k * 7 + 2, none⟩ = false := by rw [hb1.frozen (by have := World.block_lt_of_cell? w _ hc0; simpa using this)]; exact hf0
  have kop := cell_below hb1 hop
  clear hb1 hc0 hf0
  go_wp2_with fail
  refine (give1_no B g (k * 7) x.op op _ k2 kop hn).mono ?_
  rintro e w2 ⟨rfl, rfl⟩
  go_wp2
  go_ret
  exact ⟨rfl, HB1.out⟩
set_option maxRecDepth 100000 in
set_option maxHeartbeats 1000000 in
theorem change_give_yes {base b : Nat} {v : Value} {s : Bk} (no : Int) (k : Nat) (x : Wk) (B : Nat) (op : Int) (w : World) (hB : BookAt 56 base w b v s) (h : findI (noB no) s.ws = k) (hx : s.ws[k]? = some x) (hop : w.cell? ⟨B, 0, none⟩ = some (.int .i64 op)) (hn : x.op = 0) (h1 : 1 ≤ op) :
    Calls Tryz.prog 59 #[.pointer (some ⟨b, 0, none⟩), .int .i64 no, .func (.func 63) #[] #[.pointer (some ⟨B, 0, none⟩)]] w (BookPost 56 base w b v (setS s k { x with op := op }) (.bool true)) := by
  have HB := Lib.hid hB
  have HI := Lib.hid h
  have HX := Lib.hid hx
  have hk : k < s.ws.length := (List.getElem?_eq_some_iff.1 hx).1
  have hfew := hB.few
  obtain ⟨g, cap, rfl⟩ : ∃ g cap, v = .slice (some ⟨g, 0, none⟩) s.ws.length cap := by
    obtain ⟨_, ⟨_, h0⟩ | ⟨g, cap, cur, hv, _⟩⟩ := hB.own
    · omega
    · exact ⟨g, cap, hv⟩
  obtain ⟨a', cap', hv', _, _, _, hcells⟩ := own_cells hB.own
  cases hv'
  obtain ⟨g', hg', _, _, hc0, hf0⟩ := hcells (k * 7 + 2) (.int .i64 x.op) (by rw [flatW_get 2 hx (by omega)]; rfl)
  cases hg'
  clear hB h hx hcells
  go_enter Tryz.func59, Tryz.ntmps59
  go_wp2_with fail
  refine (at_any no _ HB.out).mono ?_
  rintro e w1 ⟨rfl, hb1⟩
  rw [HI.out]
  have HA1 := Lib.hid (HB.out.below hb1)
  have HB1 := Lib.hid hb1
  have c2 := HA1.out.c2
  have k2 := cell_below hb1 hc0
  have m2 : w1.frozen? ⟨g, k * 7 + 2, none⟩ = false := by rw [hb1.frozen (by have := World.block_lt_of_cell? w _ hc0; simpa using this)]; exact hf0
  have kop := cell_below hb1 hop
  have k2' : w1.cell? ⟨g, k * 7 + 2, none⟩ = some (.int .i64 0) := by rw [← hn]; exact k2
  clear hn k2
  clear hb1 hc0 hf0
  go_wp2_with fail
  refine (give1_yes B g (k * 7) op _ k2' m2 kop h1).mono ?_
  rintro e w2 ⟨rfl, rfl⟩
  go_wp2
  go_ret
  exact ⟨rfl, _, book_field (by decide) HA1.out rfl HX.out (by omega) rfl, (Fr.of_below HB1.out).setCell (.inl (by simp [blk_slice])) _, fun j hj => .inl hj⟩
set_option maxRecDepth 100000 in
set_option maxHeartbeats 1000000 in
theorem change_free {base b : Nat} {v : Value} {s : Bk} (no : Int) (k : Nat) (x : Wk)  (w : World) (hB : BookAt 56 base w b v s) (h : findI (noB no) s.ws = k) (hx : s.ws[k]? = some x)  :
    Calls Tryz.prog 59 #[.pointer (some ⟨b, 0, none⟩), .int .i64 no, .func (.func 64) #[] #[]] w (BookPost 56 base w b v (setS s k { x with op := 0 }) (.bool (x.op != 0))) := by
  have HB := Lib.hid hB
  have HI := Lib.hid h
  have HX := Lib.hid hx
  have hk : k < s.ws.length := (List.getElem?_eq_some_iff.1 hx).1
  have hfew := hB.few
  obtain ⟨g, cap, rfl⟩ : ∃ g cap, v = .slice (some ⟨g, 0, none⟩) s.ws.length cap := by
    obtain ⟨_, ⟨_, h0⟩ | ⟨g, cap, cur, hv, _⟩⟩ := hB.own
    · omega
    · exact ⟨g, cap, hv⟩
  obtain ⟨a', cap', hv', _, _, _, hcells⟩ := own_cells hB.own
  cases hv'
  obtain ⟨g', hg', _, _, hc0, hf0⟩ := hcells (k * 7 + 2) (.int .i64 x.op) (by rw [flatW_get 2 hx (by omega)]; rfl)
  cases hg'
  clear hB h hx hcells
  go_enter Tryz.func59, Tryz.ntmps59
  go_wp2_with fail
  refine (at_any no _ HB.out).mono ?_
  rintro e w1 ⟨rfl, hb1⟩
  rw [HI.out]
  have HA1 := Lib.hid (HB.out.below hb1)
  have HB1 := Lib.hid hb1
  have c2 := HA1.out.c2
  have k2 := cell_below hb1 hc0
  have m2 : w1.frozen? ⟨g, k * 7 + 2, none⟩ = false := by rw [hb1.frozen (by have := World.block_lt_of_cell? w _ hc0; simpa using this)]; exact hf0
  clear hb1 hc0 hf0
  go_wp2_with fail
  refine (free1_any g (k * 7) x.op _ k2 m2).mono ?_
  rintro e w2 ⟨rfl, rfl⟩
  go_wp2
  go_ret
  exact ⟨rfl, _, book_field (by decide) HA1.out rfl HX.out (by omega) rfl, (Fr.of_below HB1.out).setCell (.inl (by simp [blk_slice])) _, fun j hj => .inl hj⟩
set_option maxRecDepth 100000 in
set_option maxHeartbeats 1000000 in
theorem give_none {base b : Nat} {v : Value} {s : Bk} (no op : Int) (w : World) (hB : BookAt 56 base w b v s) (h : findI (noB no) s.ws = -1) :
    Calls Tryz.prog 25 #[.pointer (some ⟨b, 0, none⟩), .int .i64 no, .int .i64 op] w fun e w' => e = .returned (.bool false) ∧ Below w.heap.size w w' := by
  have HB := Lib.hid hB
  have HI := Lib.hid h
  clear hB h
  go_enter Tryz.func25, Tryz.ntmps25
  go_wp2_with fail
  refine (change_none no _ _ (HB.out.below box_below) HI.out).mono ?_
  rintro e w1 ⟨rfl, hb1⟩
  go_wp2
  go_ret
  exact ⟨rfl, box_below.trans (hb1.mono (by simp))⟩
set_option maxRecDepth 100000 in
set_option maxHeartbeats 1000000 in
theorem give_no {base b : Nat} {v : Value} {s : Bk} (no op : Int) (k : Nat) (x : Wk) (w : World) (hB : BookAt 56 base w b v s) (h : findI (noB no) s.ws = k) (hx : s.ws[k]? = some x) (hn : x.op ≠ 0 ∨ op < 1) :
    Calls Tryz.prog 25 #[.pointer (some ⟨b, 0, none⟩), .int .i64 no, .int .i64 op] w fun e w' => e = .returned (.bool false) ∧ Below w.heap.size w w' := by
  have HB := Lib.hid hB
  have HI := Lib.hid h
  have HX := Lib.hid hx
  clear hB h hx
  go_enter Tryz.func25, Tryz.ntmps25
  go_wp2_with fail
  refine (change_give_no no k x _ op _ (HB.out.below box_below) HI.out HX.out (by simp) hn).mono ?_
  rintro e w1 ⟨rfl, hb1⟩
  go_wp2
  go_ret
  exact ⟨rfl, box_below.trans (hb1.mono (by simp))⟩
theorem post_box {T : TypeId} {base b : Nat} {v : Value} {s' : Bk} {r : Value} {w : World} {o : Obj} {e : Ending} {w' : World} (h : BookPost T base (w.alloc o) b v s' r e w') : BookPost T base w b v s' r e w' := by
  obtain ⟨rfl, v', hB, hF, hk⟩ := h
  exact ⟨rfl, v', hB, (Fr.of_below box_below).trans hF (fun j hj => .inl hj), fun j hj => (hk j hj).imp id (fun h => by simp at h; omega)⟩
set_option maxRecDepth 100000 in
set_option maxHeartbeats 1000000 in
theorem give_yes {base b : Nat} {v : Value} {s : Bk} (no op : Int) (k : Nat) (x : Wk) (w : World) (hB : BookAt 56 base w b v s) (h : findI (noB no) s.ws = k) (hx : s.ws[k]? = some x) (hn : x.op = 0) (h1 : 1 ≤ op) :
    Calls Tryz.prog 25 #[.pointer (some ⟨b, 0, none⟩), .int .i64 no, .int .i64 op] w (BookPost 56 base w b v (setS s k { x with op := op }) (.bool true)) := by
  have HB := Lib.hid hB
  have HI := Lib.hid h
  have HX := Lib.hid hx
  have HN := Lib.hid hn
  clear hB h hx hn
  go_enter Tryz.func25, Tryz.ntmps25
  go_wp2_with fail
  refine (change_give_yes no k x _ op _ (HB.out.below box_below) HI.out HX.out (by simp) HN.out h1).mono ?_
  rintro e w1 hp
  have HP := Lib.hid (post_box hp)
  obtain ⟨rfl, -⟩ := hp
  go_wp2
  go_ret
  exact HP.out
set_option maxRecDepth 100000 in
set_option maxHeartbeats 1000000 in
theorem free_none {base b : Nat} {v : Value} {s : Bk} (no : Int) (w : World) (hB : BookAt 56 base w b v s) (h : findI (noB no) s.ws = -1) :
    Calls Tryz.prog 27 #[.pointer (some ⟨b, 0, none⟩), .int .i64 no] w fun e w' => e = .returned (.bool false) ∧ Below w.heap.size w w' := by
  have HB := Lib.hid hB
  have HI := Lib.hid h
  clear hB h
  go_enter Tryz.func27, Tryz.ntmps27
  go_wp2_with fail
  refine (change_none no _ _ HB.out HI.out).mono ?_
  rintro e w1 ⟨rfl, hb1⟩
  go_wp2
  go_ret
  exact ⟨rfl, hb1⟩
set_option maxRecDepth 100000 in
set_option maxHeartbeats 1000000 in
theorem free_some {base b : Nat} {v : Value} {s : Bk} (no : Int) (k : Nat) (x : Wk) (h : findI (noB no) s.ws = k) (hx : s.ws[k]? = some x) (w : World) (hB : BookAt 56 base w b v s) :
    Calls Tryz.prog 27 #[.pointer (some ⟨b, 0, none⟩), .int .i64 no] w (BookPost 56 base w b v (setS s k { x with op := 0 }) (.bool (x.op != 0))) := by
  have HB := Lib.hid hB
  have HI := Lib.hid h
  have HX := Lib.hid hx
  clear hB h hx
  go_enter Tryz.func27, Tryz.ntmps27
  go_wp2_with fail
  refine (change_free no k x _ HB.out HI.out HX.out).mono ?_
  rintro e w1 hp
  have HP := Lib.hid hp
  obtain ⟨rfl, -⟩ := hp
  go_wp2
  go_ret
  exact HP.out
end Go.Proofs.YtmijmfgclmaodaaGreatDoor
