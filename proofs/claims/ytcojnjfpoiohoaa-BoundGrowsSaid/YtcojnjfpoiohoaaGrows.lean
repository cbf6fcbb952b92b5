/-
  billetlaw44.BoundGrows: the walks, one a case.
-/
import Derived.Test.YtcojnjfpoiohoaaBLaw
import Derived.Test.YtcojnjfpoiohoaaGMath
namespace Go.Proofs.Ytcojnjfpoiohoaa
open Go.RowKit

def inR (x : Int) : Prop := 0 ≤ x ∧ x ≤ 64
def growsPost (w : World) (e : Ending) (w' : World) : Prop := e = .returned (.bool true) ∧ Below w.heap.size w w'
theorem size_alloc1 {w : World} {o : Obj} : (w.alloc o).heap.size = w.heap.size + 1 := by simp
theorem heap_alloc_at0 {w : World} (a b : Obj) : ((w.alloc a).alloc b).heap[w.heap.size]? = some a := by
  have h : ((w.alloc a).alloc b).heap[w.heap.size]? = (w.alloc a).heap[w.heap.size]? := Below.heap_alloc _ _ _ (by simp)
  rw [h]; exact heap_alloc_new w a
theorem heap_alloc_at00 {w : World} (a b c : Obj) : (((w.alloc a).alloc b).alloc c).heap[w.heap.size]? = some a := by
  have h : (((w.alloc a).alloc b).alloc c).heap[w.heap.size]? = ((w.alloc a).alloc b).heap[w.heap.size]? := Below.heap_alloc _ _ _ (by simp; omega)
  rw [h]; exact heap_alloc_at0 a b
theorem cfg_one {cs : Array Value} {tv lv : Value} {c : Cfg} {w : World} (hc : CfgCells cs tv lv c) (hC : CfgAt w tv lv c) : cs.all (·.oneCell') = true := by
  obtain ⟨⟨a, cap, rfl, _, _⟩, ⟨a', cap', rfl, _, _⟩⟩ := hC
  rw [cfg_lit hc]
  simp [Value.oneCell']
theorem heap_alloc_at01 {w : World} (a b c : Obj) : (((w.alloc a).alloc b).alloc c).heap[w.heap.size + 1]? = some b := by
  have h : (((w.alloc a).alloc b).alloc c).heap[w.heap.size + 1]? = ((w.alloc a).alloc b).heap[w.heap.size + 1]? := Below.heap_alloc _ _ _ (by simp)
  rw [h]; exact heap_alloc_two w a b
theorem heap_alloc_at02 {w : World} (a b c : Obj) : (((w.alloc a).alloc b).alloc c).heap[w.heap.size + 1 + 1]? = some c := by
  have h := heap_alloc_two (w.alloc a) b c
  rwa [size_alloc1] at h
theorem box_below22 {w : World} {a b : Obj} : Below w.heap.size w ((w.alloc a).alloc b) := ((Below.refl _ _).alloc (Nat.le_refl _) _).alloc (by simp) _
theorem box_below3 {w : World} {a b c : Obj} : Below w.heap.size w (((w.alloc a).alloc b).alloc c) := (((Below.refl _ _).alloc (Nat.le_refl _) _).alloc (by simp) _).alloc (by simp; omega) _
theorem xs_cell {w : World} {xs : List Int} {t : TypeId} {k : Nat} {x : Int} (h : xs[k]? = some x) : (w.alloc (.cells (xs.map (Value.int .i64)).toArray t)).cell? ⟨w.heap.size, k, none⟩ = some (.int .i64 x) :=
  cell_alloc_at (by simp [h])
theorem xs_cell2 {w : World} {o : Obj} {xs : List Int} {t : TypeId} {k : Nat} {x : Int} (h : xs[k]? = some x) : ((w.alloc o).alloc (.cells (xs.map (Value.int .i64)).toArray t)).cell? ⟨w.heap.size + 1, k, none⟩ = some (.int .i64 x) := by
  have := xs_cell (w := w.alloc o) (t := t) h
  rwa [size_alloc1] at this


def BadFrom (xs : List Int) (k : Nat) : Prop := ∃ j x, k ≤ j ∧ xs[j]? = some x ∧ ¬ inR x

set_option maxRecDepth 100000 in
set_option maxHeartbeats 1000000 in
/-- THE WALK: a number that may not be. -/
theorem grows_bad (cs : Array Value) (xs : List Int) (n : Int) (w : World) (hl : xs.length = 6) (hb : BadFrom xs 0) :
    Calls Try.prog 5 #[.agg cs, .agg (xs.map (Value.int .i64)).toArray, .int .i64 n] w (growsPost w) := by
  have HBF := Lib.hid hb; clear hb
  have HL := Lib.hid hl; clear hl
  go_enter Try.func5, Try.ntmps5
  go_wp2
  go_loop [7] (fun i => ∃ k : Nat, k ≤ 6 ∧ i = .int .i64 k ∧ BadFrom xs k) (fun i => 6 - (intOf i).toNat)
  case atStart => exact ⟨0, by omega, rfl, HBF.out⟩
  case round =>
    obtain ⟨k, hk, rfl, hbf⟩ := hrel
    have HB := Lib.hid hbf; clear hbf
    by_cases hlt : k < 6
    · obtain ⟨x, hx⟩ : ∃ x, xs[k]? = some x := ⟨_, List.getElem?_eq_getElem (by have := HL.out; omega)⟩
      have hc := xs_cell2 (w := w) (o := .cells cs 34) (t := 39) hx
      have HX := Lib.hid hx; clear hx
      by_cases h0 : x < 0
      · go_wp2_with fail
        refine (live44_any _).mono ?_
        rintro e w2 ⟨rfl, hb2⟩
        go_wp2
        go_ret
        exact ⟨rfl, box_below22.trans (hb2.mono (by simp; omega))⟩
      · by_cases h1 : 64 < x
        · go_wp2_with fail
          refine (live44_any _).mono ?_
          rintro e w2 ⟨rfl, hb2⟩
          go_wp2
          go_ret
          exact ⟨rfl, box_below22.trans (hb2.mono (by simp; omega))⟩
        · have HN := Lib.hid (show BadFrom xs (k + 1) by
            obtain ⟨j, y, hj, hy, hn⟩ := HB.out
            refine ⟨j, y, ?_, hy, hn⟩
            rcases Nat.lt_or_ge k j with h | h
            · omega
            · obtain rfl : j = k := by omega
              rw [HX.out] at hy
              obtain rfl := Option.some.inj hy
              exact absurd ⟨by omega, by omega⟩ hn)
          go_wp2
          go_round
          case rel => exact ⟨k + 1, by omega, by go_num, HN.out⟩
          case measure => simp [intOf]; omega
    · exfalso
      obtain ⟨j, y, hj, hy, _⟩ := HB.out
      have := (List.getElem?_eq_some_iff.1 hy).1
      have := HL.out
      omega


set_option maxRecDepth 100000 in
set_option maxHeartbeats 1000000 in
/-- THE WALK: a configuration that is too long. -/
theorem grows_wide (cs : Array Value) (tv lv : Value) (c : Cfg) (xs : List Int) (n : Int) (w : World) (hc : CfgCells cs tv lv c) (hC : CfgAt w tv lv c) (hl : xs.length = 6) (hg : ∀ x ∈ xs, inR x) (hw : wideB c = true) :
    Calls Try.prog 5 #[.agg cs, .agg (xs.map (Value.int .i64)).toArray, .int .i64 n] w (growsPost w) := by
  have hc' := hc
  have hC' := hC
  have HC := Lib.hid hc; clear hc
  have HA := Lib.hid hC; clear hC
  have HO := Lib.hid (cfg_one hc' hC')
  clear hc' hC'
  have HG := Lib.hid hg; clear hg
  have HL := Lib.hid hl; clear hl
  have HW := Lib.hid hw; clear hw
  go_enter Try.func5, Try.ntmps5
  go_wp2
  go_loop [7] (fun i => ∃ k : Nat, k ≤ 6 ∧ i = .int .i64 k) (fun i => 6 - (intOf i).toNat)
  case atStart => exact ⟨0, by omega, rfl⟩
  case round =>
    obtain ⟨k, hk, rfl⟩ := hrel
    by_cases hlt : k < 6
    · obtain ⟨x, hx⟩ : ∃ x, xs[k]? = some x := ⟨_, List.getElem?_eq_getElem (by have := HL.out; omega)⟩
      have hc := xs_cell2 (w := w) (o := .cells cs 34) (t := 39) hx
      have h0 : ¬ x < 0 := by have := HG.out x (List.mem_of_getElem? hx); unfold inR at this; omega
      have h1 : ¬ 64 < x := by have := HG.out x (List.mem_of_getElem? hx); unfold inR at this; omega
      clear hx
      go_wp2
      go_round
      case rel => exact ⟨k + 1, by omega, by go_num⟩
      case measure => simp [intOf]; omega
    · clear hk
      go_wp2_with (first
        | refine wpList_load_agg 34 (heap_alloc_at0 _ _) Try.underlying34 rfl (cfg_sz HC.out) rfl _ rfl rfl ?_
        | refine wpList_load_agg 34 (heap_alloc_at00 _ _ _) Try.underlying34 rfl (cfg_sz HC.out) rfl _ rfl rfl ?_
        | (refine wpList_store_new rfl 34 _ _ rfl (w.heap.size + 1 + 1) ?a1 _ rfl rfl ?a2 ?a3 ?a4 ?_; (case a1 => simp); (case a2 => exact cfg_sz HC.out); (case a3 => exact HC.out.size.symm); (case a4 => exact HO.out)))
      refine (wide_at true HW.out HC.out (HA.out.below box_below3)).mono ?_
      rintro e w1 ⟨rfl, hb1⟩
      have HB1 := Lib.hid (box_below3.trans (hb1.mono (by simp; omega)))
      clear hb1
      go_wp2_with fail
      refine (live44_any _).mono ?_
      rintro e w9 ⟨rfl, hb9⟩
      go_wp2
      go_ret
      exact ⟨rfl, HB1.out.trans (hb9.mono HB1.out.size)⟩


set_option maxRecDepth 100000 in
set_option maxHeartbeats 1000000 in
/-- THE WALK: a configuration that may not be. -/
theorem grows_wrong (cs : Array Value) (tv lv : Value) (c : Cfg) (xs : List Int) (n : Int) (w : World) (hc : CfgCells cs tv lv c) (hC : CfgAt w tv lv c) (hl : xs.length = 6) (hg : ∀ x ∈ xs, inR x) (hw : wideB c = false) (hr : checkE c ≠ 0) :
    Calls Try.prog 5 #[.agg cs, .agg (xs.map (Value.int .i64)).toArray, .int .i64 n] w (growsPost w) := by
  have hc' := hc
  have hC' := hC
  have HC := Lib.hid hc; clear hc
  have HA := Lib.hid hC; clear hC
  have HO := Lib.hid (cfg_one hc' hC')
  clear hc' hC'
  have HG := Lib.hid hg; clear hg
  have HL := Lib.hid hl; clear hl
  have HW := Lib.hid hw; clear hw
  have HR := Lib.hid (show (checkE c == 0) = false from beq_eq_false_iff_ne.2 hr); clear hr
  go_enter Try.func5, Try.ntmps5
  go_wp2
  go_loop [7] (fun i => ∃ k : Nat, k ≤ 6 ∧ i = .int .i64 k) (fun i => 6 - (intOf i).toNat)
  case atStart => exact ⟨0, by omega, rfl⟩
  case round =>
    obtain ⟨k, hk, rfl⟩ := hrel
    by_cases hlt : k < 6
    · obtain ⟨x, hx⟩ : ∃ x, xs[k]? = some x := ⟨_, List.getElem?_eq_getElem (by have := HL.out; omega)⟩
      have hc := xs_cell2 (w := w) (o := .cells cs 34) (t := 39) hx
      have h0 : ¬ x < 0 := by have := HG.out x (List.mem_of_getElem? hx); unfold inR at this; omega
      have h1 : ¬ 64 < x := by have := HG.out x (List.mem_of_getElem? hx); unfold inR at this; omega
      clear hx
      go_wp2
      go_round
      case rel => exact ⟨k + 1, by omega, by go_num⟩
      case measure => simp [intOf]; omega
    · clear hk
      go_wp2_with (first
        | refine wpList_load_agg 34 (heap_alloc_at0 _ _) Try.underlying34 rfl (cfg_sz HC.out) rfl _ rfl rfl ?_
        | refine wpList_load_agg 34 (heap_alloc_at00 _ _ _) Try.underlying34 rfl (cfg_sz HC.out) rfl _ rfl rfl ?_
        | (refine wpList_store_new rfl 34 _ _ rfl (w.heap.size + 1 + 1) ?a1 _ rfl rfl ?a2 ?a3 ?a4 ?_; (case a1 => simp); (case a2 => exact cfg_sz HC.out); (case a3 => exact HC.out.size.symm); (case a4 => exact HO.out)))
      refine (wide_at false HW.out HC.out (HA.out.below box_below3)).mono ?_
      rintro e w1 ⟨rfl, hb1⟩
      have HB1 := Lib.hid (box_below3.trans (hb1.mono (by simp; omega)))
      have H0 := Lib.hid ((hb1.block w.heap.size (by simp; omega)).trans (heap_alloc_at00 _ _ _))
      have H1 := Lib.hid ((hb1.block (w.heap.size + 1) (by simp)).trans (heap_alloc_at01 _ _ _))
      have H2 := Lib.hid ((hb1.block (w.heap.size + 1 + 1) (by simp)).trans (heap_alloc_at02 _ _ _))
      clear hb1
      go_wp2_with (refine wpList_load_agg 34 H0.out Try.underlying34 rfl (cfg_sz HC.out) rfl _ rfl rfl ?_)
      refine (rright_any _ _ _ c _ HC.out (HA.out.below HB1.out)).mono ?_
      rintro e w2 ⟨rfl, hb2⟩
      have HB2 := Lib.hid (HB1.out.trans (hb2.mono HB1.out.size))
      rw [HR.out]
      clear hb2
      go_wp2_with fail
      refine (live44_any _).mono ?_
      rintro e w9 ⟨rfl, hb9⟩
      go_wp2
      go_ret
      exact ⟨rfl, HB2.out.trans (hb9.mono HB2.out.size)⟩


set_option maxRecDepth 100000 in
set_option maxHeartbeats 1000000 in
/-- THE WALK: a window that is none. -/
theorem grows_short (cs : Array Value) (tv lv : Value) (c : Cfg) (xs : List Int) (n : Int) (w : World) (hc : CfgCells cs tv lv c) (hC : CfgAt w tv lv c) (hl : xs.length = 6) (hg : ∀ x ∈ xs, inR x) (hw : wideB c = false) (hr : checkE c = 0) (hn : n < 1) :
    Calls Try.prog 5 #[.agg cs, .agg (xs.map (Value.int .i64)).toArray, .int .i64 n] w (growsPost w) := by
  have hc' := hc
  have hC' := hC
  have HC := Lib.hid hc; clear hc
  have HA := Lib.hid hC; clear hC
  have HO := Lib.hid (cfg_one hc' hC')
  clear hc' hC'
  have HG := Lib.hid hg; clear hg
  have HL := Lib.hid hl; clear hl
  have HW := Lib.hid hw; clear hw
  have HR := Lib.hid (show (checkE c == 0) = true by rw [hr]; rfl); clear hr
  go_enter Try.func5, Try.ntmps5
  go_wp2
  go_loop [7] (fun i => ∃ k : Nat, k ≤ 6 ∧ i = .int .i64 k) (fun i => 6 - (intOf i).toNat)
  case atStart => exact ⟨0, by omega, rfl⟩
  case round =>
    obtain ⟨k, hk, rfl⟩ := hrel
    by_cases hlt : k < 6
    · obtain ⟨x, hx⟩ : ∃ x, xs[k]? = some x := ⟨_, List.getElem?_eq_getElem (by have := HL.out; omega)⟩
      have hc := xs_cell2 (w := w) (o := .cells cs 34) (t := 39) hx
      have h0 : ¬ x < 0 := by have := HG.out x (List.mem_of_getElem? hx); unfold inR at this; omega
      have h1 : ¬ 64 < x := by have := HG.out x (List.mem_of_getElem? hx); unfold inR at this; omega
      clear hx
      go_wp2
      go_round
      case rel => exact ⟨k + 1, by omega, by go_num⟩
      case measure => simp [intOf]; omega
    · clear hk
      go_wp2_with (first
        | refine wpList_load_agg 34 (heap_alloc_at0 _ _) Try.underlying34 rfl (cfg_sz HC.out) rfl _ rfl rfl ?_
        | refine wpList_load_agg 34 (heap_alloc_at00 _ _ _) Try.underlying34 rfl (cfg_sz HC.out) rfl _ rfl rfl ?_
        | (refine wpList_store_new rfl 34 _ _ rfl (w.heap.size + 1 + 1) ?a1 _ rfl rfl ?a2 ?a3 ?a4 ?_; (case a1 => simp); (case a2 => exact cfg_sz HC.out); (case a3 => exact HC.out.size.symm); (case a4 => exact HO.out)))
      refine (wide_at false HW.out HC.out (HA.out.below box_below3)).mono ?_
      rintro e w1 ⟨rfl, hb1⟩
      have HB1 := Lib.hid (box_below3.trans (hb1.mono (by simp; omega)))
      have H0 := Lib.hid ((hb1.block w.heap.size (by simp; omega)).trans (heap_alloc_at00 _ _ _))
      have H1 := Lib.hid ((hb1.block (w.heap.size + 1) (by simp)).trans (heap_alloc_at01 _ _ _))
      have H2 := Lib.hid ((hb1.block (w.heap.size + 1 + 1) (by simp)).trans (heap_alloc_at02 _ _ _))
      clear hb1
      go_wp2_with (refine wpList_load_agg 34 H0.out Try.underlying34 rfl (cfg_sz HC.out) rfl _ rfl rfl ?_)
      refine (rright_any _ _ _ c _ HC.out (HA.out.below HB1.out)).mono ?_
      rintro e w2 ⟨rfl, hb2⟩
      have HB2 := Lib.hid (HB1.out.trans (hb2.mono HB1.out.size))
      rw [HR.out]
      clear hb2
      go_wp2_with fail
      refine (live44_any _).mono ?_
      rintro e w9 ⟨rfl, hb9⟩
      go_wp2
      go_ret
      exact ⟨rfl, HB2.out.trans (hb9.mono HB2.out.size)⟩


set_option maxRecDepth 100000 in
set_option maxHeartbeats 1000000 in
/-- THE WALK: a window that is too long. -/
theorem grows_long (cs : Array Value) (tv lv : Value) (c : Cfg) (xs : List Int) (n : Int) (w : World) (hc : CfgCells cs tv lv c) (hC : CfgAt w tv lv c) (hl : xs.length = 6) (hg : ∀ x ∈ xs, inR x) (hw : wideB c = false) (hr : checkE c = 0) (hn : ¬ n < 1) (hn2 : 1048576 < n) :
    Calls Try.prog 5 #[.agg cs, .agg (xs.map (Value.int .i64)).toArray, .int .i64 n] w (growsPost w) := by
  have hc' := hc
  have hC' := hC
  have HC := Lib.hid hc; clear hc
  have HA := Lib.hid hC; clear hC
  have HO := Lib.hid (cfg_one hc' hC')
  clear hc' hC'
  have HG := Lib.hid hg; clear hg
  have HL := Lib.hid hl; clear hl
  have HW := Lib.hid hw; clear hw
  have HR := Lib.hid (show (checkE c == 0) = true by rw [hr]; rfl); clear hr
  go_enter Try.func5, Try.ntmps5
  go_wp2
  go_loop [7] (fun i => ∃ k : Nat, k ≤ 6 ∧ i = .int .i64 k) (fun i => 6 - (intOf i).toNat)
  case atStart => exact ⟨0, by omega, rfl⟩
  case round =>
    obtain ⟨k, hk, rfl⟩ := hrel
    by_cases hlt : k < 6
    · obtain ⟨x, hx⟩ : ∃ x, xs[k]? = some x := ⟨_, List.getElem?_eq_getElem (by have := HL.out; omega)⟩
      have hc := xs_cell2 (w := w) (o := .cells cs 34) (t := 39) hx
      have h0 : ¬ x < 0 := by have := HG.out x (List.mem_of_getElem? hx); unfold inR at this; omega
      have h1 : ¬ 64 < x := by have := HG.out x (List.mem_of_getElem? hx); unfold inR at this; omega
      clear hx
      go_wp2
      go_round
      case rel => exact ⟨k + 1, by omega, by go_num⟩
      case measure => simp [intOf]; omega
    · clear hk
      go_wp2_with (first
        | refine wpList_load_agg 34 (heap_alloc_at0 _ _) Try.underlying34 rfl (cfg_sz HC.out) rfl _ rfl rfl ?_
        | refine wpList_load_agg 34 (heap_alloc_at00 _ _ _) Try.underlying34 rfl (cfg_sz HC.out) rfl _ rfl rfl ?_
        | (refine wpList_store_new rfl 34 _ _ rfl (w.heap.size + 1 + 1) ?a1 _ rfl rfl ?a2 ?a3 ?a4 ?_; (case a1 => simp); (case a2 => exact cfg_sz HC.out); (case a3 => exact HC.out.size.symm); (case a4 => exact HO.out)))
      refine (wide_at false HW.out HC.out (HA.out.below box_below3)).mono ?_
      rintro e w1 ⟨rfl, hb1⟩
      have HB1 := Lib.hid (box_below3.trans (hb1.mono (by simp; omega)))
      have H0 := Lib.hid ((hb1.block w.heap.size (by simp; omega)).trans (heap_alloc_at00 _ _ _))
      have H1 := Lib.hid ((hb1.block (w.heap.size + 1) (by simp)).trans (heap_alloc_at01 _ _ _))
      have H2 := Lib.hid ((hb1.block (w.heap.size + 1 + 1) (by simp)).trans (heap_alloc_at02 _ _ _))
      clear hb1
      go_wp2_with (refine wpList_load_agg 34 H0.out Try.underlying34 rfl (cfg_sz HC.out) rfl _ rfl rfl ?_)
      refine (rright_any _ _ _ c _ HC.out (HA.out.below HB1.out)).mono ?_
      rintro e w2 ⟨rfl, hb2⟩
      have HB2 := Lib.hid (HB1.out.trans (hb2.mono HB1.out.size))
      rw [HR.out]
      clear hb2
      go_wp2_with fail
      refine (live44_any _).mono ?_
      rintro e w9 ⟨rfl, hb9⟩
      go_wp2
      go_ret
      exact ⟨rfl, HB2.out.trans (hb9.mono HB2.out.size)⟩

end Go.Proofs.Ytcojnjfpoiohoaa

