/-
  billetlaw29: the example; WorkerOnce: the walks.
-/
import Derived.Test.YtmijmfgclmaodaaGreatDoorWk6
namespace Go.Proofs.YtmijmfgclmaodaaGreatDoor
open Go.RowKit

theorem book_ge {T : TypeId} {base b : Nat} {w : World} {v : Value} {s : Bk} (h : BookAt T base w b v s) : ∀ k ∈ b :: blk v, base ≤ k := by
  intro k hk
  rcases List.mem_cons.1 hk with rfl | h1
  · exact h.le
  · exact own_blk h.own k h1
def xa : Wk := ⟨0, 0, 0, ⟨#[97]⟩, ⟨#[]⟩, false, 0⟩
def xb : Wk := ⟨0, 0, 0, ⟨#[98]⟩, ⟨#[]⟩, false, 0⟩
def s0 : Bk := ⟨2, 0, []⟩
theorem ex_m0 : mayE s0 xa = 0 := by decide +kernel
theorem ex_m1 : mayE (addS s0 xa) xb = 0 := by decide +kernel
theorem ex_f2 : findI (noB 1) (addS (addS s0 xa) xb).ws = (0 : Nat) := by decide +kernel
theorem ex_m3 : mayE (delS (addS (addS s0 xa) xb) 0) xa = 0 := by decide +kernel
theorem ex_small : SmallW xa ∧ SmallW xb := by unfold SmallW; decide
set_option maxRecDepth 100000 in
set_option maxHeartbeats 2000000 in
/-- THE WALK: the law's example. -/
theorem live29_any (w : World) (hr : Ready w) : Calls Tryz.prog 6 #[] w fun e w' => e = .returned (.bool true) ∧ Below w.heap.size w w' := by
  have HR := Lib.hid hr
  clear hr
  go_enter Tryz.func6, Tryz.ntmps6
  go_wp2_with fail
  refine (new_some 2 _ (by omega)).mono ?_
  rintro e w1 ⟨rfl, hw1⟩
  have HA1 := Lib.hid (show BookAt 56 w.heap.size w1 w.heap.size (.slice none 0 0) s0 by rw [hw1]; exact new_book 2 w)
  have HB1 := Lib.hid (show Below w.heap.size w w1 by rw [hw1]; exact box_below)
  clear hw1
  go_wp2_with fail
  refine (add_ok xa _ (HR.out.below HB1.out) HA1.out ex_small.1 ex_m0 (by decide) (by decide) (by decide) HB1.out.size).mono ?_
  rintro e w2 ⟨rfl, v2, hA2, hF2, -⟩
  have HA2 := Lib.hid hA2
  have HB2 := Lib.hid (HB1.out.trans (hF2.below HB1.out.size (book_ge HA1.out)))
  clear hA2 hF2
  go_wp2_with fail
  refine (add_ok xb _ (HR.out.below HB2.out) HA2.out ex_small.2 ex_m1 (by decide) (by decide) (by decide) HB2.out.size).mono ?_
  rintro e w3 ⟨rfl, v3, hA3, hF3, -⟩
  have HA3 := Lib.hid hA3
  have HB3 := Lib.hid (HB2.out.trans (hF3.below HB2.out.size (book_ge HA2.out)))
  clear hA3 hF3
  go_wp2_with fail
  refine (remove_some 1 0 _ _ HA3.out ex_f2 rfl).mono ?_
  rintro e w4 ⟨rfl, v4, hA4, hF4, -⟩
  have HA4 := Lib.hid hA4
  have HB4 := Lib.hid (HB3.out.trans (hF4.below HB3.out.size (book_ge HA3.out)))
  clear hA4 hF4
  go_wp2_with fail
  refine (add_ok xa _ (HR.out.below HB4.out) HA4.out ex_small.1 ex_m3 (by decide) (by decide) (by decide) HB4.out.size).mono ?_
  rintro e w5 ⟨rfl, v5, hA5, hF5, -⟩
  have HB5 := Lib.hid (HB4.out.trans (hF5.below HB4.out.size (book_ge HA4.out)))
  clear hA5 hF5
  have ex1 : s0.last + 1 = 1 := rfl
  have ex2 : (addS s0 xa).last + 1 = 2 := rfl
  have ex3 : (delS (addS (addS s0 xa) xb) 0).last + 1 = 3 := rfl
  rw [ex1, ex2, ex3]
  clear ex1 ex2 ex3
  go_wp2_with fail
  refine (num29_any _ _).mono ?_
  rintro e w6 ⟨rfl, rfl⟩
  go_wp2
  go_ret
  exact ⟨rfl, HB5.out⟩

structure Ac where
  kind : Int
  x : Wk
def encA (a : Ac) : List Value := .int .i64 a.kind :: encW a.x
theorem encA_len (a : Ac) : (encA a).length = 8 := rfl
/-- A slice of calls. -/
def ActsAt (w : World) (v : Value) (l : List Ac) : Prop :=
  (∃ a cap, v = .slice a l.length cap ∧ l.length ≤ 140737488351232 ∧ ∀ (j : Nat) u, (l.flatMap encA)[j]? = some u → ∃ g off, a = some ⟨g, off, none⟩ ∧ w.cell? ⟨g, off + j, none⟩ = some u) ∧
  ∀ a ∈ l, a.x.name.size ≤ 140737488351232 ∧ a.x.plat.size ≤ 140737488351232
theorem ActsAt.at {w : World} {a : Option Addr} {l : List Ac} (hc : ∀ (j : Nat) u, (l.flatMap encA)[j]? = some u → ∃ g off, a = some ⟨g, off, none⟩ ∧ w.cell? ⟨g, off + j, none⟩ = some u) {k : Nat} {y : Ac} (hx : l[k]? = some y) :
    ∃ g off, a = some ⟨g, off, none⟩ ∧ w.cell? ⟨g, off + k * 8, none⟩ = some (.int .i64 y.kind) ∧ w.cell? ⟨g, off + k * 8 + 1, none⟩ = some (.int .i64 y.x.no) ∧ w.cell? ⟨g, off + k * 8 + 2, none⟩ = some (.int .i64 y.x.cls) ∧ w.cell? ⟨g, off + k * 8 + 3, none⟩ = some (.int .i64 y.x.op) ∧
      w.cell? ⟨g, off + k * 8 + 4, none⟩ = some (.string y.x.name) ∧ w.cell? ⟨g, off + k * 8 + 5, none⟩ = some (.string y.x.plat) ∧ w.cell? ⟨g, off + k * 8 + 6, none⟩ = some (.bool y.x.paused) ∧ w.cell? ⟨g, off + k * 8 + 7, none⟩ = some (.int .u64 y.x.untl) := by
  have e (i : Nat) (hi : i < 8) {u : Value} (hu : (encA y)[i]? = some u) : (l.flatMap encA)[k * 8 + i]? = some u := by rw [flat_at encA 8 encA_len i hx hi]; exact hu
  obtain ⟨g, off, rfl, h0⟩ := hc _ _ (e 0 (by omega) rfl)
  obtain ⟨g1, o1, e1, h1⟩ := hc _ _ (e 1 (by omega) rfl); cases e1
  obtain ⟨g2, o2, e2, h2⟩ := hc _ _ (e 2 (by omega) rfl); cases e2
  obtain ⟨g3, o3, e3, h3⟩ := hc _ _ (e 3 (by omega) rfl); cases e3
  obtain ⟨g4, o4, e4, h4⟩ := hc _ _ (e 4 (by omega) rfl); cases e4
  obtain ⟨g5, o5, e5, h5⟩ := hc _ _ (e 5 (by omega) rfl); cases e5
  obtain ⟨g6, o6, e6, h6⟩ := hc _ _ (e 6 (by omega) rfl); cases e6
  obtain ⟨g7, o7, e7, h7⟩ := hc _ _ (e 7 (by omega) rfl); cases e7
  exact ⟨g, off, rfl, h0, h1, h2, h3, h4, h5, h6, h7⟩

theorem was_far {T : TypeId} {base b m : Nat} {w w' : World} {v : Value} {s : Bk} (_ : BookAt T base w b v s) (h : BookAt T base w' b v s) (hb : b < m) (hm : w'.heap.size ≤ m) : m ∉ b :: blk v := by
  intro hk
  rcases List.mem_cons.1 hk with h1 | h1
  · omega
  · have := own_lt h.own m h1
    omega
theorem may_room {s : Bk} {x : Wk} (h : mayE s x = 0) : (s.ws.length : Int) < s.room := by
  unfold mayE at h
  split at h
  · rename_i h1; exact absurd h h1
  · split at h
    · cases h
    · split at h
      · cases h
      · omega
end Go.Proofs.YtmijmfgclmaodaaGreatDoor
