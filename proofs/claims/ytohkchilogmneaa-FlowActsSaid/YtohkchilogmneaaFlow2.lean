/-
  flow.Ring: New, ok, queue, Len, Deficit, Given: the walks.
-/
import Derived.Test.YtohkchilogmneaaFlow
namespace Go.Proofs.Ytohkchilogmneaa
open Go.RowKit

set_option maxRecDepth 100000 in
set_option maxHeartbeats 1000000 in
theorem flowNew_nil (q : Int) (w : World) (h : ¬ (1 ≤ q ∧ q ≤ 64)) : Calls Try.prog 10 #[.int .i64 q] w fun e w' => e = .returned (.pointer none) ∧ Below w.heap.size w w' := by
  by_cases h1 : q < 1
  · clear h
    have hd : decide (q < 1) = true := decide_eq_true h1
    go_enter Try.func10, Try.ntmps10
    go_wp2
    go_ret
    exact ⟨rfl, Below.refl _ _⟩
  · have h2 : 64 < q := by omega
    clear h
    go_enter Try.func10, Try.ntmps10
    go_wp2
    go_ret
    exact ⟨rfl, Below.refl _ _⟩
set_option maxRecDepth 100000 in
set_option maxHeartbeats 1000000 in
/-- THE WALK: New. -/
theorem flowNew_any (q : Int) (w : World) (h1 : 1 ≤ q) (h2 : q ≤ 64) : Calls Try.prog 10 #[.int .i64 q] w fun e w' => e = .returned (.pointer (some ⟨w.heap.size + 1, 0, none⟩)) ∧ w' = (w.alloc (.cells #[.int .i64 q, .slice none 0 0, .bool false] 100)).alloc (.cells #[.pointer (some ⟨w.heap.size, 0, none⟩)] 102) := by
  have g1 : ¬ q < 1 := by omega
  have g2 : ¬ 64 < q := by omega
  clear h1 h2
  go_enter Try.func10, Try.ntmps10
  go_wp2
  go_ret
  exact ⟨rfl, rfl⟩
section
variable {pre : List Int} {ρ : Roles} {f sp : Nat} {q : Int} {gv : Bool} {v : Value} {ns : List Nd} {qb : Int → Nat} {its : Int → List It} {rows : List FRow}
theorem flowNew_at (w : World) (h1 : 1 ≤ q) (h2 : q ≤ 64) (hs : ρ w.heap.size = pre ++ [1]) (hf : ρ (w.heap.size + 1) = pre ++ [6]) :
    RingAt pre ρ ((w.alloc (.cells #[.int .i64 q, .slice none 0 0, .bool false] 100)).alloc (.cells #[.pointer (some ⟨w.heap.size, 0, none⟩)] 102)) (w.heap.size + 1) q false [] := by
  refine ⟨w.heap.size, .slice none 0 0, [], fun _ => 0, fun _ => [], ⟨?_, hf, ⟨fr_alloc_old fr_alloc_at, hs, .inl ⟨rfl, rfl⟩, (fun k hk => by cases hk), (fun i n hn => by simp at hn), by simp, by simp⟩, (fun n hn => by cases hn), (fun n hn => by cases hn), (fun n hn => by cases hn), h1, h2, trivial, (fun n hn => by cases hn)⟩, rfl⟩
  rw [show w.heap.size + 1 = (w.alloc (.cells #[.int .i64 q, .slice none 0 0, .bool false] 100)).heap.size by simp]
  exact fr_alloc_at
set_option maxRecDepth 100000 in
set_option maxHeartbeats 1000000 in
theorem flowOk_nil (w : World) : Calls Try.prog 46 #[.pointer none] w fun e w' => e = .returned (.bool false) ∧ w = w' := by
  go_enter Try.func46, Try.ntmps46
  go_wp2
  go_ret
  exact ⟨rfl, rfl⟩
set_option maxRecDepth 100000 in
set_option maxHeartbeats 1000000 in
theorem flowOk_any (w : World) (hc : w.cell? ⟨f, 0, none⟩ = some (.pointer (some ⟨sp, 0, none⟩))) : Calls Try.prog 46 #[.pointer (some ⟨f, 0, none⟩)] w fun e w' => e = .returned (.bool true) ∧ w = w' := by
  go_enter Try.func46, Try.ntmps46
  go_wp2
  go_ret
  exact ⟨rfl, rfl⟩
theorem RAt.c0 {w : World} (h : RAt pre ρ w f sp q gv v ns qb its) : w.cell? ⟨f, 0, none⟩ = some (.pointer (some ⟨sp, 0, none⟩)) := fr_cell_of_heap h.head rfl
theorem SpinAt.place {w : World} (h : SpinAt pre ρ w sp q gv v ns) {k : Nat} {n : Nd} {id : Int} (hn : ns[k]? = some n) (hi : n.id = id) : placeN id ns = k := by
  refine place_of hn hi (fun j y hj hy e => ?_)
  have h2 : (ns.map Nd.id)[k]? = some id := by simp [hn, hi]
  have h3 : (ns.map Nd.id)[j]? = some id := by simp [hy, e]
  have := (List.getElem?_inj (List.getElem?_eq_some_iff.1 h3).1 h.once).1 (h3.trans h2.symm)
  omega
theorem as_flow (v : Value) (w : World) : (Instr.typeAssert (.iface 116 v) 109 116 false).run Try.prog w = .ok v w := by kernel_rfl
theorem fd_flow (b : Nat) (w : World) : (Instr.field 116 (.agg #[.pointer (some ⟨b, 0, none⟩)]) 0).run Try.prog w = .ok (.pointer (some ⟨b, 0, none⟩)) w := by kernel_rfl
set_option maxRecDepth 100000 in
set_option maxHeartbeats 1000000 in
theorem flowQueue_nil (id : Int) (w : World) : Calls Try.prog 47 #[.pointer none, .int .i64 id] w fun e w' => e = .returned (.tuple #[.pointer none, .pointer none]) ∧ Below w.heap.size w w' := by
  go_enter Try.func47, Try.ntmps47
  go_wp2_with fail
  refine (flowOk_nil _).mono ?_
  rintro e w1 ⟨rfl, rfl⟩
  go_wp2_with fail
  exact bodyPost_ret (v := .tuple #[.pointer none, .pointer none]) (by simp [results, Try.results47, go_sem]) rfl ⟨rfl, Below.refl _ _⟩
set_option maxRecDepth 100000 in
set_option maxHeartbeats 1000000 in
theorem flowQueue_none (id : Int) (w : World) (hR : RAt pre ρ w f sp q gv v ns qb its) (h : ∀ n ∈ ns, n.id ≠ id) : Calls Try.prog 47 #[.pointer (some ⟨f, 0, none⟩), .int .i64 id] w fun e w' => e = .returned (.tuple #[.pointer none, .pointer none]) ∧ Below w.heap.size w w' := by
  have HR := Lib.hid hR
  have HH := Lib.hid h
  have c0 := hR.c0
  clear hR h
  go_enter Try.func47, Try.ntmps47
  go_wp2_with fail
  refine (flowOk_any _ HR.out.c0).mono ?_
  rintro e w1 ⟨rfl, rfl⟩
  go_wp2_with fail
  refine (spinFind_none id _ HR.out.spin HH.out).mono ?_
  rintro e w1 ⟨rfl, hb⟩
  have HB := Lib.hid hb
  clear hb
  go_wp2_with fail
  exact bodyPost_ret (v := .tuple #[.pointer none, .pointer none]) (by simp [results, Try.results47, go_sem]) rfl ⟨rfl, HB.out⟩
set_option maxRecDepth 100000 in
set_option maxHeartbeats 1000000 in
/-- THE WALK: queue. -/
theorem flowQueue_some (id : Int) (k : Nat) (n : Nd) (w : World) (hR : RAt pre ρ w f sp q gv v ns qb its) (hn : ns[k]? = some n) (hi : n.id = id) : Calls Try.prog 47 #[.pointer (some ⟨f, 0, none⟩), .int .i64 id] w fun e w' => e = .returned (.tuple #[.pointer (some ⟨n.blk, 0, none⟩), .pointer (some ⟨qb n.id, 0, none⟩)]) ∧ Below w.heap.size w w' := by
  have HR := Lib.hid hR
  have HN := Lib.hid hn
  have HP := Lib.hid (hR.spin.place hn hi)
  have c0 := hR.c0
  clear hR hn hi
  go_enter Try.func47, Try.ntmps47
  go_wp2_with fail
  refine (flowOk_any _ HR.out.c0).mono ?_
  rintro e w1 ⟨rfl, rfl⟩
  go_wp2_with fail
  refine (spinFind_some id k n _ HR.out.spin HN.out HP.out).mono ?_
  rintro e w1 ⟨rfl, hb⟩
  have HB := Lib.hid hb
  have c3 : w1.cell? ⟨n.blk, 3, none⟩ = some (.iface 116 (.agg #[.pointer (some ⟨qb n.id, 0, none⟩)])) := cell_below hb (by rw [show Value.iface 116 (.agg #[.pointer (some ⟨qb n.id, 0, none⟩)]) = n.src from (HR.out.src n (List.mem_of_getElem? HN.out)).symm]; exact fr_cell_of_heap (HR.out.spin.node k n HN.out).2 rfl)
  clear hb c0
  have hta := as_flow
  have hfd := fd_flow
  go_upto_region 6 with fail
  go_region
  go_wp2_with fail
  exact bodyPost_ret (v := .tuple #[.pointer (some ⟨n.blk, 0, none⟩), .pointer (some ⟨qb n.id, 0, none⟩)]) (by simp [results, Try.results47, go_sem]) rfl ⟨rfl, below_drewN HB.out 1⟩
end
end Go.Proofs.Ytohkchilogmneaa
