/-
  fifo.Queue: New, Has, Head, Len, All: the walks.
-/
import Derived.Test.YtohkchilogmneaaQue
import Derived.Test.YtohkchilogmneaaStore
import Derived.Maps.OwnOps
namespace Go.Proofs.Ytohkchilogmneaa
open Go.RowKit

theorem zeroLk (w : World) : (zeroValue 147).run Try.prog w = .ok (.pointer none) w := by kernel_rfl
/-- What is found in the map. -/
theorem wpList_lookup_lk {ops : Array Oper} {rest : List Oper} {o : Oper} {a : Act} {Q : Exit → Act → World → Prop} {w : World} (hw : Region.wanted o (yielded ops a.tmps) = true) (m x : Operand) (hop : o.op = Op.lookup 146 m x false)
    {pre : List Int} {ρ : Roles} {q b : Nat} {lk : Int → Nat} {D : DataW Unit} {l : List It} (hQ : QAt pre ρ w q b lk D l) (hm : a.eval m = .map (some b)) (id : Int) (hx : a.eval x = .int .i64 id) (hid : I64 id)
    (v : Value) (hv : (hasIt id l = true ∧ v = .pointer (some ⟨lk id, 0, none⟩)) ∨ (hasIt id l = false ∧ v = .pointer none))
    (hK : wpList Try.prog ops Q rest (a.put o.dst v) w) : wpList Try.prog ops Q (o :: rest) a w := by
  obtain ⟨u, ps, hrun, hR⟩ := hQ.map.lookup keyT Try.underlying146 (zeroLk w) lkR_none (keyI_of hid)
  have hu : u = v := by
    rcases hv with ⟨h, rfl⟩ | ⟨h, rfl⟩
    · obtain ⟨i, y, hy, rfl⟩ := has_iff.1 h
      rw [hQ.at_ y (List.mem_of_getElem? hy)] at hR
      exact lkR_inv hR
    · rw [Maps.atKey_of_not_has ((hQ.has id hid).trans h)] at hR
      exact lkR_nil hR
  subst hu
  unfold wpList
  rw [if_pos hw]
  left
  unfold Oper.wp
  simp [execOp, hop, hm, hx, hrun, Result.andThen]
  exact hK
section
variable {pre : List Int} {ρ : Roles} {q : Nat} {l : List It}
theorem QAt.c0 {w : World} {m : Nat} {lk : Int → Nat} {D : DataW Unit} (h : QAt pre ρ w q m lk D l) : w.cell? ⟨q, 0, none⟩ = some (lkP lk l.head?) := fr_cell_of_heap h.head rfl
theorem QAt.c1 {w : World} {m : Nat} {lk : Int → Nat} {D : DataW Unit} (h : QAt pre ρ w q m lk D l) : w.cell? ⟨q, 1, none⟩ = some (lkP lk l.getLast?) := fr_cell_of_heap h.head rfl
theorem QAt.c2 {w : World} {m : Nat} {lk : Int → Nat} {D : DataW Unit} (h : QAt pre ρ w q m lk D l) : w.cell? ⟨q, 2, none⟩ = some (.map (some m)) := fr_cell_of_heap h.head rfl
theorem QAt.c3 {w : World} {m : Nat} {lk : Int → Nat} {D : DataW Unit} (h : QAt pre ρ w q m lk D l) : w.cell? ⟨q, 3, none⟩ = some (.int .i64 (costIt l)) := fr_cell_of_heap h.head rfl
set_option maxRecDepth 100000 in
set_option maxHeartbeats 1000000 in
/-- THE WALK: New. -/
theorem fifoNew_any (w : World) : Calls Try.prog 48 #[] w fun e w' => e = .returned (.pointer (some ⟨w.heap.size + 1, 0, none⟩)) ∧ w' = (w.alloc (.map #[] 0)).alloc (.cells #[.pointer none, .pointer none, .map (some w.heap.size), .int .i64 0] 149) := by
  have hmm := @run_makeMap Try.prog
  go_enter Try.func48, Try.ntmps48
  go_wp2
  go_ret
  exact ⟨rfl, rfl⟩
theorem fifoNew_at (w : World) (hq : ρ (w.heap.size + 1) = pre ++ [1]) (hm : ρ w.heap.size = pre ++ [2]) :
    QueAt pre ρ ((w.alloc (.map #[] 0)).alloc (.cells #[.pointer none, .pointer none, .map (some w.heap.size), .int .i64 0] 149)) (w.heap.size + 1) [] :=
  ⟨w.heap.size, fun _ => 0, .map [], heap_alloc_two w _ _, hq, hm, (World.ownsMap_made w _ _ _).alloc _, rfl, fun _ _ => rfl, (fun x hx => by cases hx), (fun i x hx => by simp at hx), good_nil⟩
set_option maxRecDepth 100000 in
set_option maxHeartbeats 1000000 in
theorem fifoHas_nil (id : Int) (w : World) : Calls Try.prog 83 #[.pointer none, .int .i64 id] w fun e w' => e = .returned (.bool false) ∧ w = w' := by
  go_enter Try.func83, Try.ntmps83
  go_wp2
  go_ret
  exact ⟨rfl, rfl⟩
set_option maxRecDepth 100000 in
set_option maxHeartbeats 1000000 in
/-- THE WALK: Has. -/
theorem fifoHas_any (id : Int) (w : World) (hQ : QueAt pre ρ w q l) (hid : I64 id) : Calls Try.prog 83 #[.pointer (some ⟨q, 0, none⟩), .int .i64 id] w fun e w' => e = .returned (.bool (hasIt id l)) ∧ w = w' := by
  obtain ⟨m, lk, D, hq⟩ := hQ
  have HQ := Lib.hid hq
  have HI := Lib.hid hid
  have c2 := hq.c2
  clear hq hid
  rcases hh : hasIt id l with _ | _
  · have HH := Lib.hid hh
    clear hh
    go_enter Try.func83, Try.ntmps83
    go_wp2_with (at_lookup; refine wpList_lookup_lk (by rfl) _ _ rfl HQ.out rfl id rfl HI.out (.pointer none) (.inr ⟨HH.out, rfl⟩) ?_)
    go_ret
    exact ⟨rfl, rfl⟩
  · have HH := Lib.hid hh
    clear hh
    go_enter Try.func83, Try.ntmps83
    go_wp2_with (at_lookup; refine wpList_lookup_lk (by rfl) _ _ rfl HQ.out rfl id rfl HI.out (.pointer (some ⟨lk id, 0, none⟩)) (.inl ⟨HH.out, rfl⟩) ?_)
    go_ret
    exact ⟨rfl, rfl⟩
set_option maxRecDepth 100000 in
set_option maxHeartbeats 1000000 in
/-- THE WALK: Head. -/
theorem fifoHead_nil (w : World) (hQ : QueAt pre ρ w q []) : Calls Try.prog 84 #[.pointer (some ⟨q, 0, none⟩)] w fun e w' => e = .returned (.tuple #[.agg #[.int .i64 0, .int .i64 0], .bool false]) ∧ Below w.heap.size w w' := by
  obtain ⟨m, lk, D, hq⟩ := hQ
  have c0 : w.cell? ⟨q, 0, none⟩ = some (.pointer none) := hq.c0
  have hlt := fp_lt_of_heap hq.head
  clear hq
  go_enter Try.func84, Try.ntmps84
  go_wp2
  refine bodyPost_ret (v := .tuple #[.agg #[.int .i64 0, .int .i64 0], .bool false]) (by simp [results, Try.results84, go_sem]) rfl ⟨rfl, ?_⟩
  exact box_below
set_option maxRecDepth 100000 in
set_option maxHeartbeats 1000000 in
theorem fifoHead_cons (x : It) (r : List It) (w : World) (hQ : QueAt pre ρ w q (x :: r)) : Calls Try.prog 84 #[.pointer (some ⟨q, 0, none⟩)] w fun e w' => e = .returned (.tuple #[.agg #[.int .i64 x.id, .int .i64 x.cost], .bool true]) ∧ Below w.heap.size w w' := by
  obtain ⟨m, lk, D, hq⟩ := hQ
  have c0 : w.cell? ⟨q, 0, none⟩ = some (.pointer (some ⟨lk x.id, 0, none⟩)) := hq.c0
  have hlt := fp_lt_of_heap hq.head
  have hl := (hq.link 0 x rfl).2
  have d0 : w.cell? ⟨lk x.id, 0, none⟩ = some (.int .i64 x.id) := fr_cell_of_heap hl rfl
  have d1 : w.cell? ⟨lk x.id, 1, none⟩ = some (.int .i64 x.cost) := fr_cell_of_heap hl rfl
  have hlk := fp_lt_of_heap hl
  clear hq hl
  go_enter Try.func84, Try.ntmps84
  go_wp2
  refine bodyPost_ret (v := .tuple #[.agg #[.int .i64 x.id, .int .i64 x.cost], .bool true]) (by simp [results, Try.results84, go_sem]) rfl ⟨rfl, ?_⟩
  exact box_below
set_option maxRecDepth 100000 in
set_option maxHeartbeats 1000000 in
theorem fifoLen_nil (w : World) : Calls Try.prog 55 #[.pointer none] w fun e w' => e = .returned (.int .i64 0) ∧ w = w' := by
  go_enter Try.func55, Try.ntmps55
  go_wp2
  go_ret
  exact ⟨rfl, rfl⟩
set_option maxRecDepth 100000 in
set_option maxHeartbeats 1000000 in
/-- THE WALK: Len. -/
theorem fifoLen_any (w : World) (hQ : QueAt pre ρ w q l) : Calls Try.prog 55 #[.pointer (some ⟨q, 0, none⟩)] w fun e w' => e = .returned (.int .i64 l.length) ∧ w = w' := by
  obtain ⟨m, lk, D, hq⟩ := hQ
  have HQ := Lib.hid hq
  have c2 := hq.c2
  clear hq
  go_enter Try.func55, Try.ntmps55
  go_wp2_with (at_len; refine wpList_len_own _ rfl _ 146 rfl 3 147 Try.underlying146 _ m _ D rfl HQ.out.map ?_)
  rw [HQ.out.size]
  go_wp2
  go_ret
  exact ⟨rfl, rfl⟩
end
end Go.Proofs.Ytohkchilogmneaa
