/-
  A whole struct stored into a fresh block; results that are structs.
  state: a checker's cells; New, Entry; what slices' functions tell of nothing: the walks.
  Slices of the call's own, over any program: what they read as, what an append leaves, when two lie apart.
  What a call may write: a frame, block by block; rows of structs that the call owns.
  state: what every Load tells of nothing: the walks.
-/
import Derived.Test.YtjmlimogmmikoaaGreatDoorSx01
import Derived.Laws.Rows
import Derived.Deep.WholeRow
import Derived.Test.YtjmlimogmmikoaaGreatDoorSx02
import Derived.Deep.AppendLies
import Derived.Lib.SliceRun
namespace Go.Proofs.YtjmlimogmmikoaaGreatDoor
open Go.RowKit
theorem wp_store_new {P : Program} {o : Oper} {a : Act} {w : World} {K : Act → World → Prop} {Q : Exit → Act → World → Prop} (ty : TypeId) (x y : Operand) (ho : o.op = .store ty x y)
    (g : Nat) (hgs : g = w.heap.size) (cells old : Array Value) (hx : a.eval x = .pointer (some ⟨g, 0, none⟩)) (hy : a.eval y = .agg cells) (t : TypeId)
    (hi : (P.info? ty).map (·.size) = some cells.size) (hold : old.size = cells.size) (h1 : cells.all (·.oneCell') = true)
    (h : K (a.put o.dst undef) (w.alloc (.cells cells t))) : o.wp P a (w.alloc (.cells old t)) K Q := by
  subst hgs
  refine wp_store_row ty x y ho w.heap.size cells hx hy t old (heap_alloc_new w _) hi hold h1 ?_
  rw [World.setRow_alloc_new]
  exact h
theorem heap_alloc_two (w : World) (a b : Obj) : ((w.alloc a).alloc b).heap[w.heap.size + 1]? = some b := by
  have h := heap_alloc_new (w.alloc a) b
  rwa [show (w.alloc a).heap.size = w.heap.size + 1 by simp] at h
theorem wpList_store_new {P : Program} {ops : Array Oper} {rest : List Oper} {o : Oper} {a : Act} {w : World} {Q : Exit → Act → World → Prop} {old : Array Value} {t : TypeId} (hgd : o.guard = none) (ty : TypeId) (x y : Operand) (ho : o.op = .store ty x y)
    (g : Nat) (hgs : g = w.heap.size) (cells : Array Value) (hx : a.eval x = .pointer (some ⟨g, 0, none⟩)) (hy : a.eval y = .agg cells)
    (hi : (P.info? ty).map (·.size) = some cells.size) (hold : old.size = cells.size) (h1 : cells.all (·.oneCell') = true)
    (h : wpList P ops Q rest (a.put o.dst undef) (w.alloc (.cells cells t))) : wpList P ops Q (o :: rest) a (w.alloc (.cells old t)) :=
  wpList_plain hgd fun _ hK => wp_store_new ty x y ho g hgs cells old hx hy t hi hold h1 (hK _ _ h)
section
variable {P : Program}
theorem results_row1 {fn : Func} {a : Act} {slot : Nat} {t t' : TypeId} {g : Nat} {cs : Array Value} {fr : Nat × Nat} {d : TypeDesc} {w : World} (hf : fn.results = #[.cell slot t]) (hs : a.tmps.getD slot undef = .pointer (some ⟨g, 0, none⟩))
    (hg : w.heap[g]? = some (.cells cs t' fr)) (hu : P.underlying t = some d) (hd : (match d with | .struct _ | .array _ _ => true | _ => false) = true) (hi : (P.info? t).map (·.size) = some cs.size) : (results fn a.tmps).run P w = .ok (.agg cs) w := by
  have h := run_loadVar_row (P := P) w g t' t cs fr d hg hu hd hi
  have hs' : a.tmps[slot]?.getD undef = .pointer (some ⟨g, 0, none⟩) := by simpa using hs
  simp [results, hf, asAddr, hs', h]
theorem results_row2 {fn : Func} {a : Act} {slot k : Nat} {t t' : TypeId} {g : Nat} {cs : Array Value} {fr : Nat × Nat} {d : TypeDesc} {v : Value} {w : World} (hf : fn.results = #[.cell slot t, .tmp k]) (hs : a.tmps.getD slot undef = .pointer (some ⟨g, 0, none⟩)) (hk : a.tmps.getD k undef = v)
    (hg : w.heap[g]? = some (.cells cs t' fr)) (hu : P.underlying t = some d) (hd : (match d with | .struct _ | .array _ _ => true | _ => false) = true) (hi : (P.info? t).map (·.size) = some cs.size) : (results fn a.tmps).run P w = .ok (.tuple #[.agg cs, v]) w := by
  have h := run_loadVar_row (P := P) w g t' t cs fr d hg hu hd hi
  have hs' : a.tmps[slot]?.getD undef = .pointer (some ⟨g, 0, none⟩) := by simpa using hs
  have hk' : a.tmps[k]?.getD undef = v := by simpa using hk
  simp [results, hf, asAddr, hs', hk', h]
end
end Go.Proofs.YtjmlimogmmikoaaGreatDoor
namespace Go.Proofs.YtjmlimogmmikoaaGreatDoor
open Go.RowKit
def cfA (tv lv : Value) (c : Cfg) : Array Value := #[tv, lv, .int .i64 c.q, .int .i64 c.cost, .int .i64 c.cap, .int .i64 c.invs, .int .i64 c.weight, .int .i64 c.pools, .int .i64 c.retries, .int .i64 c.preempts, .int .i64 c.base, .int .i64 c.most, .int .i64 c.lease, .int .i64 c.dead, .int .i64 c.keep, .int .i64 c.keys, .int .i64 c.percent, .int .i64 c.workers, .int .i64 c.watch]
theorem cfA_cells (tv lv : Value) (c : Cfg) : CfgCells (cfA tv lv c) tv lv c := ⟨rfl, rfl, rfl, rfl, rfl, rfl, rfl, rfl, rfl, rfl, rfl, rfl, rfl, rfl, rfl, rfl, rfl, rfl, rfl, rfl⟩
def stA (lw : Int) (ws : Value) : Array Value := #[.int .u64 0, .bool false, .int .i64 0, .int .i64 1, .int .i64 lw, .int .i64 0, .int .i64 0, .slice none 0 0, .slice none 0 0, ws, .slice none 0 0, .slice none 0 0, .slice none 0 0, .slice none 0 0, .slice none 0 0]
def ckA (lw : Int) (ws tv lv : Value) (c : Cfg) : Array Value := #[.int .u64 0, .bool false, .int .i64 0, .int .i64 1, .int .i64 lw, .int .i64 0, .int .i64 0, .slice none 0 0, .slice none 0 0, ws, .slice none 0 0, .slice none 0 0, .slice none 0 0, .slice none 0 0, .slice none 0 0,
  tv, lv, .int .i64 c.q, .int .i64 c.cost, .int .i64 c.cap, .int .i64 c.invs, .int .i64 c.weight, .int .i64 c.pools, .int .i64 c.retries, .int .i64 c.preempts, .int .i64 c.base, .int .i64 c.most, .int .i64 c.lease, .int .i64 c.dead, .int .i64 c.keep, .int .i64 c.keys, .int .i64 c.percent, .int .i64 c.workers, .int .i64 c.watch]
def BoolPost (b : Bool) (w : World) (e : Ending) (w' : World) : Prop := e = .returned (.bool b) ∧ Below w.heap.size w w'
theorem st_info : (Tryz.prog.info? 42).map (·.size) = some 15 := by kernel_rfl
set_option maxRecDepth 100000 in
set_option maxHeartbeats 1000000 in
theorem stnew_any (w : World) : Calls Tryz.prog 14 #[] w fun e w' => e = .returned (.agg (stA 0 (.slice none 0 0))) ∧ Below w.heap.size w w' := by
  go_enter Tryz.func14, Tryz.ntmps14
  go_wp2_with (refine wpList_store_new rfl 42 _ _ rfl w.heap.size ?a1 _ rfl rfl ?a2 ?a3 ?a4 ?_; (case a1 => rfl); (case a2 => exact st_info); (case a3 => rfl); (case a4 => simp [Value.oneCell']))
  refine bodyPost_ret (v := .agg (stA 0 (.slice none 0 0))) (results_row1 Tryz.results14 rfl (heap_alloc_new _ _) Tryz.underlying42 rfl st_info) rfl ⟨rfl, ?_⟩
  exact box_below
set_option maxHeartbeats 1000000 in
theorem ixNilOp (f : Value) (w : World) : Calls Tryz.prog 137 #[.slice none 0 0, f] w fun e w' => e = .returned (.int .i64 (-1)) ∧ w' = w := by
  go_enter Tryz.func137, Tryz.ntmps137
  go_wp2
  go_loopw [8] (fun i wr => i = .int .i64 0 ∧ wr = w) (fun i _ => 1)
  case atStart => exact ⟨rfl, rfl⟩
  case round =>
    obtain ⟨rfl, rfl⟩ := hrel
    go_wp2
    go_ret
    exact ⟨rfl, rfl⟩
set_option maxHeartbeats 1000000 in
theorem hasNilOp (f : Value) (w : World) : Calls Tryz.prog 71 #[.slice none 0 0, f] w fun e w' => e = .returned (.bool false) ∧ w' = w := by
  go_enter Tryz.func71, Tryz.ntmps71
  go_wp2_with fail
  refine (ixNilOp f _).mono ?_
  rintro e w2 ⟨rfl, rfl⟩
  go_wp2
  go_ret
  exact ⟨rfl, rfl⟩
set_option maxHeartbeats 1000000 in
theorem ixNilInv (f : Value) (w : World) : Calls Tryz.prog 142 #[.slice none 0 0, f] w fun e w' => e = .returned (.int .i64 (-1)) ∧ w' = w := by
  go_enter Tryz.func142, Tryz.ntmps142
  go_wp2
  go_loopw [8] (fun i wr => i = .int .i64 0 ∧ wr = w) (fun i _ => 1)
  case atStart => exact ⟨rfl, rfl⟩
  case round =>
    obtain ⟨rfl, rfl⟩ := hrel
    go_wp2
    go_ret
    exact ⟨rfl, rfl⟩
set_option maxHeartbeats 1000000 in
theorem hasNilInv (f : Value) (w : World) : Calls Tryz.prog 74 #[.slice none 0 0, f] w fun e w' => e = .returned (.bool false) ∧ w' = w := by
  go_enter Tryz.func74, Tryz.ntmps74
  go_wp2_with fail
  refine (ixNilInv f _).mono ?_
  rintro e w2 ⟨rfl, rfl⟩
  go_wp2
  go_ret
  exact ⟨rfl, rfl⟩
set_option maxHeartbeats 1000000 in
theorem ixNilPRow (f : Value) (w : World) : Calls Tryz.prog 152 #[.slice none 0 0, f] w fun e w' => e = .returned (.int .i64 (-1)) ∧ w' = w := by
  go_enter Tryz.func152, Tryz.ntmps152
  go_wp2
  go_loopw [8] (fun i wr => i = .int .i64 0 ∧ wr = w) (fun i _ => 1)
  case atStart => exact ⟨rfl, rfl⟩
  case round =>
    obtain ⟨rfl, rfl⟩ := hrel
    go_wp2
    go_ret
    exact ⟨rfl, rfl⟩
set_option maxHeartbeats 1000000 in
theorem hasNilPRow (f : Value) (w : World) : Calls Tryz.prog 83 #[.slice none 0 0, f] w fun e w' => e = .returned (.bool false) ∧ w' = w := by
  go_enter Tryz.func83, Tryz.ntmps83
  go_wp2_with fail
  refine (ixNilPRow f _).mono ?_
  rintro e w2 ⟨rfl, rfl⟩
  go_wp2
  go_ret
  exact ⟨rfl, rfl⟩
set_option maxHeartbeats 1000000 in
theorem ixNilWk (f : Value) (w : World) : Calls Tryz.prog 155 #[.slice none 0 0, f] w fun e w' => e = .returned (.int .i64 (-1)) ∧ w' = w := by
  go_enter Tryz.func155, Tryz.ntmps155
  go_wp2
  go_loopw [8] (fun i wr => i = .int .i64 0 ∧ wr = w) (fun i _ => 1)
  case atStart => exact ⟨rfl, rfl⟩
  case round =>
    obtain ⟨rfl, rfl⟩ := hrel
    go_wp2
    go_ret
    exact ⟨rfl, rfl⟩
set_option maxHeartbeats 1000000 in
theorem hasNilWk (f : Value) (w : World) : Calls Tryz.prog 91 #[.slice none 0 0, f] w fun e w' => e = .returned (.bool false) ∧ w' = w := by
  go_enter Tryz.func91, Tryz.ntmps91
  go_wp2_with fail
  refine (ixNilWk f _).mono ?_
  rintro e w2 ⟨rfl, rfl⟩
  go_wp2
  go_ret
  exact ⟨rfl, rfl⟩
set_option maxHeartbeats 1000000 in
theorem ixNilWt (f : Value) (w : World) : Calls Tryz.prog 164 #[.slice none 0 0, f] w fun e w' => e = .returned (.int .i64 (-1)) ∧ w' = w := by
  go_enter Tryz.func164, Tryz.ntmps164
  go_wp2
  go_loopw [8] (fun i wr => i = .int .i64 0 ∧ wr = w) (fun i _ => 1)
  case atStart => exact ⟨rfl, rfl⟩
  case round =>
    obtain ⟨rfl, rfl⟩ := hrel
    go_wp2
    go_ret
    exact ⟨rfl, rfl⟩
set_option maxHeartbeats 1000000 in
theorem hasNilWt (f : Value) (w : World) : Calls Tryz.prog 96 #[.slice none 0 0, f] w fun e w' => e = .returned (.bool false) ∧ w' = w := by
  go_enter Tryz.func96, Tryz.ntmps96
  go_wp2_with fail
  refine (ixNilWt f _).mono ?_
  rintro e w2 ⟨rfl, rfl⟩
  go_wp2
  go_ret
  exact ⟨rfl, rfl⟩
end Go.Proofs.YtjmlimogmmikoaaGreatDoor
namespace Go.Proofs.YtjmlimogmmikoaaGreatDoor
open Go.RowKit
theorem own_cells {w : World} {base size : Nat} {e : TypeId} {v : Value} {n : Nat} {xs : List Value} (h : w.ownsRow base e size v n xs) :
    ∃ a cap, v = .slice a n cap ∧ n ≤ cap ∧ cap ≤ maxLen ∧ xs.length = n * size ∧ ∀ i u, xs[i]? = some u → ∃ g, a = some ⟨g, 0, none⟩ ∧ base ≤ g ∧ g < w.heap.size ∧ w.cell? ⟨g, i, none⟩ = some u ∧ w.frozen? ⟨g, i, none⟩ = false := by
  obtain ⟨hl, ⟨rfl, rfl⟩ | ⟨g, cap, cur, rfl, hg, hb, hn, hc, hcs, htk⟩⟩ := h
  · refine ⟨none, 0, rfl, Nat.le_refl _, by unfold maxLen; omega, hl, fun i u hu => ?_⟩
    rw [List.getElem?_eq_none (by omega)] at hu
    cases hu
  · refine ⟨_, cap, rfl, hn, hc, hl, fun i u hu => ⟨g, rfl, hg, (Array.getElem?_eq_some_iff.1 hb).1, ?_, by simp [World.frozen?, hb]⟩⟩
    have hi : i < n * size := by
      rcases Nat.lt_or_ge i (n * size) with h | h
      · exact h
      · rw [List.getElem?_eq_none (by omega)] at hu; cases hu
    rw [← htk, List.getElem?_take_of_lt (by omega)] at hu
    have h2 : cur[i]? = some u := by simpa using hu
    simp [World.cell?, hb, h2]
theorem own_below {w w' : World} {base size : Nat} {e : TypeId} {v : Value} {n : Nat} {xs : List Value} (h : w.ownsRow base e size v n xs) (hb : Below w.heap.size w w') : w'.ownsRow base e size v n xs := by
  obtain ⟨hl, ⟨rfl, rfl⟩ | ⟨g, cap, cur, rfl, hg, hh, hr⟩⟩ := h
  · exact ⟨hl, .inl ⟨rfl, rfl⟩⟩
  · exact ⟨hl, .inr ⟨g, cap, cur, rfl, hg, (hb.block g (Array.getElem?_eq_some_iff.1 hh).1).trans hh, hr⟩⟩
theorem own_nil (w : World) (base size : Nat) (e : TypeId) : w.ownsRow base e size (.slice none 0 0) 0 [] := ⟨by simp, .inl ⟨rfl, rfl⟩⟩
theorem own_base {w : World} {base b size : Nat} {e : TypeId} {v : Value} {n : Nat} {xs : List Value} (h : w.ownsRow base e size v n xs) (hb : b ≤ base) : w.ownsRow b e size v n xs := by
  obtain ⟨hl, ⟨rfl, rfl⟩ | ⟨g, cap, cur, rfl, hg, hr⟩⟩ := h
  · exact ⟨hl, .inl ⟨rfl, rfl⟩⟩
  · exact ⟨hl, .inr ⟨g, cap, cur, rfl, by omega, hr⟩⟩
theorem own_block {w : World} {base size : Nat} {e : TypeId} {v : Value} {n : Nat} {xs : List Value} (h : w.ownsRow base e size v n xs) : ∀ j, v.ownBlock = some j → base ≤ j := by
  obtain ⟨hl, ⟨rfl, rfl⟩ | ⟨g, cap, cur, rfl, hg, hr⟩⟩ := h
  · intro j hj; cases hj
  · intro j hj
    simp only [Value.ownBlock, Option.some.injEq] at hj
    subst hj
    exact hg
theorem wpList_append_row {P : Program} {w : World} {us : Array Value} {e : TypeId} {ops : Array Oper} {rest : List Oper} {o : Oper} {a : Act} {Q : Exit → Act → World → Prop} (hgd : o.guard = none) (s x : Operand) (t : TypeId)
    (hop : o.op = Op.call { callee := Callee.builtin Builtin.append, args := #[s, x], argTypes := #[t, t] }) (base : Nat) (z : Value) (size bytes : Nat)
    (ht : P.underlying t = some (TypeDesc.slice e)) (hinfo : (P.info? e).map (fun i => (i.zero, i.size, i.bytes)) = some (some z, size, bytes)) (hz : z.cells.size = size) (hsz : 0 < size)
    (v : Value) (n : Nat) (xs : List Value) (hs : a.eval s = v) (hown : w.ownsRow base e size v n xs) (hx : a.eval x = Value.slice (some ⟨w.heap.size, 0, none⟩) 1 1)
    (hus : us.size = size) (hu : ∀ u ∈ us.toList, u.oneCell' = true) (hb : base ≤ w.heap.size) (hn : n < 140737488355328) (hby : (n + 1) * bytes ≤ 140737488355328)
    (hK : ∀ (v' : Value) (w' : World), w'.ownsRow base e size v' (n + 1) (xs ++ us.toList) → w.grownBy w' v.ownBlock → v' ≠ Value.slice none 0 0 →
      wpList P ops Q rest (a.put o.dst v') w') :
    wpList P ops Q (o :: rest) a (w.alloc (.cells us e)) := by
  obtain ⟨i0, hi, hz0, hz1, hz2⟩ := info_parts hinfo
  refine wpList_append_own _ hgd s x t hop base e i0 z size bytes ht hi hz0 hz1 hz2 hz hsz v n xs hs (hown.alloc _) ⟨w.heap.size, 0, none⟩ 1 1 us.toList hx (by simpa using hus) ?_ hu ?_ hby ?_ ?_
  · intro j u hj
    have e1 : (⟨w.heap.size, 0, none⟩ : Addr).add j = ⟨w.heap.size, j, none⟩ := by unfold Addr.add; split <;> simp_all
    rw [e1]
    exact cell_alloc_at (by simpa using hj)
  · unfold maxLen; omega
  · simp; omega
  · intro v' w' h1 h2 h3
    refine hK v' w' h1 ⟨h2.os, h2.tape, h2.output, by have := h2.size; simp at this; omega, fun k hk hne => ?_⟩ ?_
    · rw [h2.block k (by simp; omega) hne]
      exact Below.heap_alloc _ _ _ hk
    · intro he
      have := (h3.1 he).2
      omega
theorem own_empty {w : World} {b size : Nat} {t : TypeId} (hb : b ≤ w.heap.size) : (w.alloc (.cells #[] t)).ownsRow b t size (.slice (some ⟨w.heap.size, 0, none⟩) 0 0) 0 [] :=
  ⟨by simp, .inr ⟨w.heap.size, 0, #[], rfl, hb, heap_alloc_new w _, Nat.le_refl _, by unfold maxLen; omega, by simp, by simp⟩⟩
theorem own_apart {w : World} {b1 b2 s1 s2 n1 n2 : Nat} {e1 e2 : TypeId} {v1 v2 : Value} {xs1 xs2 : List Value} (h1 : w.ownsRow b1 e1 s1 v1 n1 xs1) (h2 : w.ownsRow b2 e2 s2 v2 n2 xs2) (hne : e1 ≠ e2) : v1.ownBlock = none ∨ v1.ownBlock ≠ v2.ownBlock := by
  obtain ⟨_, ⟨rfl, _⟩ | ⟨g, cap, cur, rfl, _, hb, _⟩⟩ := h1
  · exact .inl rfl
  · refine .inr fun e => ?_
    obtain ⟨_, ⟨rfl, _⟩ | ⟨g', cap', cur', rfl, _, hb', _⟩⟩ := h2
    · cases e
    · simp only [Value.ownBlock, Option.some.injEq] at e
      subst e
      rw [hb] at hb'
      simp only [Option.some.injEq, Obj.cells.injEq] at hb'
      exact hne hb'.2.1
theorem below_drewN {B : Nat} {w w' : World} (h : Below B w w') (n : Nat) : Below B w (w'.drewN n) := ⟨h.os, h.tape, h.output, h.size, h.block⟩
theorem wpList_append_at {P : Program} {w : World} {us : Array Value} {e : TypeId} {ops : Array Oper} {rest : List Oper} {o : Oper} {a : Act} {Q : Exit → Act → World → Prop} (hgd : o.guard = none) (s x : Operand) (t : TypeId)
    (hop : o.op = Op.call { callee := Callee.builtin Builtin.append, args := #[s, x], argTypes := #[t, t] }) (base : Nat) (z : Value) (size bytes : Nat)
    (ht : P.underlying t = some (TypeDesc.slice e)) (hinfo : (P.info? e).map (fun i => (i.zero, i.size, i.bytes)) = some (some z, size, bytes)) (hz : z.cells.size = size) (hsz : 0 < size)
    (v : Value) (n : Nat) (xs : List Value) (hs : a.eval s = v) (hown : w.ownsRow base e size v n xs) (hx : a.eval x = Value.slice (some ⟨w.heap.size, 0, none⟩) 1 1)
    (hus : us.size = size) (hu : ∀ u ∈ us.toList, u.oneCell' = true) (hb : base ≤ w.heap.size) (hn : n < 140737488355328) (hby : (n + 1) * bytes ≤ 140737488355328)
    (hK : ∀ (g cap : Nat) (w' : World), w'.ownsRow base e size (.slice (some ⟨g, 0, none⟩) (n + 1) cap) (n + 1) (xs ++ us.toList) → w.grownBy w' v.ownBlock → (v.ownBlock = some g ∨ w.heap.size ≤ g) →
      wpList P ops Q rest (a.put o.dst (.slice (some ⟨g, 0, none⟩) (n + 1) cap)) w') :
    wpList P ops Q (o :: rest) a (w.alloc (.cells us e)) := by
  obtain ⟨i0, hi, hz0, hz1, hz2⟩ := info_parts hinfo
  refine wpList_append_lies _ hgd s x t hop base e i0 z size bytes ht hi hz0 hz1 hz2 hz hsz v n xs hs (hown.alloc _) ⟨w.heap.size, 0, none⟩ 1 1 us.toList hx (by simpa using hus) ?_ hu (by omega) ?_ hby ?_ (w.heap.size + 1) (by simp) ?_
  · intro j u hj
    have e1 : (⟨w.heap.size, 0, none⟩ : Addr).add j = ⟨w.heap.size, j, none⟩ := by unfold Addr.add; split <;> simp_all
    rw [e1]
    exact cell_alloc_at (by simpa using hj)
  · unfold maxLen; omega
  · simp; omega
  · intro g cap w' h1 h2 h3 _
    refine hK g cap w' h1 ⟨h2.os, h2.tape, h2.output, by have := h2.size; simp at this; omega, fun k hk hne => ?_⟩ ?_
    · rw [h2.block k (by simp; omega) hne]
      exact Below.heap_alloc _ _ _ hk
    · rcases h3 with h | h
      · exact .inl h
      · exact .inr (by omega)
def Apart (v u : Value) : Prop := ∀ g, v.ownBlock = some g → u.ownBlock ≠ some g
theorem Apart.symm {v u : Value} (h : Apart v u) : Apart u v := fun g h1 h2 => h g h2 h1
theorem Apart.kept {v u : Value} (h : Apart v u) : v.ownBlock = none ∨ v.ownBlock ≠ u.ownBlock := by
  rcases hv : v.ownBlock with _ | g
  · exact .inl rfl
  · exact .inr fun e => h g hv e.symm
theorem apart_new {w : World} {b size n : Nat} {e : TypeId} {v : Value} {xs : List Value} (h : w.ownsRow b e size v n xs) {g m cap : Nat} (hg : w.heap.size ≤ g) : Apart (.slice (some ⟨g, 0, none⟩) m cap) v := by
  intro j hj h2
  simp only [Value.ownBlock, Option.some.injEq] at hj
  subst hj
  obtain ⟨_, ⟨rfl, _⟩ | ⟨g', cap', cur, rfl, _, hb, _⟩⟩ := h
  · cases h2
  · simp only [Value.ownBlock, Option.some.injEq] at h2
    subst h2
    have := (Array.getElem?_eq_some_iff.1 hb).1
    omega
theorem Apart.append {w : World} {b size n : Nat} {e : TypeId} {u v : Value} {xs : List Value} {g m cap : Nat} (h : Apart v u) (hu : w.ownsRow b e size u n xs) (hat : v.ownBlock = some g ∨ w.heap.size ≤ g) : Apart (.slice (some ⟨g, 0, none⟩) m cap) u := by
  rcases hat with hv | hg
  · intro j hj
    simp only [Value.ownBlock, Option.some.injEq] at hj
    subst hj
    exact h _ hv
  · exact apart_new hu hg
end Go.Proofs.YtjmlimogmmikoaaGreatDoor
namespace Go.Proofs.YtjmlimogmmikoaaGreatDoor
open Go.RowKit
structure Fr (S : List Nat) (w w' : World) : Prop where
  os : w'.os = w.os
  tape : w'.tape = w.tape
  output : w'.output = w.output
  size : w.heap.size ≤ w'.heap.size
  block : ∀ k, k < w.heap.size → k ∉ S → w'.heap[k]? = w.heap[k]?
theorem Fr.refl (S : List Nat) (w : World) : Fr S w w := ⟨rfl, rfl, rfl, Nat.le_refl _, fun _ _ _ => rfl⟩
theorem Fr.trans {S S' : List Nat} {w w1 w2 : World} (h : Fr S w w1) (h' : Fr S' w1 w2) (hs : ∀ k ∈ S', k ∈ S ∨ w.heap.size ≤ k) : Fr S w w2 :=
  ⟨h'.os.trans h.os, h'.tape.trans h.tape, h'.output.trans h.output, Nat.le_trans h.size h'.size, fun k hk hn => (h'.block k (Nat.lt_of_lt_of_le hk h.size) (fun hm => by
    rcases hs k hm with h1 | h1
    · exact hn h1
    · omega)).trans (h.block k hk hn)⟩
theorem Fr.of_below {S : List Nat} {w w' : World} (h : Below w.heap.size w w') : Fr S w w' := ⟨h.os, h.tape, h.output, h.size, fun k hk _ => h.block k hk⟩
theorem Fr.below {S : List Nat} {B : Nat} {w w' : World} (h : Fr S w w') (hB : B ≤ w.heap.size) (hS : ∀ k ∈ S, B ≤ k) : Below B w w' :=
  ⟨h.os, h.tape, h.output, h.size, fun k hk => h.block k (by omega) (fun hm => by have := hS k hm; omega)⟩
theorem Fr.then_below {S : List Nat} {w w1 w2 : World} (h : Fr S w w1) (h' : Below w1.heap.size w1 w2) : Fr S w w2 := h.trans (S' := []) (Fr.of_below h') (fun k hk => by cases hk)
theorem Fr.mono {S S' : List Nat} {w w' : World} (h : Fr S w w') (hs : ∀ k ∈ S, k ∈ S') : Fr S' w w' := ⟨h.os, h.tape, h.output, h.size, fun k hk hn => h.block k hk (fun hm => hn (hs k hm))⟩
theorem Fr.drew {S : List Nat} {w w' : World} (h : Fr S w w') : Fr S w w'.drew := ⟨h.os, h.tape, h.output, h.size, h.block⟩
theorem Fr.alloc {S : List Nat} {w w' : World} (h : Fr S w w') (o : Obj) : Fr S w (w'.alloc o) := h.then_below ((Below.refl _ _).alloc (Nat.le_refl _) _)
theorem Fr.setCell {S : List Nat} {w w' : World} (h : Fr S w w') {p : Addr} (hp : p.block ∈ S ∨ w.heap.size ≤ p.block) (u : Value) : Fr S w (w'.setCell p u) :=
  h.trans (S' := [p.block]) ⟨rfl, rfl, rfl, by simp [World.setCell], fun k _ hn => Below.heap_setCell _ _ _ _ (fun e => hn (by simp [e]))⟩ (fun k hk => by
    rw [List.mem_singleton] at hk
    subst hk
    exact hp)
theorem Fr.grown {S : List Nat} {w w1 w2 : World} {row : Option Nat} (h : Fr S w w1) (hg : w1.grownBy w2 row) (hr : ∀ k, row = some k → k ∈ S ∨ w.heap.size ≤ k) : Fr S w w2 :=
  h.trans (S' := row.toList) ⟨hg.os, hg.tape, hg.output, hg.size, fun k hk hn => hg.block k hk (fun e => hn (by rw [← e]; simp))⟩ (fun k hk => hr k (by simpa using hk))
theorem Fr.cell {S : List Nat} {w w' : World} (h : Fr S w w') {a : Addr} {v : Value} (hc : w.cell? a = some v) (hS : a.block ∉ S) : w'.cell? a = some v := by
  rw [World.cell?_of_block (w := w) (h.block a.block (World.block_lt_of_cell? w a hc) hS)]
  exact hc
theorem Fr.heap {S : List Nat} {w w' : World} (h : Fr S w w') {k : Nat} {o : Obj} (hc : w.heap[k]? = some o) (hS : k ∉ S) : w'.heap[k]? = some o :=
  (h.block k (Array.getElem?_eq_some_iff.1 hc).1 hS).trans hc
theorem Fr.own {S : List Nat} {w w' : World} {base size : Nat} {e : TypeId} {v : Value} {n : Nat} {xs : List Value} (h : Fr S w w') (ho : w.ownsRow base e size v n xs) (hS : ∀ k, v.ownBlock = some k → k ∉ S) : w'.ownsRow base e size v n xs := by
  obtain ⟨hl, ⟨rfl, rfl⟩ | ⟨g, cap, cur, rfl, hg, hh, hr⟩⟩ := ho
  · exact ⟨hl, .inl ⟨rfl, rfl⟩⟩
  · exact ⟨hl, .inr ⟨g, cap, cur, rfl, hg, h.heap hh (hS g rfl), hr⟩⟩
def blk (v : Value) : List Nat := v.ownBlock.toList
theorem mem_blk {v : Value} {k : Nat} : k ∈ blk v ↔ v.ownBlock = some k := by unfold blk; simp
theorem blk_slice (g n cap : Nat) : blk (.slice (some ⟨g, 0, none⟩) n cap) = [g] := rfl
theorem own_blk {w : World} {base size : Nat} {e : TypeId} {v : Value} {n : Nat} {xs : List Value} (h : w.ownsRow base e size v n xs) : ∀ k ∈ blk v, base ≤ k := fun k hk => own_block h k (mem_blk.1 hk)
theorem own_lt {w : World} {base size : Nat} {e : TypeId} {v : Value} {n : Nat} {xs : List Value} (h : w.ownsRow base e size v n xs) : ∀ k ∈ blk v, k < w.heap.size := by
  intro k hk
  rw [mem_blk] at hk
  obtain ⟨_, ⟨rfl, _⟩ | ⟨g, cap, cur, rfl, _, hh, _⟩⟩ := h
  · cases hk
  · simp only [Value.ownBlock, Option.some.injEq] at hk
    subst hk
    exact (Array.getElem?_eq_some_iff.1 hh).1
theorem fr_cell_of_heap {w : World} {g i : Nat} {cs : Array Value} {t : TypeId} {fr : Nat × Nat} {v : Value} (h : w.heap[g]? = some (.cells cs t fr)) (hi : cs[i]? = some v) : w.cell? ⟨g, i, none⟩ = some v := by
  simp [World.cell?, h, hi]
theorem fr_free_of_heap {w : World} {g i : Nat} {cs : Array Value} {t : TypeId} (h : w.heap[g]? = some (.cells cs t (0, 0))) : w.frozen? ⟨g, i, none⟩ = false := by
  simp [World.frozen?, h]
theorem fr_setCell_at {w : World} {g i : Nat} {cs : Array Value} {t : TypeId} {fr : Nat × Nat} {v : Value} (h : w.heap[g]? = some (.cells cs t fr)) : (w.setCell ⟨g, i, none⟩ v).heap[g]? = some (.cells (cs.setIfInBounds i v) t fr) := by
  simp only [World.setCell, Array.getElem?_modify, h]
  simp
theorem fr_setCell_other {w : World} {g k i : Nat} {v : Value} (h : k ≠ g) : (w.setCell ⟨g, i, none⟩ v).heap[k]? = w.heap[k]? := by
  simp only [World.setCell, Array.getElem?_modify]
  simp [Ne.symm h]
theorem fr_alloc_at {w : World} {o : Obj} : (w.alloc o).heap[w.heap.size]? = some o := by
  show (w.heap.push o)[w.heap.size]? = _
  simp
theorem fr_alloc_old {w : World} {o p : Obj} {k : Nat} (h : w.heap[k]? = some p) : (w.alloc o).heap[k]? = some p := by
  rw [Below.heap_alloc _ _ _ (Array.getElem?_eq_some_iff.1 h).1]
  exact h
theorem bcell {W w1 : World} (hb : Below W.heap.size W w1) : (∀ b o, b < W.heap.size → w1.cell? ⟨b, o, none⟩ = W.cell? ⟨b, o, none⟩) ∧ (∀ b o, b < W.heap.size → w1.frozen? ⟨b, o, none⟩ = W.frozen? ⟨b, o, none⟩) :=
  ⟨fun b o h => hb.cell (p := ⟨b, o, none⟩) h, fun b o h => hb.frozen (p := ⟨b, o, none⟩) h⟩
/-! ### Rows of structs -/
section
variable {α : Type} (enc : α → List Value) (K : Nat) (hK : ∀ x, (enc x).length = K)
theorem flat_len (hK : ∀ x, (enc x).length = K) : ∀ l : List α, (l.flatMap enc).length = l.length * K
  | [] => by simp
  | x :: r => by rw [List.flatMap_cons, List.length_append, flat_len hK r, hK, List.length_cons, Nat.succ_mul]; omega
theorem flat_at (hK : ∀ x, (enc x).length = K) : ∀ {l : List α} {j : Nat} {x : α} (i : Nat), l[j]? = some x → i < K → (l.flatMap enc)[j * K + i]? = (enc x)[i]?
  | [], _, _, _, h, _ => by simp at h
  | y :: r, 0, x, i, h, hi => by
    simp at h
    subst h
    rw [List.flatMap_cons, List.getElem?_append_left (by rw [hK]; omega)]
    simp
  | y :: r, j + 1, x, i, h, hi => by
    have ih := flat_at hK (l := r) (j := j) i (by simpa using h) hi
    rw [List.flatMap_cons, List.getElem?_append_right (by rw [hK, Nat.succ_mul]; omega), hK, ← ih]
    congr 1
    rw [Nat.succ_mul]
    omega
end
end Go.Proofs.YtjmlimogmmikoaaGreatDoor
namespace Go.Proofs.YtjmlimogmmikoaaGreatDoor
open Go.RowKit
def MadePost (w : World) (e : Ending) (w' : World) : Prop := (∃ b : Nat, e = .returned (.tuple #[.pointer (some ⟨b, 0, none⟩), .bool true])) ∧ Below w.heap.size w w'
def BoxPost (T : TypeId) (cs : Array Value → Prop) (w : World) (e : Ending) (w' : World) : Prop := ∃ (b : Nat) (us : Array Value), e = .returned (.pointer (some ⟨b, 0, none⟩)) ∧ w.heap.size ≤ b ∧ w'.heap[b]? = some (.cells us T (0, 0)) ∧ cs us ∧ Below w.heap.size w w'
theorem heap_alloc_three (w : World) (a b c : Obj) : (((w.alloc a).alloc b).alloc c).heap[w.heap.size + 1 + 1]? = some c := by
  have h := heap_alloc_two (w.alloc a) b c
  rwa [show (w.alloc a).heap.size = w.heap.size + 1 by simp] at h
theorem info_letter : ∃ i : TypeInfo, Tryz.prog.info? 90 = some i ∧ i.zero = some (.agg #[.int .i64 0, .int .i64 0, .int .i64 0, .int .i64 0, .string ⟨#[]⟩, .int .u64 0]) ∧ i.size = 6 ∧ i.bytes ≤ 1000 := by
  have h : ((Tryz.prog.info? 90).map fun i => (i.zero, i.size, decide (i.bytes ≤ 1000))) = some (some (.agg #[.int .i64 0, .int .i64 0, .int .i64 0, .int .i64 0, .string ⟨#[]⟩, .int .u64 0]), 6, true) := by kernel_rfl
  obtain ⟨i, hi, he⟩ := Option.map_eq_some_iff.1 h
  simp only [Prod.mk.injEq, decide_eq_true_eq] at he
  exact ⟨i, hi, he.1, he.2.1, he.2.2⟩
set_option maxRecDepth 100000 in
set_option maxHeartbeats 1000000 in
theorem opsnew_some (keep : Int) (w : World) (h : 1 ≤ keep) : Calls Tryz.prog 130 #[.int .i64 keep] w (BoxPost 206 (fun us => ∃ m1 m2, us = #[.int .i64 keep, .int .i64 1, .slice none 0 0, .slice none 0 0, m1, m2]) w) := by
  have hmm := @run_makeMap Tryz.prog
  go_enter Tryz.func130, Tryz.ntmps130
  go_wp2
  go_ret
  exact ⟨_, _, rfl, by omega, heap_alloc_three _ _ _ _, ⟨_, _, rfl⟩, (box_below.alloc (by simp) _).alloc (by simp; omega) _⟩
set_option maxRecDepth 100000 in
set_option maxHeartbeats 1000000 in
theorem deadnew_some (n : Int) (w : World) (h : 1 ≤ n) (h1 : n ≤ 1000) : Calls Tryz.prog 160 #[.int .i64 n] w (BoxPost 307 (fun us => ∃ v, us = #[v, .int .i64 0, .int .i64 0]) w) := by
  obtain ⟨i, hi, hz, hs, hb⟩ := info_letter
  have hbn : (i.bytes : Int) * n ≤ 1000 * 1000 := Int.mul_le_mul (by omega) h1 (by omega) (by omega)
  have hmk := run_make (P := Tryz.prog) (w := w) 32 90 i _ Tryz.underlying32 hi hz .i64 .i64 n n (by omega) (Int.le_refl _) (by omega) (by omega)
  clear hbn
  clear hi hz hs hb
  go_enter Tryz.func160, Tryz.ntmps160
  go_wp2
  go_ret
  exact ⟨_, _, rfl, by omega, heap_alloc_two _ _ _, ⟨_, rfl⟩, box_below.alloc (by simp) _⟩
set_option maxRecDepth 100000 in
set_option maxHeartbeats 1000000 in
theorem watchnew_some (n : Int) (w : World) (h : 0 ≤ n) : Calls Tryz.prog 162 #[.int .i64 n] w (BoxPost 311 (fun us => us = #[.int .i64 n, .slice none 0 0]) w) := by
  go_enter Tryz.func162, Tryz.ntmps162
  go_wp2
  go_ret
  exact ⟨_, _, rfl, by simp, heap_alloc_new _ _, rfl, box_below⟩
set_option maxRecDepth 100000 in
set_option maxHeartbeats 1000000 in
theorem lrunew_some (n : Int) (w : World) (h : 1 ≤ n) : Calls Tryz.prog 196 #[.int .i64 n] w (BoxPost 298 (fun us => ∃ a b, us = #[.int .i64 n, a, b]) w) := by
  have hmm := @run_makeMap Tryz.prog
  go_enter Tryz.func196, Tryz.ntmps196
  go_wp2
  go_ret
  exact ⟨_, _, rfl, by omega, heap_alloc_three _ _ _ _, ⟨_, _, rfl⟩, (box_below.alloc (by simp) _).alloc (by simp; omega) _⟩
set_option maxRecDepth 100000 in
set_option maxHeartbeats 1000000 in
theorem historynew_some (n : Int) (w : World) (h : 1 ≤ n) : Calls Tryz.prog 156 #[.int .i64 n] w (BoxPost 247 (fun _ => True) w) := by
  go_enter Tryz.func156, Tryz.ntmps156
  go_wp2_with fail
  refine (lrunew_some n _ h).mono ?_
  rintro e w1 ⟨b, us, rfl, hb, _, _, hb1⟩
  go_wp2
  go_ret
  exact ⟨_, _, rfl, hb1.size, heap_alloc_new _ _, trivial, hb1.alloc hb1.size _⟩
set_option maxRecDepth 100000 in
set_option maxHeartbeats 1000000 in
theorem sharenew_some (q : Int) (w : World) (h : 1 ≤ q) (h1 : q ≤ 64) : Calls Tryz.prog 222 #[.int .i64 q] w (BoxPost 367 (fun _ => True) w) := by
  go_enter Tryz.func222, Tryz.ntmps222
  go_wp2
  go_ret
  exact ⟨_, _, rfl, by omega, heap_alloc_two _ _ _, trivial, box_below.alloc (by simp) _⟩
set_option maxRecDepth 100000 in
set_option maxHeartbeats 1000000 in
theorem poolnew_some (a m q : Int) (w : World) (ha : 1 ≤ a) (hm : 1 ≤ m) (h : 1 ≤ q) (h1 : q ≤ 64) : Calls Tryz.prog 189 #[.int .i64 a, .int .i64 m, .int .i64 q] w (BoxPost 235 (fun us => us = #[.int .i64 a, .int .i64 m, .int .i64 q, .int .i64 0, .slice none 0 0]) w) := by
  go_enter Tryz.func189, Tryz.ntmps189
  go_wp2_with fail
  refine (sharenew_some q _ h h1).mono ?_
  rintro e w1 ⟨b, us, rfl, hb, _, _, hb1⟩
  go_wp2
  go_ret
  exact ⟨_, _, rfl, hb1.size, heap_alloc_new _ _, rfl, hb1.alloc hb1.size _⟩
theorem wpList_builtN {P : Program} {ops : Array Oper} {rest : List Oper} {o : Oper} {a : Act} {w : World} {Q : Exit → Act → World → Prop} (hg : o.guard = none) (t : TypeId) (parts : Array (Nat × Operand)) (ho : o.op = .build t parts) (ps : List (Nat × Value))
    (hps : (parts.map fun (i, x) => (i, a.eval x)).toList = ps) {cells : Array Value} (hb : P.built t ps = some cells) (h : wpList P ops Q rest (a.put o.dst (.agg cells)) w) : wpList P ops Q (o :: rest) a w :=
  wpList_build hg t parts ho (by rw [hps, hb]; rfl) (by rw [hps, hb]; exact h)
def ivA (tv lv : Value) (c : Cfg) (last : Int) (m1 m2 : Value) : Array Value := #[tv, lv, .int .i64 c.q, .int .i64 c.cost, .int .i64 c.cap, .int .i64 c.invs, .int .i64 c.weight, .int .i64 c.pools, .int .i64 c.retries, .int .i64 c.preempts, .int .i64 c.base, .int .i64 c.most, .int .i64 c.lease, .int .i64 c.dead, .int .i64 c.keep, .int .i64 c.keys, .int .i64 c.percent, .int .i64 c.workers, .int .i64 c.watch, .int .i64 last, m1, m2]
theorem built_invs (tv lv : Value) (c : Cfg) (m1 m2 : Option Nat) : Tryz.prog.built 218 [(0, .agg (cfA tv lv c)), (2, .map m1), (3, .map m2)] = some (ivA tv lv c 0 (.map m1) (.map m2)) := by kernel_rfl
set_option maxRecDepth 100000 in
set_option maxHeartbeats 1000000 in
theorem invocnew_some (tv lv : Value) (c : Cfg) (w : World) (hC : CfgAt w tv lv c) (h : checkE c = 0) : Calls Tryz.prog 138 #[.agg (cfA tv lv c)] w (BoxPost 218 (fun us => ∃ m1 m2, us = ivA tv lv c 0 m1 m2) w) := by
  have hmm := @run_makeMap Tryz.prog
  have HC := Lib.hid (hC.below (box_below (o := .cells (cfA tv lv c) 25)))
  have HE := Lib.hid h
  clear hC h
  go_enter Tryz.func138, Tryz.ntmps138
  go_wp2_with (refine wpList_load_agg 25 (heap_alloc_new w _) Tryz.underlying25 rfl cfg_info rfl _ rfl rfl ?_)
  refine (check_any _ tv lv c _ (cfA_cells tv lv c) HC.out).mono ?_
  rintro e w1 ⟨rfl, hb1⟩
  have HG1 := Lib.hid (show w1.heap[w.heap.size]? = some (.cells (cfA tv lv c) 25) by rw [hb1.block _ (by simp)]; exact heap_alloc_new _ _)
  have HB1 := Lib.hid (box_below2 hb1)
  clear hb1
  rw [HE.out]
  go_wp2_with (first
    | refine wpList_load_agg 25 HG1.out Tryz.underlying25 rfl cfg_info rfl _ rfl rfl ?_
    | (refine wpList_builtN rfl 218 _ rfl _ ?hps (built_invs tv lv c (some w1.heap.size) (some (w1.heap.size + 1))) ?_; (case hps => simp [Act.eval])))
  go_ret
  exact ⟨_, _, rfl, by have := HB1.out.size; omega, heap_alloc_three _ _ _ _, ⟨_, _, rfl⟩, ((HB1.out.alloc HB1.out.size _).alloc (by have := HB1.out.size; simp; omega) _).alloc (by have := HB1.out.size; simp; omega) _⟩
set_option maxRecDepth 100000 in
set_option maxHeartbeats 1000000 in
theorem opsload_nil (keep : Int) (w : World) (h : 1 ≤ keep) : Calls Tryz.prog 68 #[.int .i64 keep, .int .i64 1, .slice none 0 0, .slice none 0 0] w (MadePost w) := by
  go_enter Tryz.func68, Tryz.ntmps68
  go_wp2_with fail
  refine (opsnew_some keep _ h).mono ?_
  rintro e w1 ⟨b, us, rfl, hlt, hh, ⟨m1, m2, rfl⟩, hb1⟩
  have hB := box_below2 hb1
  have hlt1 : b < w1.heap.size := (Array.getElem?_eq_some_iff.1 hh).1
  have n5 := hb1.size
  have HB := Lib.hid hB
  have h2 : (w1.alloc (.cells #[.pointer (some ⟨b, 0, none⟩)] 118)).heap[b]? = _ := fr_alloc_old hh
  have c1 := fr_cell_of_heap (i := 1) h2 rfl
  have f1 : (w1.alloc (.cells #[.pointer (some ⟨b, 0, none⟩)] 118)).frozen? ⟨b, 1, none⟩ = false := fr_free_of_heap h2
  have n0 : (w1.alloc (.cells #[.pointer (some ⟨b, 0, none⟩)] 118)).cell? ⟨w.heap.size, 0, none⟩ = some (.int .i64 1) := cell_below box_below (cell_below hb1 (by simp))
  have hlt2 : w.heap.size ≤ b := by simp at hlt; omega
  clear hh hb1 h2 hB hlt
  go_wp2
  go_loopw [33] (fun i wr => i = .int .i64 0 ∧ wr = (w1.alloc (.cells #[.pointer (some ⟨b, 0, none⟩)] 118))) (fun i _ => 1)
  case atStart => exact ⟨rfl, rfl⟩
  case round =>
    obtain ⟨rfl, rfl⟩ := hrel
    go_wp2
    go_loopw [68] (fun i wr => i = .int .i64 0 ∧ wr = (w1.alloc (.cells #[.pointer (some ⟨b, 0, none⟩)] 118))) (fun i _ => 1)
    case atStart => exact ⟨rfl, rfl⟩
    case round =>
      obtain ⟨rfl, rfl⟩ := hrel
      go_wp2
      go_ret2
      exact ⟨⟨_, rfl⟩, (HB.out.setCell hlt2 _).alloc (by simp at n5 ⊢; omega) _⟩
set_option maxRecDepth 100000 in
set_option maxHeartbeats 1000000 in
theorem invocload_nil (tv lv : Value) (c : Cfg) (w : World) (hC : CfgAt w tv lv c) (h : checkE c = 0) : Calls Tryz.prog 72 #[.agg (cfA tv lv c), .slice none 0 0, .int .i64 0] w (MadePost w) := by
  have HC := Lib.hid (hC.below (box_below (o := .cells (cfA tv lv c) 25)))
  have HE := Lib.hid h
  clear hC h
  go_enter Tryz.func72, Tryz.ntmps72
  go_wp2_with (refine wpList_load_agg 25 (heap_alloc_new w _) Tryz.underlying25 rfl cfg_info rfl _ rfl rfl ?_)
  refine (invocnew_some tv lv c _ HC.out HE.out).mono ?_
  rintro e w1 ⟨b, us, rfl, hlt, hh, ⟨m1, m2, rfl⟩, hb1⟩
  have HB := Lib.hid (box_below2 hb1)
  have hlt1 : b < w1.heap.size := (Array.getElem?_eq_some_iff.1 hh).1
  have c1 := fr_cell_of_heap (i := 19) hh rfl
  have f1 : w1.frozen? ⟨b, 19, none⟩ = false := fr_free_of_heap hh
  have hlt2 : w.heap.size ≤ b := by simp at hlt; omega
  clear hh hb1 hlt
  go_wp2
  go_loopw [21] (fun i wr => i = .int .i64 0 ∧ wr = w1) (fun i _ => 1)
  case atStart => exact ⟨rfl, rfl⟩
  case round =>
    obtain ⟨rfl, rfl⟩ := hrel
    go_wp2
    go_ret2
    exact ⟨⟨_, rfl⟩, HB.out.setCell hlt2 _⟩
set_option maxRecDepth 100000 in
set_option maxHeartbeats 1000000 in
theorem historyload_nil (n : Int) (w : World) (h : 1 ≤ n) : Calls Tryz.prog 92 #[.int .i64 n, .slice none 0 0] w (MadePost w) := by
  go_enter Tryz.func92, Tryz.ntmps92
  go_wp2_with fail
  refine (historynew_some n _ h).mono ?_
  rintro e w1 ⟨b, us, rfl, hlt, _, _, hb1⟩
  go_wp2
  go_loopw [23] (fun i wr => i = .int .i64 0 ∧ wr = w1) (fun i _ => 1)
  case atStart => exact ⟨rfl, rfl⟩
  case round =>
    obtain ⟨rfl, rfl⟩ := hrel
    go_wp2
    go_ret2
    exact ⟨⟨_, rfl⟩, hb1⟩
set_option maxRecDepth 100000 in
set_option maxHeartbeats 1000000 in
theorem deadload_nil (n : Int) (w : World) (h : 1 ≤ n) (h1 : n ≤ 1000) : Calls Tryz.prog 93 #[.int .i64 n, .slice none 0 0] w (MadePost w) := by
  go_enter Tryz.func93, Tryz.ntmps93
  go_wp2_with fail
  refine (deadnew_some n _ h h1).mono ?_
  rintro e w1 ⟨b, us, rfl, hlt, _, _, hb1⟩
  go_wp2
  go_loopw [21] (fun i wr => i = .int .i64 0 ∧ wr = w1) (fun i _ => 1)
  case atStart => exact ⟨rfl, rfl⟩
  case round =>
    obtain ⟨rfl, rfl⟩ := hrel
    go_wp2
    go_ret2
    exact ⟨⟨_, rfl⟩, hb1⟩
set_option maxRecDepth 100000 in
set_option maxHeartbeats 1000000 in
theorem watchload_nil (n : Int) (w : World) (h : 0 ≤ n) : Calls Tryz.prog 94 #[.int .i64 n, .slice none 0 0] w (MadePost w) := by
  go_enter Tryz.func94, Tryz.ntmps94
  go_wp2_with fail
  refine (watchnew_some n _ h).mono ?_
  rintro e w1 ⟨b, us, rfl, hlt, _, _, hb1⟩
  go_wp2
  go_loopw [13] (fun i wr => i = .int .i64 0 ∧ wr = w1) (fun i _ => 1)
  case atStart => exact ⟨rfl, rfl⟩
  case round =>
    obtain ⟨rfl, rfl⟩ := hrel
    go_wp2
    go_ret2
    exact ⟨⟨_, rfl⟩, hb1⟩
set_option maxRecDepth 100000 in
set_option maxHeartbeats 1000000 in
theorem peach_nil (b : Nat) (f : Value) (w : World) (h : w.cell? ⟨b, 4, none⟩ = some (.slice none 0 0)) : Calls Tryz.prog 191 #[.pointer (some ⟨b, 0, none⟩), f] w fun e w' => e = .returned (.tuple #[]) ∧ w' = w := by
  go_enter Tryz.func191, Tryz.ntmps191
  go_wp2
  go_loopw [13] (fun i wr => i = .int .i64 0 ∧ wr = w) (fun i _ => 1)
  case atStart => exact ⟨rfl, rfl⟩
  case round =>
    obtain ⟨rfl, rfl⟩ := hrel
    go_wp2
    exact bodyPost_end (v := .tuple #[]) (by simp [results, Tryz.results191, go_sem]) rfl ⟨rfl, rfl⟩
set_option maxRecDepth 100000 in
set_option maxHeartbeats 1000000 in
theorem poolload_nil (a m q : Int) (w : World) (ha : 1 ≤ a) (hm : 1 ≤ m) (h : 1 ≤ q) (h1 : q ≤ 64) : Calls Tryz.prog 150 #[.int .i64 a, .int .i64 m, .int .i64 q, .slice none 0 0, .int .i64 0] w (MadePost w) := by
  have hmm := @run_makeMap Tryz.prog
  go_enter Tryz.func150, Tryz.ntmps150
  go_wp2_with fail
  refine (poolnew_some a m q _ ha hm h h1).mono ?_
  rintro e w1 ⟨b, us, rfl, hlt, hh, rfl, hb1⟩
  have HB := Lib.hid (box_below2 hb1)
  have hlt1 : b < w1.heap.size := (Array.getElem?_eq_some_iff.1 hh).1
  have n5 : w.heap.size + 1 ≤ w1.heap.size := by have := hb1.size; simp at this; omega
  have n0 : w1.cell? ⟨w.heap.size, 0, none⟩ = some (.int .i64 0) := cell_below hb1 (by simp)
  have hlt2 : w.heap.size ≤ b := by simp at hlt; omega
  have h2 : (((w1.alloc (.map #[] 0)).alloc (.cells #[.map (some w1.heap.size)] 127)).alloc (.cells #[.bool true] 4)).heap[b]? = _ := fr_alloc_old (fr_alloc_old (fr_alloc_old hh))
  have n1 : (((w1.alloc (.map #[] 0)).alloc (.cells #[.map (some w1.heap.size)] 127)).alloc (.cells #[.bool true] 4)).cell? ⟨w.heap.size, 0, none⟩ = some (.int .i64 0) := cell_below box_below (cell_below box_below (cell_below box_below n0))
  have n2 : (((w1.alloc (.map #[] 0)).alloc (.cells #[.map (some w1.heap.size)] 127)).alloc (.cells #[.bool true] 4)).cell? ⟨w1.heap.size + 1 + 1, 0, none⟩ = some (.bool true) := fr_cell_of_heap (heap_alloc_three _ _ _ _) rfl
  have HBW := Lib.hid (((HB.out.alloc (by omega) (.map #[] 0)).alloc (by simp; omega) (.cells #[.map (some w1.heap.size)] 127)).alloc (by simp; omega) (.cells #[.bool true] 4))
  have n3 := fr_cell_of_heap (i := 3) h2 rfl
  have n4 := fr_cell_of_heap (i := 4) h2 rfl
  have f3 := fr_free_of_heap (i := 3) h2
  generalize hW : ((w1.alloc (.map #[] 0)).alloc (.cells #[.map (some w1.heap.size)] 127)).alloc (.cells #[.bool true] 4) = W at n1 n2 n3 n4 f3 HBW
  have HW := Lib.hid hW
  clear hh hb1 hlt h2 hW
  go_wp2
  go_loopw [34] (fun i wr => i = .int .i64 0 ∧ wr = W) (fun i _ => 1)
  case atStart => exact ⟨rfl, HW.out⟩
  case round =>
    obtain ⟨rfl, rfl⟩ := hrel
    go_wp2_with fail
    refine (peach_nil b _ _ n4).mono ?_
    rintro e w2 ⟨rfl, rfl⟩
    go_wp2_with fail
    go_ret2
    exact ⟨⟨_, rfl⟩, HBW.out.setCell hlt2 _⟩
end Go.Proofs.YtjmlimogmmikoaaGreatDoor
