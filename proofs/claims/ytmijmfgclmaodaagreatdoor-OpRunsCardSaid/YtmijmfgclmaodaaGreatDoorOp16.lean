/-
  OpRuns: the walk.
-/
import Derived.Test.YtmijmfgclmaodaaGreatDoorOp14
import Derived.Test.YtmijmfgclmaodaaGreatDoorOp15
import Derived.Test.YtmijmfgclmaodaaGreatDoorOp6
import Derived.Test.YtmijmfgclmaodaaGreatDoorOp5
import Derived.Deep.LoopGhost
import Derived.Deep.CutRange
namespace Go.Proofs.YtmijmfgclmaodaaGreatDoor
open Go.RowKit

theorem wpList_op_neqw {w : World} {ops : Array Oper} {rest : List Oper} {o : Oper} {a : Act} {Q : Exit → Act → World → Prop} {p : Opr} {tr : TypeId} (hw : Region.wanted o (yielded ops a.tmps) = true) (x y : Operand) (ho : o.op = .binOp .neq 46 x y tr)
    (hx : a.eval x = .agg (opA p)) (hy : a.eval y = .agg (opA p)) (h : wpList Tryz.prog ops Q rest (a.put o.dst (.bool false)) w) : wpList Tryz.prog ops Q (o :: rest) a w := by
  unfold wpList
  rw [if_pos hw]
  refine .inl ?_
  have hrun : (execOp a.eval o).run Tryz.prog w = .ok (.value (.bool false)) w := by
    simp only [execOp, ho, hx, hy, Sem.run_bind, run_eqGuard_agg _ _ _ _ _ _ _ op_guard, Result.andThen_ok, op_neq_self]
    rfl
  unfold Oper.wp
  rw [hrun, Oper.upon_value]
  exact h
theorem act_guard : Tryz.prog.eqGuardType Tryz.prog.depth 44 = false := by kernel_rfl
theorem wpList_act_neqw {w : World} {ops : Array Oper} {rest : List Oper} {o : Oper} {a : Act} {Q : Exit → Act → World → Prop} {k c n : ByteArray} {tr : TypeId} (hw : Region.wanted o (yielded ops a.tmps) = true) (x y : Operand) (ho : o.op = .binOp .neq 44 x y tr)
    (hx : a.eval x = .agg #[.string k, .string c, .string n]) (hy : a.eval y = .agg #[.string k, .string c, .string n]) (h : wpList Tryz.prog ops Q rest (a.put o.dst (.bool false)) w) : wpList Tryz.prog ops Q (o :: rest) a w := by
  unfold wpList
  rw [if_pos hw]
  refine .inl ?_
  have hrun : (execOp a.eval o).run Tryz.prog w = .ok (.value (.bool false)) w := by
    simp only [execOp, ho, hx, hy, Sem.run_bind, run_eqGuard_agg _ _ _ _ _ _ _ act_guard, Result.andThen_ok, act_neq_self]
    rfl
  unfold Oper.wp
  rw [hrun, Oper.upon_value]
  exact h
structure Ra where
  k : Int
  a : Int
  b : Int
  now : Int
def encR (x : Ra) : List Value := [.int .i64 x.k, .int .i64 x.a, .int .i64 x.b, .int .u64 x.now]
theorem encR_len (x : Ra) : (encR x).length = 4 := rfl
/-- A slice of what becomes of an operation. -/
def RasAt (w : World) (v : Value) (l : List Ra) : Prop :=
  (∃ a cap, v = .slice a l.length cap ∧ l.length ≤ 140737488351232 ∧ ∀ (j : Nat) u, (l.flatMap encR)[j]? = some u → ∃ g off, a = some ⟨g, off, none⟩ ∧ w.cell? ⟨g, off + j, none⟩ = some u) ∧
  ∀ x ∈ l, 0 ≤ x.now ∧ x.now ≤ 18446744073709551615
theorem RasAt.at {w : World} {a : Option Addr} {l : List Ra} (hc : ∀ (j : Nat) u, (l.flatMap encR)[j]? = some u → ∃ g off, a = some ⟨g, off, none⟩ ∧ w.cell? ⟨g, off + j, none⟩ = some u) {k : Nat} {y : Ra} (hx : l[k]? = some y) :
    ∃ g off, a = some ⟨g, off, none⟩ ∧ w.cell? ⟨g, off + k * 4, none⟩ = some (.int .i64 y.k) ∧ w.cell? ⟨g, off + k * 4 + 1, none⟩ = some (.int .i64 y.a) ∧ w.cell? ⟨g, off + k * 4 + 2, none⟩ = some (.int .i64 y.b) ∧ w.cell? ⟨g, off + k * 4 + 3, none⟩ = some (.int .u64 y.now) := by
  have e (i : Nat) (hi : i < 4) {u : Value} (hu : (encR y)[i]? = some u) : (l.flatMap encR)[k * 4 + i]? = some u := by rw [flat_at encR 4 encR_len i hx hi]; exact hu
  obtain ⟨g, off, rfl, h0⟩ := hc _ _ (e 0 (by omega) rfl)
  obtain ⟨g1, o1, e1, h1⟩ := hc _ _ (e 1 (by omega) rfl); cases e1
  obtain ⟨g2, o2, e2, h2⟩ := hc _ _ (e 2 (by omega) rfl); cases e2
  obtain ⟨g3, o3, e3, h3⟩ := hc _ _ (e 3 (by omega) rfl); cases e3
  exact ⟨g, off, rfl, h0, h1, h2, h3⟩
theorem Box2.row {w w2 : World} {cs os : Array Value} (h : Box2 w cs os w2) (ds : Array Value) : Box2 w cs ds (w2.setRow (w.heap.size + 1) ds) :=
  ⟨below_setRow h.below (by omega) _, by have := h.lt; simpa [World.setRow] using this, (setRow_not (by omega)).trans h.cfg, setRow_at h.op⟩
def SkipPost (y : Ra) (w2 : World) (s : Value) (wx : World) : Prop := ∃ q, s = .bool q ∧ (q = false → ActOk y.k y.a y.b y.now) ∧ w2 = wx
def RunsRel (c : Cfg) (o : Opr) (w : World) (cs : Array Value) (n g : Nat) (i : Value) (wr : World) : Prop := ∃ (k : Nat) (p : Opr), i = .int .i64 k ∧ k ≤ n ∧ g = n - k ∧ OpOk c p ∧ Box2 w cs (opA p) wr ∧ p.key = o.key ∧ p.cmd = o.cmd ∧ p.need = o.need
set_option maxRecDepth 100000 in
set_option maxHeartbeats 8000000 in
theorem opruns_any (cs : Array Value) (tv lv v0 : Value) (c : Cfg) (o : Opr) (l : List Ra) (w : World) (hr : Ready w) (hc : CfgCells cs tv lv c) (hC : CfgAt w tv lv c) (hL : RasAt w v0 l) :
    Calls Tryz.prog 4 #[.agg cs, .agg (opA o), v0] w (TrueBelow w) := by
  obtain ⟨⟨ra, rcap, rfl, hlen, hcell⟩, hnow⟩ := hL
  have HR := Lib.hid hr
  have HC := Lib.hid hc
  have HCA := Lib.hid hC
  have HL := Lib.hid hcell
  have HNW := Lib.hid hnow
  clear hr hc hC hcell hnow
  go_enter Tryz.func4, Tryz.ntmps4
  go_upto_region 1 with fail
  obtain ⟨w2, hw2⟩ : ∃ w2 : World, w2 = (w.alloc (.cells cs 42)).alloc (.cells (opA o) 46) := ⟨_, rfl⟩
  rw [← hw2]
  have HX := Lib.hid (show Box2 w cs (opA o) w2 by rw [hw2]; exact box2_new w cs (opA o))
  clear hw2
  go_wp2_with (first | (refine wpList_load_agg 46 HX.out.op Tryz.underlying46 rfl (opA_info o) rfl _ rfl rfl ?_) | (refine wpList_load_agg 42 HX.out.cfg Tryz.underlying42 rfl (cfg_sz HC.out) rfl _ rfl rfl ?_))
  refine (large30_any cs (opA o) tv lv c o _ HC.out (HCA.out.below HX.out.below) (opA_cells o)).mono ?_
  rintro e w3 ⟨b, rfl, hb, hb3⟩
  have HX3 := Lib.hid (HX.out.next hb3)
  clear hb3
  rcases b with _ | _
  case true =>
    clear hb
    go_wp2_with fail
    refine (live30_any _).mono ?_
    rintro e wl ⟨rfl, hbl⟩
    have HXL := Lib.hid (HX3.out.next hbl)
    clear hbl
    go_wp2_with fail
    go_ret
    exact ⟨rfl, HXL.out.below⟩
  have HG := Lib.hid (hb rfl)
  clear hb
  by_cases hn : (l.length : Int) ≤ 100
  case neg =>
    have hn2 : (100 : Int) < l.length := by omega
    clear hn
    go_wp2_with fail
    refine (live30_any _).mono ?_
    rintro e wl ⟨rfl, hbl⟩
    have HXL := Lib.hid (HX3.out.next hbl)
    clear hbl
    go_wp2_with fail
    go_ret
    exact ⟨rfl, HXL.out.below⟩
  have hnb : decide ((100 : Int) < l.length) = false := decide_eq_false (by omega)
  go_wp2_with (first | (refine wpList_load_agg 46 HX3.out.op Tryz.underlying46 rfl (opA_info o) rfl _ rfl rfl ?_) | (refine wpList_load_agg 42 HX3.out.cfg Tryz.underlying42 rfl (cfg_sz HC.out) rfl _ rfl rfl ?_))
  refine (rright30_any cs (opA o) tv lv c o _ HC.out (HCA.out.below HX3.out.below) (opA_cells o) HG.out).mono ?_
  rintro e w4 ⟨b, rfl, hb, hb4⟩
  have HX4 := Lib.hid (HX3.out.next hb4)
  clear hb4
  rcases b with _ | _
  case false =>
    clear hb
    go_wp2_with fail
    refine (live30_any _).mono ?_
    rintro e wl ⟨rfl, hbl⟩
    have HXL := Lib.hid (HX4.out.next hbl)
    clear hbl
    go_wp2_with fail
    go_ret
    exact ⟨rfl, HXL.out.below⟩
  have HK4 := Lib.hid (hb rfl)
  clear hb
  go_wp2_with fail
  go_loopg [7] l.length (fun g i wr => RunsRel c o w cs l.length g i wr)
  case atStart => exact ⟨0, o, rfl, Nat.zero_le _, rfl, HK4.out, HX4.out, rfl, rfl, rfl⟩
  case round =>
    obtain ⟨k, p, rfl, hk, rfl, hok, hx, hpk, hpc, hpn⟩ := hrel
    have HS := Lib.hid (show p.key = o.key ∧ p.cmd = o.cmd ∧ p.need = o.need from ⟨hpk, hpc, hpn⟩)
    clear hpk hpc hpn
    have HX5 := Lib.hid hx
    have HK5 := Lib.hid hok
    clear hx hok HX HX3 HX4 HK4
    by_cases hlt : k < l.length
    · obtain ⟨y, hy⟩ : ∃ y, l[k]? = some y := ⟨_, List.getElem?_eq_getElem hlt⟩
      obtain ⟨g0, of0, rfl, c0, c1, c2, c3⟩ := RasAt.at HL.out hy
      have HNY := Lib.hid (HNW.out y (List.mem_of_getElem? hy))
      have q0 := cell_below HX5.out.below c0
      have q1 := cell_below HX5.out.below c1
      have q2 := cell_below HX5.out.below c2
      have q3 := cell_below HX5.out.below c3
      clear hy c0 c1 c2 c3
      go_upto_region 7 with fail
      obtain ⟨w6, hw6⟩ : ∃ w6 : World, w6 = wr.alloc (.cells #[.int .i64 y.k, .int .i64 y.a, .int .i64 y.b, .int .u64 y.now] 50) := ⟨_, rfl⟩
      rw [← hw6]
      have HX6 := Lib.hid (show Box2 w cs (opA p) w6 by rw [hw6]; exact HX5.out.next box_below)
      have HA6 := Lib.hid (show w6.heap[wr.heap.size]? = some (.cells #[.int .i64 y.k, .int .i64 y.a, .int .i64 y.b, .int .u64 y.now] 50 (0, 0)) by rw [hw6]; exact fr_alloc_at)
      clear hw6 q0 q1 q2 q3
      have e0 : w6.cell? ⟨wr.heap.size, 0, none⟩ = some (.int .i64 y.k) := fr_cell_of_heap HA6.out rfl
      have e1 : w6.cell? ⟨wr.heap.size, 1, none⟩ = some (.int .i64 y.a) := fr_cell_of_heap HA6.out rfl
      have e2 : w6.cell? ⟨wr.heap.size, 2, none⟩ = some (.int .i64 y.b) := fr_cell_of_heap HA6.out rfl
      have e3 : w6.cell? ⟨wr.heap.size, 3, none⟩ = some (.int .u64 y.now) := fr_cell_of_heap HA6.out rfl
      go_cut [68] (fun s wx => SkipPost y w6 s wx)
      case first =>
        by_cases z0 : y.k = 0
        · have HZ := Lib.hid z0
          have b0 : (y.k == 0) = true := beq_iff_eq.2 z0
          have b1 : (y.k == 1) = false := beq_eq_false_iff_ne.2 (by omega)
          have b2 : (y.k == 2) = false := beq_eq_false_iff_ne.2 (by omega)
          clear z0
          by_cases z1 : 1 ≤ y.a
          · by_cases z2 : 1 ≤ y.b
            · have HAK := Lib.hid (show ActOk y.k y.a y.b y.now from ⟨fun _ => ⟨z1, z2⟩, fun h => by rw [HZ.out] at h; omega, HNY.out.1, HNY.out.2⟩)
              go_wp2_with fail
              go_meet
              exact ⟨_, rfl, (fun _ => HAK.out), rfl⟩
            · have n2 : y.b < 1 := by omega
              clear z2
              go_wp2_with fail
              go_meet
              exact ⟨_, rfl, (fun h => by first | cases h | (simp at h; first | done | omega)), rfl⟩
          · have n1 : y.a < 1 := by omega
            clear z1
            go_wp2_with fail
            go_meet
            exact ⟨_, rfl, (fun h => by first | cases h | (simp at h; first | done | omega)), rfl⟩
        · have b0 : (y.k == 0) = false := beq_eq_false_iff_ne.2 z0
          have HZ := Lib.hid z0
          clear z0
          by_cases z1 : y.k = 1
          · have b1 : (y.k == 1) = true := beq_iff_eq.2 z1
            clear z1
            by_cases z2 : 0 ≤ y.a
            · by_cases z3 : y.a ≤ 256
              · have HAK := Lib.hid (show ActOk y.k y.a y.b y.now from ⟨fun h => absurd h HZ.out, fun _ => ⟨z2, z3⟩, HNY.out.1, HNY.out.2⟩)
                go_wp2_with fail
                go_meet
                exact ⟨_, rfl, (fun _ => HAK.out), rfl⟩
              · have n3 : 256 < y.a := by omega
                clear z3
                go_wp2_with fail
                go_meet
                exact ⟨_, rfl, (fun h => by first | cases h | (simp at h; first | done | omega)), rfl⟩
            · have n2 : y.a < 0 := by omega
              clear z2
              go_wp2_with fail
              go_meet
              exact ⟨_, rfl, (fun h => by first | cases h | (simp at h; first | done | omega)), rfl⟩
          · have b1 : (y.k == 1) = false := beq_eq_false_iff_ne.2 z1
            have HZ1 := Lib.hid z1
            clear z1
            by_cases z1 : y.k = 2
            · have b2 : (y.k == 2) = true := beq_iff_eq.2 z1
              clear z1
              by_cases z2 : 0 ≤ y.a
              · by_cases z3 : y.a ≤ 256
                · have HAK := Lib.hid (show ActOk y.k y.a y.b y.now from ⟨fun h => absurd h HZ.out, fun _ => ⟨z2, z3⟩, HNY.out.1, HNY.out.2⟩)
                  go_wp2_with fail
                  go_meet
                  exact ⟨_, rfl, (fun _ => HAK.out), rfl⟩
                · have n3 : 256 < y.a := by omega
                  clear z3
                  go_wp2_with fail
                  go_meet
                  exact ⟨_, rfl, (fun h => by first | cases h | (simp at h; first | done | omega)), rfl⟩
              · have n2 : y.a < 0 := by omega
                clear z2
                go_wp2_with fail
                go_meet
                exact ⟨_, rfl, (fun h => by first | cases h | (simp at h; first | done | omega)), rfl⟩
            · have b2 : (y.k == 2) = false := beq_eq_false_iff_ne.2 z1
              have HAK := Lib.hid (show ActOk y.k y.a y.b y.now from ⟨fun h => absurd h HZ.out, fun h => by rcases h with h | h; exact absurd h HZ1.out; exact absurd h z1, HNY.out.1, HNY.out.2⟩)
              clear z1
              go_wp2_with fail
              go_meet
              exact ⟨_, rfl, (fun _ => HAK.out), rfl⟩
      case rest =>
      obtain ⟨q, rfl, hq, rfl⟩ := hcut
      rcases q with _ | _
      case true =>
        clear e0 e1 e2 e3
        go_wp2_with fail
        go_roundg (l.length - (k + 1))
        case measure => omega
        case rel => exact ⟨k + 1, p, by first | rfl | simp, by omega, rfl, HK5.out, HX6.out, HS.out⟩
      have HAC := Lib.hid (hq rfl)
      clear hq
      go_wp2_with (first | (refine wpList_load_agg 46 HX6.out.op Tryz.underlying46 rfl (opA_info p) rfl _ rfl rfl ?_) | (refine wpList_load_agg 42 HX6.out.cfg Tryz.underlying42 rfl (cfg_sz HC.out) rfl _ rfl rfl ?_))
      refine (turn_any cs tv lv c p y.k y.a y.b y.now _ HC.out (HCA.out.below HX6.out.below) HK5.out HAC.out).mono ?_
      rintro e w7 ⟨x, b, rfl, hg, hb7⟩
      have HX7 := Lib.hid (HX6.out.next hb7)
      have HG7 := Lib.hid hg
      clear hb7 hg e0 e1 e2 e3
      go_upto_region 9 with (refine wpList_store_new rfl 46 _ _ rfl w7.heap.size rfl (opA x) rfl rfl (opA_info x) rfl (opA_one x) ?_; (try simp only [Act.put]))
      obtain ⟨w8, hw8⟩ : ∃ w8 : World, w8 = w7.alloc (.cells (opA x) 46) := ⟨_, rfl⟩
      rw [← hw8]
      have HX8 := Lib.hid (show Box2 w cs (opA p) w8 by rw [hw8]; exact HX7.out.next box_below)
      have HB8 := Lib.hid (show w8.heap[w7.heap.size]? = some (.cells (opA x) 46 (0, 0)) by rw [hw8]; exact fr_alloc_at)
      clear hw8
      have e8 : w8.cell? ⟨w.heap.size + 1, 8, none⟩ = some (.int .i64 p.state) := fr_cell_of_heap HX8.out.op rfl
      go_cut [95] (fun s wx => s = .bool false ∧ w8 = wx)
      case first =>
        go_wp2_with fail
        refine (terminal_any _ _).mono ?_
        rintro e w9 ⟨rfl, rfl⟩
        rcases b with _ | _
        · have hxp := HG7.out.same rfl
          subst hxp
          rcases termB x.state with _ | _
          all_goals
            go_wp2_with (first | (refine wpList_op_neqw (p := x) rfl _ _ rfl rfl rfl ?_) | (refine wpList_load_agg 46 HX8.out.op Tryz.underlying46 rfl (opA_info x) rfl _ rfl rfl ?_) | (refine wpList_load_agg 46 HB8.out Tryz.underlying46 rfl (opA_info x) rfl _ rfl rfl ?_))
            go_meet
            exact ⟨rfl, rfl⟩
        · rw [HG7.out.term rfl]
          go_wp2_with fail
          go_meet
          exact ⟨rfl, rfl⟩
      case rest =>
      obtain ⟨rfl, rfl⟩ := hcut
      clear e8
      go_wp2_with (first | (refine wpList_load_agg 46 HB8.out Tryz.underlying46 rfl (opA_info x) rfl _ rfl rfl ?_) | (refine wpList_load_agg 42 HX8.out.cfg Tryz.underlying42 rfl (cfg_sz HC.out) rfl _ rfl rfl ?_))
      refine (opright_any cs (opA x) tv lv c x _ (HR.out.below HX8.out.below) HC.out (HCA.out.below HX8.out.below) (opA_cells x) HG7.out.ok.small (by rw [HG7.out.key, HS.out.1]; have := HG.out.g6; omega) (by rw [HG7.out.cmd, HS.out.2.1]; have := HG.out.g7; omega) (by rw [HG7.out.need, HS.out.2.2]; have := HG.out.g8; omega)).mono ?_
      rintro e w9 ⟨rfl, hb9⟩
      rw [HG7.out.ok.opB]
      have HX9 := Lib.hid (HX8.out.next hb9)
      have HB9 := Lib.hid ((hb9.block _ (heap_lt HB8.out)).trans HB8.out)
      clear hb9
      have m8 := fr_cell_of_heap HX9.out.cfg HC.out.f8
      have m9 := fr_cell_of_heap HX9.out.cfg HC.out.f9
      have mo := HG7.out.ok.most
      obtain ⟨a0, a1, a2⟩ := mo
      have hkc := cfgOk_of HG7.out.ok.chk
      obtain ⟨r0, r1⟩ := hkc.retries
      obtain ⟨t0, t1⟩ := hkc.preempts
      have up := HG7.out.up
      clear hkc
      have x0 : w9.cell? ⟨w7.heap.size, 0, none⟩ = some (.int .i64 p.id) := by rw [← HG7.out.id]; exact fr_cell_of_heap HB9.out rfl
      have p0 : w9.cell? ⟨w.heap.size + 1, 0, none⟩ = some (.int .i64 p.id) := fr_cell_of_heap HX9.out.op rfl
      have x3 : w9.cell? ⟨w7.heap.size, 3, none⟩ = some (.string p.key) := by rw [← HG7.out.key]; exact fr_cell_of_heap HB9.out rfl
      have p3 : w9.cell? ⟨w.heap.size + 1, 3, none⟩ = some (.string p.key) := fr_cell_of_heap HX9.out.op rfl
      have x4 : w9.cell? ⟨w7.heap.size, 4, none⟩ = some (.string p.cmd) := by rw [← HG7.out.cmd]; exact fr_cell_of_heap HB9.out rfl
      have p4 : w9.cell? ⟨w.heap.size + 1, 4, none⟩ = some (.string p.cmd) := fr_cell_of_heap HX9.out.op rfl
      have x5 : w9.cell? ⟨w7.heap.size, 5, none⟩ = some (.string p.need) := by rw [← HG7.out.need]; exact fr_cell_of_heap HB9.out rfl
      have p5 : w9.cell? ⟨w.heap.size + 1, 5, none⟩ = some (.string p.need) := fr_cell_of_heap HX9.out.op rfl
      have x15 : w9.cell? ⟨w7.heap.size, 15, none⟩ = some (.int .u64 p.dl) := by rw [← HG7.out.dl]; exact fr_cell_of_heap HB9.out rfl
      have p15 : w9.cell? ⟨w.heap.size + 1, 15, none⟩ = some (.int .u64 p.dl) := fr_cell_of_heap HX9.out.op rfl
      have x9 : w9.cell? ⟨w7.heap.size, 9, none⟩ = some (.int .i64 x.att) := fr_cell_of_heap HB9.out rfl
      have p9 : w9.cell? ⟨w.heap.size + 1, 9, none⟩ = some (.int .i64 p.att) := fr_cell_of_heap HX9.out.op rfl
      go_wp2_with (first | (refine wpList_act_neqw (k := p.key) (c := p.cmd) (n := p.need) rfl _ _ rfl rfl rfl ?_) | (refine wpList_store_row rfl 46 _ _ rfl (w.heap.size + 1) (opA x) rfl rfl 46 _ HX9.out.op (opA_info x) rfl (opA_one x) ?_) | (refine wpList_load_agg 46 HB9.out Tryz.underlying46 rfl (opA_info x) rfl _ rfl rfl ?_))
      go_roundg (l.length - (k + 1))
      case measure => omega
      case rel => exact ⟨k + 1, x, by first | rfl | simp, by omega, rfl, HG7.out.ok, HX9.out.row _, HG7.out.key.trans HS.out.1, HG7.out.cmd.trans HS.out.2.1, HG7.out.need.trans HS.out.2.2⟩
    · go_wp2_with fail
      refine (live30_any _).mono ?_
      rintro e wl ⟨rfl, hbl⟩
      have HXL := Lib.hid (HX5.out.next hbl)
      clear hbl
      go_wp2_with fail
      go_ret
      exact ⟨rfl, HXL.out.below⟩
end Go.Proofs.YtmijmfgclmaodaaGreatDoor
