/-
  law17.PoolTurn: the walk.
-/
import Derived.Test.YtdbjihkgafhakaaGreatDoorPoolTk
import Derived.Deep.CutBlock
namespace Go.Proofs.YtdbjihkgafhakaaGreatDoor
open Go.RowKit

def x3C (a b c : Int) : Array Value := #[.int .i64 a, .int .i64 b, .int .i64 c]
/-- Where PoolTurn's loop stands. -/
structure TuSt (W w1 : World) (P xb qb : Nat) (a b c : Int) (qa : Pa) (x : PX) (k : Nat) (n : Int) (wr : World) : Prop where
  st : ∃ next v L ρ, PlState w1 P x next v L ρ wr ∧ Lw x next L k ∧ TurnInv x L qa.e.need qa.e.cls n ∧ ρ xb = [] ∧ ρ qb = []
  xh : wr.heap[xb]? = some (.cells (x3C a b c) 22 (0, 0))
  qh : wr.heap[qb]? = some (.cells (paC qa) 27 (0, 0))
  below : Below W.heap.size W wr
def entL (x : Ent) : List Value := [.string x.need, .int .i64 x.cls, .int .i64 x.ten, .int .i64 x.tw, .int .i64 x.inv, .int .i64 x.iw, .int .i64 x.id, .int .i64 x.cost]
theorem entL_sz (x : Ent) : (Tryz.prog.info? 25).map (·.size) = some (entL x).length := by
  rw [show (entL x).length = 8 from rfl]
  kernel_rfl
theorem pa_ent {w : World} {b : Nat} {y : Pa} (h : w.heap[b]? = some (.cells (paC y) 27 (0, 0))) : w.rangeAt b 1 (entL y.e) := fun j u hu => by
  have hj : j < 8 := (List.getElem?_eq_some_iff.1 hu).1
  refine fr_cell_of_heap h ?_
  rw [← hu]
  match j, hj with
  | 0, _ => rfl
  | 1, _ => rfl
  | 2, _ => rfl
  | 3, _ => rfl
  | 4, _ => rfl
  | 5, _ => rfl
  | 6, _ => rfl
  | 7, _ => rfl
/-- Where PoolTurn's round stands behind its call. -/
structure TuMid (W w1 : World) (P xb qb : Nat) (a b c : Int) (qa : Pa) (x : PX) (k : Nat) (n : Int) (wr : World) : Prop where
  st : ∃ next v L ρ, PlState w1 P x next v L ρ wr ∧ Lw x next L (k + 1) ∧ (∀ m, (m = 0 ∨ (m = n ∧ ∃ d, Asked L qa.e.need qa.e.cls d ∧ 0 < totT d.rows)) → TurnInv x L qa.e.need qa.e.cls m) ∧ ρ xb = [] ∧ ρ qb = []
  xh : wr.heap[xb]? = some (.cells (x3C a b c) 22 (0, 0))
  qh : wr.heap[qb]? = some (.cells (paC qa) 27 (0, 0))
  below : Below W.heap.size W wr
theorem mid_op {W w1 w w' : World} {P xb qb : Nat} {a b c : Int} {qa : Pa} {x : PX} {k : Nat} {n next : Int} {v : Value} {L : List PN} {ρ : Roles} {e : Ending} (hp : PlState w1 P x next v L ρ w) (hw : W.heap.size ≤ w1.heap.size) (hW : Below W.heap.size W w) (hT : TurnInv x L qa.e.need qa.e.cls n)
    (hx : w.heap[xb]? = some (.cells (x3C a b c) 22 (0, 0))) (hq : w.heap[qb]? = some (.cells (paC qa) 27 (0, 0))) (rx : ρ xb = []) (rq : ρ qb = []) (h : OpPost ρ w P x L k e w') : ∃ u, e = .returned u ∧ TuMid W w1 P xb qb a b c qa x k n w' := by
  obtain ⟨u, next', v', L', rfl, ⟨ρ', hl, _, hp', hF⟩, hlw, hE⟩ := h
  have hxw := fp_lt_of_heap hx
  have hqw := fp_lt_of_heap hq
  refine ⟨u, rfl, ⟨⟨next', v', L', ρ', hp.step hl hp' hF, hlw, fun m hm => hE _ _ n m hT hm, (hl _ hxw).trans rx, (hl _ hqw).trans rq⟩, pkeep hF hx rx, pkeep hF hq rq, ?_⟩⟩
  exact hW.trans (hF.below hW.size (fun j hj ⟨t, et⟩ => by rw [hp.old j (Nat.lt_of_lt_of_le hj hw)] at et; simp at et))
theorem mid_take {W w1 w w' : World} {P xb qb : Nat} {a b c : Int} {qa : Pa} {x : PX} {k : Nat} {next next' n : Int} {v v' : Value} {L L' : List PN} {ρ : Roles} (hp : PlState w1 P x next v L ρ w) (hw : W.heap.size ≤ w1.heap.size) (hW : Below W.heap.size W w)
    (hx : w.heap[xb]? = some (.cells (x3C a b c) 22 (0, 0))) (hq : w.heap[qb]? = some (.cells (paC qa) 27 (0, 0))) (rx : ρ xb = []) (rq : ρ qb = []) (h : TurnPost ρ w P x next' v' L' w') (hlw : Lw x next' L' (k + 1)) (hE : ∀ m, (m = 0 ∨ (m = n ∧ ∃ d, Asked L' qa.e.need qa.e.cls d ∧ 0 < totT d.rows)) → TurnInv x L' qa.e.need qa.e.cls m) : TuMid W w1 P xb qb a b c qa x k n w' := by
  obtain ⟨ρ', hl, _, hp', hF⟩ := h
  have hxw := fp_lt_of_heap hx
  have hqw := fp_lt_of_heap hq
  refine ⟨⟨next', v', L', ρ', hp.step hl hp' hF, hlw, hE, (hl _ hxw).trans rx, (hl _ hqw).trans rq⟩, pkeep hF hx rx, pkeep hF hq rq, ?_⟩
  exact hW.trans (hF.below hW.size (fun j hj ⟨t, et⟩ => by rw [hp.old j (Nat.lt_of_lt_of_le hj hw)] at et; simp at et))
theorem wrap_id {n : Int} (h1 : -9223372036854775808 ≤ n) (h2 : n ≤ 9223372036854775807) : wrap64 n = n := by unfold wrap64; omega
theorem TuMid.on {W w1 w w' : World} {P xb qb : Nat} {a b c : Int} {qa : Pa} {x : PX} {k : Nat} {n : Int} (h : TuMid W w1 P xb qb a b c qa x k n w) (hb : Below w.heap.size w w') : TuMid W w1 P xb qb a b c qa x k n w' := by
  obtain ⟨⟨next, v, L, ρ, hp, h1, h2, h3, h4⟩, hx, hq, hB⟩ := h
  exact ⟨⟨next, v, L, ρ, hp.on hb, h1, h2, h3, h4⟩, (hb.block _ (fp_lt_of_heap hx)).trans hx, (hb.block _ (fp_lt_of_heap hq)).trans hq, hB.trans (hb.mono hB.size)⟩
set_option maxRecDepth 100000 in
set_option maxHeartbeats 16000000 in
/-- THE WALK: PoolTurn. -/
theorem poolTurn_any (a b c : Int) (v : Value) (l : List Pa) (qa : Pa) (W : World) (hr : Ready W) (hl : PasAt W v l) (hok : ∀ y ∈ l, I64 y.e.cls ∧ I64 y.e.ten ∧ I64 y.e.inv ∧ I64 y.e.id) : Calls Tryz.prog 3 #[.agg (x3C a b c), v, .agg (paC qa)] W (TrueBelow W) := by
  have HA := Lib.hid hl
  have HOK := Lib.hid hok
  have HR := Lib.hid hr
  obtain ⟨sa, cap, rfl, -⟩ := hl
  clear hok hr
  unfold x3C paC
  go_enter Tryz.func3, Tryz.ntmps3
  go_upto_region 1 with fail
  obtain ⟨w1, hw1⟩ : ∃ w1 : World, w1 = (W.alloc (.cells (x3C a b c) 22)).alloc (.cells (paC qa) 27) := ⟨_, rfl⟩
  have hx1 : w1.heap[W.heap.size]? = some (.cells (x3C a b c) 22 (0, 0)) := by rw [hw1]; exact fr_alloc_old fr_alloc_at
  have hq1 : w1.heap[W.heap.size + 1]? = some (.cells (paC qa) 27 (0, 0)) := by rw [hw1]; exact heap_alloc_two _ _ _
  have hb1 : Below W.heap.size W w1 := by rw [hw1]; exact box_below.alloc (by simp) _
  unfold x3C paC at hw1
  rw [← hw1]
  have HX1 := Lib.hid hx1
  have HQ1 := Lib.hid hq1
  have HB1 := Lib.hid hb1
  have i0 : w1.cell? ⟨W.heap.size, 0, none⟩ = some (.int .i64 a) := fr_cell_of_heap hx1 rfl
  have i1 : w1.cell? ⟨W.heap.size, 1, none⟩ = some (.int .i64 b) := fr_cell_of_heap hx1 rfl
  have i2 : w1.cell? ⟨W.heap.size, 2, none⟩ = some (.int .i64 c) := fr_cell_of_heap hx1 rfl
  clear hw1 hx1 hq1 hb1
  by_cases hn : 1 ≤ a ∧ 1 ≤ b ∧ 1 ≤ c ∧ c ≤ 64
  · obtain ⟨m, hm⟩ : ∃ m : Nat, b = m := ⟨b.toNat, by omega⟩
    subst hm
    go_wp2_with fail
    refine (pnew_any a c m w1 hn.1 (by omega) hn.2.2.1 hn.2.2.2).mono ?_
    rintro e w2 ⟨rfl, hb2, hp2⟩
    have HP2 := Lib.hid (show PlState w1 (w1.heap.size + 2) ⟨a, m, c⟩ 0 (.slice none 0 0) [] (newRho w1) w2 from ⟨hp2, hb2, fun j hj => by simp [newRho]; omega⟩)
    have HX2 := Lib.hid ((hb2.block _ (fp_lt_of_heap HX1.out)).trans HX1.out)
    have HQ2 := Lib.hid ((hb2.block _ (fp_lt_of_heap HQ1.out)).trans HQ1.out)
    have HN := Lib.hid hn
    clear hb2 hp2 i0 i1 i2 hn
    have i0 : w2.cell? ⟨W.heap.size, 0, none⟩ = some (.int .i64 a) := fr_cell_of_heap HX2.out rfl
    have i1 : w2.cell? ⟨W.heap.size, 1, none⟩ = some (.int .i64 m) := fr_cell_of_heap HX2.out rfl
    obtain ⟨P, hP⟩ : ∃ P : Nat, P = w1.heap.size + 2 := ⟨_, rfl⟩
    rw [← hP] at HP2
    rw [← hP]
    clear hP
    have hlive : ∀ w3, Below W.heap.size W w3 → Calls Tryz.prog 8 #[] w3 (fun e w4 => e = .returned (.bool true) ∧ Below W.heap.size W w4) := fun w3 hb3 => by
      refine (live17_any w3 (HR.out.below hb3)).mono ?_
      rintro e w4 ⟨rfl, hb4⟩
      exact ⟨rfl, hb3.trans (hb4.mono hb3.size)⟩
    have HLV := Lib.hid hlive
    have HB2 := Lib.hid (HB1.out.trans (HP2.out.below.mono HB1.out.size))
    clear hlive
    by_cases g1 : 200 < (l.length : Int)
    · go_wp2_with fail
      refine (HLV.out _ HB2.out).mono ?_
      rintro e w4 ⟨rfl, hb4⟩
      have HB4 := Lib.hid hb4
      clear hb4
      go_wp2_with fail
      go_ret
      exact ⟨rfl, HB4.out⟩
    · by_cases g2 : 8 < a
      · go_wp2_with fail
        refine (HLV.out _ HB2.out).mono ?_
        rintro e w4 ⟨rfl, hb4⟩
        have HB4 := Lib.hid hb4
        clear hb4
        go_wp2_with fail
        go_ret
        exact ⟨rfl, HB4.out⟩
      · by_cases g3 : 4 < (m : Int)
        · go_wp2_with fail
          refine (HLV.out _ HB2.out).mono ?_
          rintro e w4 ⟨rfl, hb4⟩
          have HB4 := Lib.hid hb4
          clear hb4
          go_wp2_with fail
          go_ret
          exact ⟨rfl, HB4.out⟩
        · have HG := Lib.hid (And.intro g1 (And.intro g2 g3))
          have e0 : w2.cell? ⟨W.heap.size + 1, 0, none⟩ = some (.int .i64 qa.kind) := fr_cell_of_heap HQ2.out rfl
          have e1 : w2.cell? ⟨W.heap.size + 1, 1, none⟩ = some (.string qa.e.need) := fr_cell_of_heap HQ2.out rfl
          have e2 : w2.cell? ⟨W.heap.size + 1, 2, none⟩ = some (.int .i64 qa.e.cls) := fr_cell_of_heap HQ2.out rfl
          have e3 : w2.cell? ⟨W.heap.size + 1, 3, none⟩ = some (.int .i64 qa.e.ten) := fr_cell_of_heap HQ2.out rfl
          have e4 : w2.cell? ⟨W.heap.size + 1, 4, none⟩ = some (.int .i64 qa.e.tw) := fr_cell_of_heap HQ2.out rfl
          have e5 : w2.cell? ⟨W.heap.size + 1, 5, none⟩ = some (.int .i64 qa.e.inv) := fr_cell_of_heap HQ2.out rfl
          have e6 : w2.cell? ⟨W.heap.size + 1, 6, none⟩ = some (.int .i64 qa.e.iw) := fr_cell_of_heap HQ2.out rfl
          have e7 : w2.cell? ⟨W.heap.size + 1, 7, none⟩ = some (.int .i64 qa.e.id) := fr_cell_of_heap HQ2.out rfl
          have e8 : w2.cell? ⟨W.heap.size + 1, 8, none⟩ = some (.int .i64 qa.e.cost) := fr_cell_of_heap HQ2.out rfl
          have e9 : w2.cell? ⟨W.heap.size + 1, 9, none⟩ = some (.string qa.plat) := fr_cell_of_heap HQ2.out rfl
          go_wp2_with fail
          refine (long17_any qa w2).mono ?_
          rintro e w3 ⟨rfl, hb3⟩
          have HP3 := Lib.hid (HP2.out.on hb3)
          have HX3 := Lib.hid ((hb3.block _ (fp_lt_of_heap HX2.out)).trans HX2.out)
          have HQ3 := Lib.hid ((hb3.block _ (fp_lt_of_heap HQ2.out)).trans HQ2.out)
          have HB3 := Lib.hid (HB2.out.trans (hb3.mono HB2.out.size))
          clear hb3 e0 e1 e2 e3 e4 e5 e6 e7 e8 e9 i0 i1
          rcases hlg : longB qa with _ | _
          · have hinv : PInv ⟨a, m, c⟩ 0 [] := ⟨by show (0 : Int) ≤ a; have := HN.out.1; omega, (fun n hn => by cases hn), (fun t ht => by cases ht), List.nodup_nil, (fun i j n m h => by simp at h), (fun n hn => by cases hn)⟩
            have HST := Lib.hid (show TuSt W w1 P W.heap.size (W.heap.size + 1) a m c qa ⟨a, m, c⟩ 0 0 w3 from
              ⟨⟨0, .slice none 0 0, [], newRho w1, HP3.out, ⟨hinv, by omega, (fun n hn => by cases hn), (fun n hn => by cases hn), (fun n hn => by cases hn), ⟨⟨HN.out.1, by have := HG.out.2.1; omega⟩, ⟨by show 1 ≤ m; have := HN.out.2.1; omega, by show m ≤ 4; have := HG.out.2.2; omega⟩, ⟨HN.out.2.2.1, HN.out.2.2.2⟩⟩⟩, turn_zero hinv, by have := fp_lt_of_heap HX1.out; simp [newRho]; omega, by have := fp_lt_of_heap HQ1.out; simp [newRho]; omega⟩, HX3.out, HQ3.out, HB3.out⟩)
            clear hinv
            go_wp2_with fail
            go_loopg [9, 8] l.length (fun g i nn wr => ∃ (k : Nat) (n : Int), g = l.length - k ∧ i = .int .i64 k ∧ nn = .int .i64 n ∧ k ≤ l.length ∧ TuSt W w1 P W.heap.size (W.heap.size + 1) a m c qa ⟨a, m, c⟩ k n wr)
            case atStart => exact ⟨0, 0, rfl, rfl, rfl, Nat.zero_le _, HST.out⟩
            case round =>
              obtain ⟨k, n, hg, rfl, rfl, hk, hT⟩ := hrel
              have HGK := Lib.hid hg
              have HT := Lib.hid hT
              clear hg hT
              by_cases hlt : k < l.length
              · obtain ⟨y, hy⟩ : ∃ y, l[k]? = some y := ⟨_, List.getElem?_eq_getElem hlt⟩
                obtain ⟨g, off, cap', hv, hc⟩ := (HA.out.below HT.out.below).at hy
                cases hv
                have HY := Lib.hid (HOK.out y (List.mem_of_getElem? hy))
                have HRA := Lib.hid hc
                have hkl : (k : Int) < (l.length : Int) := by omega
                clear hy hc
                go_upto_region 9 with (first
                  | (refine wpList_load_mid rfl 27 _ rfl g (off + k * 10) rfl (encPa y) _ HRA.out Tryz.underlying27 rfl (pa_szE y) ?_)
                  | (refine wpList_store_new rfl 27 _ _ rfl wr.heap.size rfl (encPa y).toArray rfl rfl (pa_szE y) rfl (pa_one y) ?_))
                simp only [Act.put]
                obtain ⟨next, w5v, L, ρ, hp, hlw, hti, hrx, hrq⟩ := HT.out.st
                obtain ⟨w5, hw5⟩ : ∃ w5 : World, w5 = wr.alloc (.cells (encPa y).toArray 27) := ⟨_, rfl⟩
                obtain ⟨yb, hyb⟩ : ∃ yb : Nat, yb = wr.heap.size := ⟨_, rfl⟩
                rw [← hw5, ← hyb]
                have HP5 := Lib.hid (show PlState w1 P ⟨a, m, c⟩ next w5v L (fence ρ wr) w5 by rw [hw5]; exact hp.fence.on box_below)
                have HY5 := Lib.hid (show w5.heap[yb]? = some (.cells (paC y) 27 (0, 0)) by rw [hw5, hyb]; exact fr_alloc_at)
                have HX5 := Lib.hid (show w5.heap[W.heap.size]? = some (.cells (x3C a m c) 22 (0, 0)) by rw [hw5]; exact fr_alloc_old HT.out.xh)
                have HQ5 := Lib.hid (show w5.heap[W.heap.size + 1]? = some (.cells (paC qa) 27 (0, 0)) by rw [hw5]; exact fr_alloc_old HT.out.qh)
                have HZ5 := Lib.hid (show fence ρ wr yb = [] ∧ fence ρ wr W.heap.size = [] ∧ fence ρ wr (W.heap.size + 1) = [] from ⟨by rw [hyb]; exact fence_far (Nat.le_refl _), (fence_later ρ wr _ (fp_lt_of_heap HT.out.xh)).trans hrx, (fence_later ρ wr _ (fp_lt_of_heap HT.out.qh)).trans hrq⟩)
                have HLW := Lib.hid hlw
                have HTI := Lib.hid hti
                have HB5 := Lib.hid (show Below W.heap.size W w5 by rw [hw5]; exact HT.out.below.alloc HT.out.below.size _)
                clear hw5 hyb hp hlw hti hrx hrq
                go_wp2_with (refine wpList_load_agg (cs := paC y) 27 HY5.out Tryz.underlying27 rfl (pa_sz y) rfl _ rfl rfl ?_)
                refine (long17_any y w5).mono ?_
                rintro e w6 ⟨rfl, hb6⟩
                have HP6 := Lib.hid (HP5.out.on hb6)
                have HY6 := Lib.hid ((hb6.block _ (fp_lt_of_heap HY5.out)).trans HY5.out)
                have HX6 := Lib.hid ((hb6.block _ (fp_lt_of_heap HX5.out)).trans HX5.out)
                have HQ6 := Lib.hid ((hb6.block _ (fp_lt_of_heap HQ5.out)).trans HQ5.out)
                have HB6 := Lib.hid (HB5.out.trans (hb6.mono HB5.out.size))
                clear hb6
                rcases hly : longB y with _ | _
                · have HLG := Lib.hid (show y.e.need.size ≤ 200 ∧ y.plat.size ≤ 200 by
                    unfold longB at hly
                    simp only [Bool.or_eq_false_iff, decide_eq_false_iff_not] at hly
                    omega)
                  have HQL := Lib.hid (show qa.e.need.size ≤ 200 ∧ qa.plat.size ≤ 200 by
                    unfold longB at hlg
                    simp only [Bool.or_eq_false_iff, decide_eq_false_iff_not] at hlg
                    omega)
                  have HKK := Lib.hid (show k ≤ 200 by have := HG.out.1; omega)
                  have y0 : w6.cell? ⟨yb, 0, none⟩ = some (.int .i64 y.kind) := fr_cell_of_heap HY6.out rfl
                  have y1 : w6.cell? ⟨yb, 1, none⟩ = some (.string y.e.need) := fr_cell_of_heap HY6.out rfl
                  have HOP := Lib.hid (fun (e : Ending) (w' : World) => mid_op (W := W) (a := a) (b := (m : Int)) (c := c) (qa := qa) (k := k) (e := e) (w' := w') HP6.out HB1.out.size HB6.out HTI.out HX6.out HQ6.out HZ5.out.2.1 HZ5.out.2.2)
                  go_upto_block 2 with fail
                  go_cut [8] (fun nn wx => ∃ n', nn = .int .i64 n' ∧ TuMid W w1 P W.heap.size (W.heap.size + 1) a m c qa ⟨a, m, c⟩ k n' wx)
                  case first =>
                    by_cases k0 : y.kind = 0
                    · have kb0 : (y.kind == 0) = true := beq_iff_eq.2 k0
                      clear k0
                      go_wp2_with fail
                      refine (pl_enter y.e.need HP6.out.pool HLW.out HKK.out HLG.out.1).mono ?_
                      rintro e w7 ho
                      obtain ⟨u, rfl, hM⟩ := HOP.out e w7 ho
                      have HM := Lib.hid hM
                      clear ho hM
                      go_wp2_with fail
                      go_meet
                      case rel => exact ⟨n, rfl, HM.out⟩
                    · have kb0 : (y.kind == 0) = false := beq_eq_false_iff_ne.2 k0
                      clear k0
                      by_cases k1 : y.kind = 1
                      · have kb1 : (y.kind == 1) = true := beq_iff_eq.2 k1
                        clear k1
                        go_wp2_with fail
                        refine (pl_leave y.e.need HP6.out.pool HLW.out HKK.out).mono ?_
                        rintro e w7 ho
                        obtain ⟨u, rfl, hM⟩ := HOP.out e w7 ho
                        have HM := Lib.hid hM
                        clear ho hM
                        go_wp2_with fail
                        go_meet
                        case rel => exact ⟨n, rfl, HM.out⟩
                      · have kb1 : (y.kind == 1) = false := beq_eq_false_iff_ne.2 k1
                        clear k1
                        by_cases k2 : y.kind = 2
                        · have kb2 : (y.kind == 2) = true := beq_iff_eq.2 k2
                          clear k2
                          go_wp2_with (refine wpList_load_mid rfl 25 _ rfl yb 1 rfl (entL y.e) _ (pa_ent HY6.out) Tryz.underlying25 rfl (entL_sz y.e) ?_)
                          refine (pl_push y.e HP6.out.pool HLW.out HKK.out HY.out.2.1 HY.out.2.2.1 HY.out.2.2.2).mono ?_
                          rintro e w7 ho
                          obtain ⟨u, rfl, hM⟩ := HOP.out e w7 ho
                          have HM := Lib.hid hM
                          clear ho hM
                          go_wp2_with fail
                          go_meet
                          case rel => exact ⟨n, rfl, HM.out⟩
                        · have kb2 : (y.kind == 2) = false := beq_eq_false_iff_ne.2 k2
                          clear k2
                          by_cases k3 : y.kind = 3
                          · have kb3 : (y.kind == 3) = true := beq_iff_eq.2 k3
                            clear k3
                            go_wp2_with (refine wpList_load_mid rfl 25 _ rfl yb 1 rfl (entL y.e) _ (pa_ent HY6.out) Tryz.underlying25 rfl (entL_sz y.e) ?_)
                            refine (pl_drop y.e HP6.out.pool HLW.out HKK.out HY.out.2.2.2).mono ?_
                            rintro e w7 ho
                            obtain ⟨u, rfl, hM⟩ := HOP.out e w7 ho
                            have HM := Lib.hid hM
                            clear ho hM
                            go_wp2_with fail
                            go_meet
                            case rel => exact ⟨n, rfl, HM.out⟩
                          · have kb3 : (y.kind == 3) = false := beq_eq_false_iff_ne.2 k3
                            clear k3
                            have y2 : w6.cell? ⟨yb, 2, none⟩ = some (.int .i64 y.e.cls) := fr_cell_of_heap HY6.out rfl
                            have y9 : w6.cell? ⟨yb, 9, none⟩ = some (.string y.plat) := fr_cell_of_heap HY6.out rfl
                            have q1 : w6.cell? ⟨W.heap.size + 1, 1, none⟩ = some (.string qa.e.need) := fr_cell_of_heap HQ6.out rfl
                            have q2 : w6.cell? ⟨W.heap.size + 1, 2, none⟩ = some (.int .i64 qa.e.cls) := fr_cell_of_heap HQ6.out rfl
                            obtain ⟨t, hwt, hwd⟩ := waits_any qa.e.need qa.e.cls w6 HP6.out.pool HLW.out HKK.out
                            have HWD := Lib.hid hwd
                            clear hwd
                            go_wp2_with fail
                            refine hwt.mono ?_
                            rintro e w7 ⟨rfl, hb7⟩
                            have HP7 := Lib.hid (HP6.out.on hb7)
                            have HX7 := Lib.hid ((hb7.block _ (fp_lt_of_heap HX6.out)).trans HX6.out)
                            have HQ7 := Lib.hid ((hb7.block _ (fp_lt_of_heap HQ6.out)).trans HQ6.out)
                            have HY7 := Lib.hid ((hb7.block _ (fp_lt_of_heap HY6.out)).trans HY6.out)
                            have HB7 := Lib.hid (HB6.out.trans (hb7.mono HB6.out.size))
                            clear hb7 hwt y0 y1 y2 y9 q1 q2
                            have y2 : w7.cell? ⟨yb, 2, none⟩ = some (.int .i64 y.e.cls) := fr_cell_of_heap HY7.out rfl
                            have y9 : w7.cell? ⟨yb, 9, none⟩ = some (.string y.plat) := fr_cell_of_heap HY7.out rfl
                            go_wp2_with fail
                            refine (pl_take y.plat y.e.cls w7 (HR.out.below HB7.out) HP7.out.pool HLW.out HKK.out HLG.out.2).mono ?_
                            rintro e w8 ⟨E, ok, next', v', L', rfl, hT, hlw, hE⟩
                            obtain ⟨hE1, hE2⟩ := hE qa.e.need qa.e.cls n t HWD.out HTI.out
                            have HY8 := Lib.hid (show w8.heap[yb]? = some (.cells (paC y) 27 (0, 0)) from by
                              obtain ⟨ρ2, _, _, _, hF⟩ := id hT
                              exact pkeep hF HY7.out HZ5.out.1)
                            have hM := mid_take (k := k) HP7.out HB1.out.size HB7.out HX7.out HQ7.out HZ5.out.2.1 HZ5.out.2.2 hT hlw hE2
                            have HM8 := Lib.hid hM
                            have HE1 := Lib.hid hE1
                            have HQ8 := Lib.hid hM.qh
                            clear hT hlw hE hE1 hE2 hM y2 y9
                            go_upto_region 14 with (refine wpList_store_new rfl 25 _ _ rfl w8.heap.size rfl (entC E) rfl rfl (ent_sz E) rfl (ent_one E) ?_)
                            obtain ⟨eb, heb⟩ : ∃ eb : Nat, eb = w8.heap.size := ⟨_, rfl⟩
                            obtain ⟨w9, hw9⟩ : ∃ w9 : World, w9 = w8.alloc (.cells (entC E) 25) := ⟨_, rfl⟩
                            rw [← heb, ← hw9]
                            have HM9 := Lib.hid (HM8.out.on (show Below w8.heap.size w8 w9 by rw [hw9]; exact box_below))
                            have HY9 := Lib.hid (show w9.heap[yb]? = some (.cells (paC y) 27 (0, 0)) by rw [hw9]; exact fr_alloc_old HY8.out)
                            have HQ9 := Lib.hid (show w9.heap[W.heap.size + 1]? = some (.cells (paC qa) 27 (0, 0)) by rw [hw9]; exact fr_alloc_old HQ8.out)
                            have HE9 := Lib.hid (show w9.heap[eb]? = some (.cells (entC E) 25 (0, 0)) by rw [hw9, heb]; exact fr_alloc_at)
                            clear hw9 heb
                            have y9 : w9.cell? ⟨yb, 9, none⟩ = some (.string y.plat) := fr_cell_of_heap HY9.out rfl
                            have q1 : w9.cell? ⟨W.heap.size + 1, 1, none⟩ = some (.string qa.e.need) := fr_cell_of_heap HQ9.out rfl
                            go_cut [14] (fun cc wx => cc = .bool (couldB y.plat y.e.cls qa.e.need qa.e.cls) ∧ Below w9.heap.size w9 wx)
                            case first =>
                              go_wp2_with fail
                              refine (rmatch_any y.plat qa.e.need w9 (by have := HLG.out.2; omega) (by have := HQL.out.1; omega)).mono ?_
                              rintro e w10 ⟨rfl, hb10⟩
                              have y2 : w10.cell? ⟨yb, 2, none⟩ = some (.int .i64 y.e.cls) := fr_cell_of_heap ((hb10.block _ (fp_lt_of_heap HY9.out)).trans HY9.out) rfl
                              have q2 : w10.cell? ⟨W.heap.size + 1, 2, none⟩ = some (.int .i64 qa.e.cls) := fr_cell_of_heap ((hb10.block _ (fp_lt_of_heap HQ9.out)).trans HQ9.out) rfl
                              have HB10 := Lib.hid hb10
                              clear hb10 y9 q1
                              rcases hmt : matchP y.plat qa.e.need with _ | _
                              · go_wp2_with fail
                                go_meet
                                case rel => exact ⟨by unfold couldB; rw [hmt]; rfl, HB10.out⟩
                              · go_wp2_with fail
                                go_meet
                                case rel => exact ⟨by unfold couldB; rw [hmt]; simp, HB10.out⟩
                            case rest =>
                              obtain ⟨rfl, hb10⟩ := hcut
                              have hM10 := HM9.out.on hb10
                              have HE10 := (hb10.block _ (fp_lt_of_heap HE9.out)).trans HE9.out
                              have q1 : wc.cell? ⟨W.heap.size + 1, 1, none⟩ = some (.string qa.e.need) := fr_cell_of_heap hM10.qh rfl
                              have q2 : wc.cell? ⟨W.heap.size + 1, 2, none⟩ = some (.int .i64 qa.e.cls) := fr_cell_of_heap hM10.qh rfl
                              have e0 : wc.cell? ⟨eb, 0, none⟩ = some (.string E.need) := fr_cell_of_heap HE10 rfl
                              have e1 : wc.cell? ⟨eb, 1, none⟩ = some (.int .i64 E.cls) := fr_cell_of_heap HE10 rfl
                              have HM10 := Lib.hid hM10
                              clear hM10 HE10 hb10
                              have HK := Lib.hid (fun (n' : Int) (ht : tookM (decide (0 < t)) (couldB y.plat y.e.cls qa.e.need qa.e.cls) ok E qa.e.need qa.e.cls n = n') => ht ▸ HM10.out)
                              clear HM10
                              have HEE := Lib.hid (show ∀ b, (E.need.toList == qa.e.need.toList) = b → eqS E.need qa.e.need = b from fun b h => h)
                              generalize couldB y.plat y.e.cls qa.e.need qa.e.cls = cd at HK HE1 ⊢
                              generalize decide (0 < t) = wt at HK HE1 ⊢
                              have HW1 := Lib.hid (show wrap64 (n + 1) = n + 1 by
                                have h1 := HN.out; have h2 := HG.out.2
                                have h3 : a * (m : Int) ≤ 8 * 4 := Int.mul_le_mul (by omega) (by omega) (by omega) (by omega)
                                have h4 := turn_lt HTI.out HLW.out.inv (show 1 ≤ a by omega) (show 1 ≤ m by omega)
                                have h5 := HTI.out.1
                                have h6 : n < a * (m : Int) := h4
                                exact wrap_id (by omega) (by omega))
                              rcases wt with _ | _
                              · clear HE1
                                rcases ok with _ | _
                                · clear e0 e1 q1 q2 HEE
                                  go_wp2_with fail
                                  go_meet
                                  case rel => exact ⟨_, rfl, HK.out _ (by unfold tookM; simp)⟩
                                · rcases kne : (E.need.toList == qa.e.need.toList) with _ | _
                                  · have kn := HEE.out _ kne
                                    go_wp2_with fail
                                    go_meet
                                    case rel => exact ⟨_, rfl, HK.out _ (by unfold tookM; rw [kn]; simp)⟩
                                  · have kn := HEE.out _ kne
                                    rcases kce : (E.cls == qa.e.cls) with _ | _
                                    · go_wp2_with fail
                                      go_meet
                                      case rel => exact ⟨_, rfl, HK.out _ (by unfold tookM; rw [kn, kce]; simp)⟩
                                    · go_wp2_with fail
                                      go_meet
                                      case rel => exact ⟨_, rfl, HK.out _ (by unfold tookM; rw [kn, kce]; simp)⟩
                              · rcases cd with _ | _
                                · clear HE1
                                  rcases ok with _ | _
                                  · clear e0 e1 q1 q2 HEE
                                    go_wp2_with fail
                                    go_meet
                                    case rel => exact ⟨_, rfl, HK.out _ (by unfold tookM; simp)⟩
                                  · rcases kne : (E.need.toList == qa.e.need.toList) with _ | _
                                    · have kn := HEE.out _ kne
                                      go_wp2_with fail
                                      go_meet
                                      case rel => exact ⟨_, rfl, HK.out _ (by unfold tookM; rw [kn]; simp)⟩
                                    · have kn := HEE.out _ kne
                                      rcases kce : (E.cls == qa.e.cls) with _ | _
                                      · go_wp2_with fail
                                        go_meet
                                        case rel => exact ⟨_, rfl, HK.out _ (by unfold tookM; rw [kn, kce]; simp)⟩
                                      · go_wp2_with fail
                                        go_meet
                                        case rel => exact ⟨_, rfl, HK.out _ (by unfold tookM; rw [kn, kce]; simp)⟩
                                · obtain rfl : ok = true := by
                                    have := HE1.out
                                    simpa using this
                                  clear HE1
                                  rcases kne : (E.need.toList == qa.e.need.toList) with _ | _
                                  · have kn := HEE.out _ kne
                                    go_wp2_with fail
                                    go_meet
                                    case rel => exact ⟨_, rfl, HK.out _ (by unfold tookM; rw [kn]; simp [HW1.out])⟩
                                  · have kn := HEE.out _ kne
                                    rcases kce : (E.cls == qa.e.cls) with _ | _
                                    · go_wp2_with fail
                                      go_meet
                                      case rel => exact ⟨_, rfl, HK.out _ (by unfold tookM; rw [kn, kce]; simp [HW1.out])⟩
                                    · go_wp2_with fail
                                      go_meet
                                      case rel => exact ⟨_, rfl, HK.out _ (by unfold tookM; rw [kn, kce]; simp)⟩
                  case rest =>
                    obtain ⟨n', rfl, hM⟩ := hcut
                    have HM := Lib.hid hM
                    obtain ⟨next', v', L', ρ', hp7, hlw7, hti7, hrx7, hrq7⟩ := hM.st
                    have q1 : wc.cell? ⟨W.heap.size + 1, 1, none⟩ = some (.string qa.e.need) := fr_cell_of_heap hM.qh rfl
                    have q2 : wc.cell? ⟨W.heap.size + 1, 2, none⟩ = some (.int .i64 qa.e.cls) := fr_cell_of_heap hM.qh rfl
                    obtain ⟨t, hwt, hwd⟩ := waits_any qa.e.need qa.e.cls wc hp7.pool hlw7 (by have := HKK.out; have := HG.out.1; omega)
                    have HWD := Lib.hid hwd
                    have HTI7 := Lib.hid hti7
                    have HST7 := Lib.hid (And.intro hp7 (And.intro hlw7 (And.intro hrx7 hrq7)))
                    clear hM hwd hti7 hp7 hlw7 hrx7 hrq7 y0 y1
                    go_wp2_with fail
                    refine hwt.mono ?_
                    rintro e w8 ⟨rfl, hb8⟩
                    have HX8 := Lib.hid ((hb8.block _ (fp_lt_of_heap HM.out.xh)).trans HM.out.xh)
                    have HQ8 := Lib.hid ((hb8.block _ (fp_lt_of_heap HM.out.qh)).trans HM.out.qh)
                    have HP8 := Lib.hid (HST7.out.1.on hb8)
                    have HB8 := Lib.hid (HM.out.below.trans (hb8.mono HM.out.below.size))
                    clear hb8 hwt q1 q2
                    have i0 : w8.cell? ⟨W.heap.size, 0, none⟩ = some (.int .i64 a) := fr_cell_of_heap HX8.out rfl
                    have i1 : w8.cell? ⟨W.heap.size, 1, none⟩ = some (.int .i64 m) := fr_cell_of_heap HX8.out rfl
                    have HWR := Lib.hid (show wrap64 (a * m) = a * m by
                      have h1 := HN.out; have h2 := HG.out.2
                      have h3 : a * (m : Int) ≤ 8 * 4 := Int.mul_le_mul (by omega) (by omega) (by omega) (by omega)
                      have h4 : 0 ≤ a * (m : Int) := Int.mul_nonneg (by omega) (by omega)
                      exact wrap_id (by omega) (by omega))
                    have HLT := Lib.hid (fun (m' : Int) (hm : m' = 0 ∨ (m' = n' ∧ ∃ d, Asked L' qa.e.need qa.e.cls d ∧ 0 < totT d.rows)) => turn_lt (HTI7.out m' hm) HST7.out.2.1.inv (by have := HST7.out.2.1.px; omega) (by have := HST7.out.2.1.px; omega))
                    have HN8 := Lib.hid (fun (m' : Int) (hm : m' = 0 ∨ (m' = n' ∧ ∃ d, Asked L' qa.e.need qa.e.cls d ∧ 0 < totT d.rows)) => (show TuSt W w1 P W.heap.size (W.heap.size + 1) a m c qa ⟨a, m, c⟩ (k + 1) m' w8 from ⟨⟨next', v', L', ρ', HP8.out, HST7.out.2.1, HTI7.out m' hm, HST7.out.2.2.1, HST7.out.2.2.2⟩, HX8.out, HQ8.out, HB8.out⟩))
                    clear HTI7
                    rcases Nat.eq_zero_or_pos t with h0 | h0
                    · have kt : ((t : Int) == 0) = true := by subst h0; rfl
                      have HT8 := Lib.hid (HN8.out 0 (.inl rfl))
                      have gl : ¬ (wrap64 (a * (m : Int)) ≤ 0) := by
                        rw [HWR.out]
                        have h1 : (0 : Int) < a * m := HLT.out 0 (.inl rfl)
                        exact Int.not_le.2 h1
                      clear h0 HWD
                      go_wp2_with fail
                      go_roundg (l.length - (k + 1))
                      case rel => exact ⟨k + 1, 0, rfl, by go_num, rfl, by omega, HT8.out⟩
                      case measure => have := HGK.out; omega
                    · have kt : ((t : Int) == 0) = false := by simp; omega
                      have hd := HWD.out.1 h0
                      have HT8 := Lib.hid (HN8.out n' (.inr ⟨rfl, hd⟩))
                      have gl : ¬ (wrap64 (a * (m : Int)) ≤ n') := by
                        rw [HWR.out]
                        have h1 : n' < a * (m : Int) := HLT.out n' (.inr ⟨rfl, hd⟩)
                        exact Int.not_le.2 h1
                      clear h0 HWD hd
                      go_wp2_with fail
                      go_roundg (l.length - (k + 1))
                      case rel => exact ⟨k + 1, n', rfl, by go_num, rfl, by omega, HT8.out⟩
                      case measure => have := HGK.out; omega
                · go_wp2_with fail
                  refine (HLV.out _ HB6.out).mono ?_
                  rintro e w7 ⟨rfl, hb7⟩
                  have HB7 := Lib.hid hb7
                  clear hb7
                  go_wp2_with fail
                  go_ret
                  exact ⟨rfl, HB7.out⟩
              · go_wp2_with fail
                refine (HLV.out _ HT.out.below).mono ?_
                rintro e w4 ⟨rfl, hb4⟩
                have HB4 := Lib.hid hb4
                clear hb4
                go_wp2_with fail
                go_ret
                exact ⟨rfl, HB4.out⟩
          · go_wp2_with fail
            refine (HLV.out _ HB3.out).mono ?_
            rintro e w4 ⟨rfl, hb4⟩
            have HB4 := Lib.hid hb4
            clear hb4
            go_wp2_with fail
            go_ret
            exact ⟨rfl, HB4.out⟩
  · have HN := Lib.hid hn
    go_wp2_with fail
    refine (pnew_nil a b c w1 HN.out).mono ?_
    rintro e w2 ⟨rfl, hb2⟩
    have HX2 := Lib.hid ((hb2.block _ (fp_lt_of_heap HX1.out)).trans HX1.out)
    have HB2 := Lib.hid (HB1.out.trans (hb2.mono HB1.out.size))
    have HLV := Lib.hid (show ∀ w3, Below W.heap.size W w3 → Calls Tryz.prog 8 #[] w3 (fun e w4 => e = .returned (.bool true) ∧ Below W.heap.size W w4) from fun w3 hb3 => by
      refine (live17_any w3 (HR.out.below hb3)).mono ?_
      rintro e w4 ⟨rfl, hb4⟩
      exact ⟨rfl, hb3.trans (hb4.mono hb3.size)⟩)
    clear hb2 i0 i1 i2 hn
    have i0 : w2.cell? ⟨W.heap.size, 0, none⟩ = some (.int .i64 a) := fr_cell_of_heap HX2.out rfl
    have i1 : w2.cell? ⟨W.heap.size, 1, none⟩ = some (.int .i64 b) := fr_cell_of_heap HX2.out rfl
    by_cases g1 : 200 < (l.length : Int)
    · go_wp2_with fail
      refine (HLV.out _ HB2.out).mono ?_
      rintro e w4 ⟨rfl, hb4⟩
      have HB4 := Lib.hid hb4
      clear hb4
      go_wp2_with fail
      go_ret
      exact ⟨rfl, HB4.out⟩
    · by_cases g2 : 8 < a
      · go_wp2_with fail
        refine (HLV.out _ HB2.out).mono ?_
        rintro e w4 ⟨rfl, hb4⟩
        have HB4 := Lib.hid hb4
        clear hb4
        go_wp2_with fail
        go_ret
        exact ⟨rfl, HB4.out⟩
      · by_cases g3 : 4 < b
        · go_wp2_with fail
          refine (HLV.out _ HB2.out).mono ?_
          rintro e w4 ⟨rfl, hb4⟩
          have HB4 := Lib.hid hb4
          clear hb4
          go_wp2_with fail
          go_ret
          exact ⟨rfl, HB4.out⟩
        · go_wp2_with fail
          refine (HLV.out _ HB2.out).mono ?_
          rintro e w4 ⟨rfl, hb4⟩
          have HB4 := Lib.hid hb4
          clear hb4
          go_wp2_with fail
          go_ret
          exact ⟨rfl, HB4.out⟩
end Go.Proofs.YtdbjihkgafhakaaGreatDoor
