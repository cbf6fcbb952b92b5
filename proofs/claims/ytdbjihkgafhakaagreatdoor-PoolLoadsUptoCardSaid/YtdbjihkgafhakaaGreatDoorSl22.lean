/-
 law17: Same of loaded pools: the walk.
 flow.Load: the walk.
 share.Share.load: a row that is loaded: the walk.
-/
import Derived.Test.YtdbjihkgafhakaaGreatDoorSl21
import Derived.Test.YtdbjihkgafhakaaGreatDoorSl08
import Derived.Test.YtdbjihkgafhakaaGreatDoorSl07
import Derived.Test.YtdbjihkgafhakaaGreatDoorSl09
import Derived.Lib.QuietBelow
import Derived.BigQuiet
namespace Go.Proofs.YtdbjihkgafhakaaGreatDoor
open Go.RowKit Go.Sort
theorem ZjJ {x : PX} {next : Int} {L : List PN} (h : Lv x next L) {m : Nat} {n : PN} (hn : L[m]? = some n) : ZR n.name L = m := by
 rw [Znn]
 refine Zl3 (by rw [List.getElem?_map, hn]; rfl) (Zeb _) (fun j y hj hy => ?_)
 rw [List.getElem?_map] at hy
 rcases hq : L[j]? with _ | q
 ·rw [hq] at hy; cases hy
 ·rw [hq] at hy
  obtain rfl := Option.some.inj hy
  rcases he : eqS q.name n.name with _ | _
  ·rfl
  ·have := h.names j m q n hq hn (Zih he)
   omega
set_option maxRecDepth 100000 in
set_option maxHeartbeats 16000000 in
theorem ZjK {W : World} {P b : Nat} {x : PX} {next : Int} {v dv : Value} {L : List PN} {ρ : Roles} {l : List QP} (w : World) (h : BothV W P b x next v L ρ dv l w) :
 Calls Tryz.prog 17 #[.pointer (some ⟨P, 0, none⟩), .agg (pC x next dv)] w (Zc2 w) := by
 have H := Lib.hid (h.on (box_below (o := .cells (pC x next dv) 45)))
 have hll : L.length = l.length := ZgA h.abs
 have HO := Lib.hid (h.lw.ok)
 obtain ⟨da, dc, hdv, -⟩ := h.doc.rows.form
 subst hdv
 have HF := Lib.hid (show l.length ≤ 1000 from h.doc.few)
 clear h
 unfold pC at H ⊢
 go_enter Tryz.func17, Tryz.ntmps17
 go_upto_region 1 with fail
 obtain ⟨w1, hw1⟩ : ∃ w1 : World, w1 = w.alloc (.cells #[.int .i64 x.pools, .int .i64 x.classes, .int .i64 x.q, .int .i64 next, .slice da l.length dc] 45) := ⟨_, rfl⟩
 obtain ⟨bx, hbx⟩ : ∃ bx : Nat, bx = w.heap.size := ⟨_, rfl⟩
 rw [← hw1] at H
 rw [← hw1, ← hbx]
 have HX1 := Lib.hid (show w1.heap[bx]? = some (.cells (pC x next (.slice da l.length dc)) 45 (0, 0)) by rw [hw1, hbx]; exact Zf)
 have HB1 := Lib.hid (show Below w.heap.size w w1 by rw [hw1]; exact box_below)
 clear hw1 hbx
 go_wp2_with fail
 refine (Zme w1 H.out.st.pool HO.out).mono ?_
 rintro e w2 ⟨v2, rs, rfl, hsl, hrl, hra, hb2⟩
 rw [hll] at hsl hrl
 obtain ⟨ra, rc, hrv, -⟩ : ∃ ra rc, v2 = .slice ra l.length rc ∧ True := by obtain ⟨ra, rc, e, _⟩ := hsl.form; exact ⟨ra, rc, e, trivial⟩
 subst hrv
 have HSL := Lib.hid hsl
 have HRL := Lib.hid hrl
 have HRA := Lib.hid hra
 have H2 := Lib.hid (H.out.on hb2)
 have HX2 := Lib.hid ((hb2.block _ (Zb HX1.out)).trans HX1.out)
 have HB2 := Lib.hid (HB1.out.trans (hb2.mono HB1.out.size))
 clear hsl hrl hra hb2
 have b3 : w2.cell? ⟨bx, 3, none⟩ = some (.int .i64 next) := Za HX2.out rfl
 have b4 : w2.cell? ⟨bx, 4, none⟩ = some (.slice da l.length dc) := Za HX2.out rfl
 have h0 : Below w2.heap.size w2 w2.drew := ⟨rfl, rfl, rfl, Nat.le_refl _, fun _ _ => rfl⟩
 go_upto_region 2 with fail
 go_region_held3 (fun w' => w'.cell? ⟨bx, 3, none⟩ = some (.int .i64 next) ∧ w'.cell? ⟨bx, 4, none⟩ = some (.slice da l.length dc))
  (first | go_keep | exact ⟨Zc hb6 b3, Zc hb6 b4⟩)
  (first | (go_at_call 46; refine (Zl7 _ (H2.out.on h0).st.pool).mono ?_; rintro e w6 ⟨rfl, hb6'⟩; (have hb6 := Zr h0 hb6'); clear hb6'))
 have HB6 := Lib.hid (HB2.out.trans (hb6.mono HB2.out.size))
 have H6 := Lib.hid (H2.out.on hb6)
 have HX6 := Lib.hid ((hb6.block _ (Zb HX2.out)).trans HX2.out)
 have HSL6 := Lib.hid (HSL.out.below hb6)
 have HRA6 := Lib.hid (show ∀ (i : Nat) r n, rs[i]? = some r → L[i]? = some n → PRAt w6 n r from fun i r n h1 h2 => (HRA.out i r n h1 h2).below hb6)
 clear hb6 b3 b4 h0
 have hf := HF.out
 go_wp2_with fail
 go_loopg [6] l.length (fun g i wr => ∃ m : Nat, g = l.length - m ∧ i = .int .i64 m ∧ m ≤ l.length ∧ Below w6.heap.size w6 wr)
 case atStart => exact ⟨0, rfl, rfl, Nat.zero_le _, Below.refl _ _⟩
 case round =>
  obtain ⟨m, hg, rfl, hm, hb⟩ := hrel
  have HG := Lib.hid hg
  have HB := Lib.hid hb
  clear hg hb
  by_cases hlt : m < l.length
  ·obtain ⟨n, hn⟩ : ∃ n, L[m]? = some n := ⟨_, List.getElem?_eq_getElem (by omega)⟩
   obtain ⟨p, hp, hnp⟩ := ZcZ H6.out.abs hn
   obtain ⟨r, hr⟩ : ∃ r, rs[m]? = some r := ⟨_, List.getElem?_eq_getElem (by have := HRL.out; omega)⟩
   have HN := Lib.hid hn
   have HP := Lib.hid hp
   have HNP := Lib.hid hnp
   have HR := Lib.hid hr
   have hml : (m : Int) < (l.length : Int) := by omega
   obtain ⟨hac1, hac2, hac3⟩ := Zbk hnp
   have hxl := H6.out.doc.lens p (List.mem_of_getElem? hp)
   have hcx : n.cls.length = x.classes := by omega
   have HPR := Lib.hid (HRA6.out m r n hr hn)
   have hru : r.uses = p.uses := HPR.out.uses.trans (congrArg AR.uses hnp)
   have hrn : r.name = p.name := HPR.out.name.trans hac3
   have HD := Lib.hid (H6.out.doc.below HB.out)
   obtain ⟨g, off, hda, hc1⟩ := HD.out.rows.cells ZaW (by decide) hp
   subst hda
   have hQ := HD.out.inv p (List.mem_of_getElem? hp)
   obtain ⟨sa, sc, hsv, -⟩ := hQ.sv.form
   obtain ⟨ha, hc, hhv, -⟩ := hQ.hv.form
   rw [hxl.1] at hsv
   rw [hxl.2] at hhv
   have HSV := Lib.hid hsv
   have HHV := Lib.hid hhv
   have HRG := Lib.hid (show wr.rangeAt g (off + m * 4) [.string p.name, .int .i64 p.uses, .slice sa x.classes sc, .slice ha x.classes hc] from fun j u hu => hc1 j u (by unfold encQP; rw [hsv, hhv]; exact hu))
   have b4 : wr.cell? ⟨bx, 4, none⟩ = some (.slice (some ⟨g, off, none⟩) l.length dc) := Za ((HB.out.block _ (Zb HX6.out)).trans HX6.out) rfl
   have HXL := Lib.hid hxl
   have HCX := Lib.hid hcx
   have HRN := Lib.hid (And.intro hrn hru)
   clear hn hp hnp hr hac1 hac2 hac3 hru hrn hc1 hQ hsv hhv hxl hcx
   go_upto_region 8 with (refine wpList_load_mid rfl 55 _ rfl g (off + m * 4) rfl [.string p.name, .int .i64 p.uses, .slice sa x.classes sc, .slice ha x.classes hc] _ HRG.out Tryz.underlying55 rfl (qp_sz p) ?_)
   obtain ⟨w3, hw3⟩ : ∃ w3 : World, w3 = wr.alloc (.cells #[.string p.name, .int .i64 p.uses, .slice sa x.classes sc, .slice ha x.classes hc] 55) := ⟨_, rfl⟩
   obtain ⟨xb, hxb⟩ : ∃ xb : Nat, xb = wr.heap.size := ⟨_, rfl⟩
   rw [← hw3, ← hxb]
   have HX3 := Lib.hid (show w3.heap[xb]? = some (.cells #[.string p.name, .int .i64 p.uses, .slice sa x.classes sc, .slice ha x.classes hc] 55 (0, 0)) by rw [hw3, hxb]; exact Zf)
   have HB3 := Lib.hid (show Below w6.heap.size w6 w3 by rw [hw3]; exact HB.out.alloc HB.out.size _)
   clear hw3 hxb b4
   have hsv2 : n.cls.map PC.served = p.served := congrArg AR.served HNP.out
   obtain ⟨qa, qc, hqv, -⟩ := HPR.out.sv.form
   obtain ⟨sl, hsl2, hlk⟩ := HPR.out.hv
   obtain ⟨ea, ec, hev, -⟩ := hsl2.form
   obtain ⟨ga, gc, hgv, -⟩ := HPR.out.gv.form
   rw [HCX.out] at hqv hev hgv
   have HU := Lib.hid (show SlAt w6 (.slice qa x.classes qc) p.served.length (p.served.flatMap encZ) by have h := HPR.out.sv; rw [hqv, hsv2, HCX.out, ← HXL.out.1] at h; rw [← HXL.out.1]; exact h)
   have HV := Lib.hid (show SlAt w6 (.slice sa x.classes sc) p.served.length (p.served.flatMap encZ) by have h := (H6.out.doc.inv p (List.mem_of_getElem? HP.out)).sv; rw [HSV.out] at h; exact h)
   have HE := Lib.hid (show SlAt w6 (.slice ea x.classes ec) x.classes sl by have h := hsl2; rw [hev, HCX.out] at h; exact h)
   have HGV := Lib.hid (show SlAt w6 (.slice ga x.classes gc) x.classes (n.cls.map (fun c => Value.bool c.gv)) by have h := HPR.out.gv; rw [hgv, HCX.out] at h; exact h)
   have HLK := Lib.hid hlk
   obtain ⟨g2, off2, hra, hce⟩ := (HSL6.out.below HB3.out).cells Zmc (by decide) HR.out
   subst hra
   have e0 : w3.cell? ⟨g2, off2 + m * 5, none⟩ = some (.string p.name) := by have h := hce 0 _ rfl; rw [HRN.out.1] at h; exact h
   have e1 : w3.cell? ⟨g2, off2 + m * 5 + 1, none⟩ = some (.int .i64 p.uses) := by have h := hce 1 _ rfl; rw [HRN.out.2] at h; exact h
   have e2 : w3.cell? ⟨g2, off2 + m * 5 + 2, none⟩ = some (.slice qa x.classes qc) := by have h := hce 2 _ rfl; rw [hqv] at h; exact h
   have e3 : w3.cell? ⟨g2, off2 + m * 5 + 3, none⟩ = some (.slice ea x.classes ec) := by have h := hce 3 _ rfl; rw [hev] at h; exact h
   have e4 : w3.cell? ⟨g2, off2 + m * 5 + 4, none⟩ = some (.slice ga x.classes gc) := by have h := hce 4 _ rfl; rw [hgv] at h; exact h
   have HEC := Lib.hid (And.intro e3 e4)
   have hx1 : w3.heap[bx]? = some (.cells (pC x next (.slice (some ⟨g, off, none⟩) l.length dc)) 45 (0, 0)) := (HB3.out.block _ (Zb HX6.out)).trans HX6.out
   have r0 := cell_regrown e0
   have r1 := cell_regrown e1
   have r2 := cell_regrown e2
   have r3 := cell_regrown e3
   have r4 := cell_regrown e4
   have x0 := cell_regrown (show w3.cell? ⟨xb, 0, none⟩ = some (.string p.name) from Za HX3.out rfl)
   have x1 := cell_regrown (show w3.cell? ⟨xb, 1, none⟩ = some (.int .i64 p.uses) from Za HX3.out rfl)
   have x2 := cell_regrown (show w3.cell? ⟨xb, 2, none⟩ = some (.slice sa x.classes sc) from Za HX3.out rfl)
   have b1 := cell_regrown (show w3.cell? ⟨bx, 1, none⟩ = some (.int .i64 x.classes) from Za hx1 rfl)
   have hcl : x.classes ≤ 4 := H6.out.lw.px.2.1.2
   have hint : ∀ (d : Nat) (os : Array Obj), Calls Tryz.prog 47 #[.slice qa x.classes qc, .slice sa x.classes sc] (grow (redrawn w3 d) os) fun e w' => e = .returned (.bool true) ∧ Below (grow (redrawn w3 d) os).heap.size (grow (redrawn w3 d) os) w' := fun d os =>
    ZkY _ _ p.served _ (HU.out.below (HB3.out.trans ((below_regrown w3 d os).mono HB3.out.size))) (HV.out.below (HB3.out.trans ((below_regrown w3 d os).mono HB3.out.size))) (by have := HXL.out.1; omega)
   have HINT := Lib.hid hint
   have hn1 : (p.name.toList != p.name.toList) = false := by simp
   have hn2 : (p.uses != p.uses) = false := by simp
   have hn3 : ((x.classes : Int) != (x.classes : Int)) = false := by simp
   clear hsv2 hqv hsl2 hlk hev hgv hce e0 e1 e2 e3 e4 hx1 hint
   go_upto_region 8 with fail
   refine wp_region_quiet_below (by kernel_rfl) (by kernel_rfl) ?_
   repeat (go_big_quiet_step (exact Calls.regrown_of (HINT.out _ _)))
   refine wpQuiet_nil ?_
   rintro _ ⟨⟨dq, osq⟩, rfl⟩
   obtain ⟨w4, hw4⟩ : ∃ w4 : World, w4 = grow (redrawn w3 dq) osq := ⟨_, rfl⟩
   have HB4 := Lib.hid (show Below w3.heap.size w3 w4 by rw [hw4]; exact below_regrown w3 dq osq)
   rw [show (grow (redrawn w3 (Regrown.mk dq osq).d) (Regrown.mk dq osq).os) = w4 from hw4.symm]
   clear hw4 r0 r1 r2 r3 r4 x0 x1 x2 b1 HINT
   clear hn1 hn2 hn3
   go_wp2_with fail
   go_loopg [8] x.classes (fun g i w' => ∃ j : Nat, g = x.classes - j ∧ i = .int .i64 j ∧ j ≤ x.classes ∧ Below w4.heap.size w4 w')
   case atStart => exact ⟨0, rfl, rfl, Nat.zero_le _, Below.refl _ _⟩
   case round =>
    obtain ⟨j, hg, rfl, hj, hb⟩ := hrel
    have HG2 := Lib.hid hg
    have HBJ := Lib.hid (HB4.out.trans (hb.mono HB4.out.size))
    have HBZ := Lib.hid hb
    have HBW := Lib.hid (HB3.out.trans (HBJ.out.mono HB3.out.size))
    clear hg hb
    have b1 : wr.cell? ⟨bx, 1, none⟩ = some (.int .i64 x.classes) := Za ((HBW.out.block _ (Zb HX6.out)).trans HX6.out) rfl
    by_cases hlj : j < x.classes
    ·obtain ⟨c, hc⟩ : ∃ c, n.cls[j]? = some c := ⟨_, List.getElem?_eq_getElem (by have := HCX.out; omega)⟩
     obtain ⟨_, y, hy, hgv, hrows⟩ := ZeG HNP.out hc
     have HC := Lib.hid hc
     have HY := Lib.hid hy
     have HGR := Lib.hid (And.intro hgv hrows)
     have hjl : (j : Int) < (x.classes : Int) := by omega
     have x0 : wr.cell? ⟨xb, 0, none⟩ = some (.string p.name) := Za ((HBJ.out.block _ (Zb HX3.out)).trans HX3.out) rfl
     have HPS := Lib.hid (show ZR p.name L = m by rw [← (Zbk HNP.out).2.2]; exact ZjJ H6.out.lw HN.out)
     clear hc hy hgv hrows
     go_wp2_with fail
     refine (Zdg p.name m j n c wr (H6.out.on HBW.out).st.pool HO.out.few HPS.out HN.out HC.out HO.out.cls).mono ?_
     rintro e w7 ⟨rfl, hb7⟩
     have HB7 := Lib.hid (HBW.out.trans (hb7.mono HBW.out.size))
     have HBX := Lib.hid (HBJ.out.trans (hb7.mono HBJ.out.size))
     have HBY := Lib.hid (HBZ.out.trans (hb7.mono HBZ.out.size))
     clear hb7 x0 b1
     have hS7 := (H6.out.on HB7.out).st.pool
     have hC7 := (hS7.need m n HN.out).cls j c HC.out
     have HTT := Lib.hid (HO.out.tot n (List.mem_of_getElem? HN.out) c (List.mem_of_getElem? HC.out))
     have hQ := (H6.out.on HB7.out).doc.inv p (List.mem_of_getElem? HP.out)
     have hDR := hQ.inv y (List.mem_of_getElem? HY.out)
     obtain ⟨ya, yc, hyv, -⟩ := hDR.form
     have hq2 := hQ.hv
     rw [HHV.out, HXL.out.2] at hq2
     obtain ⟨g7, off7, hha, hc7⟩ := hq2.cells (ZbH x.q) (by decide) HY.out
     subst hha
     obtain ⟨g5, off5, hga, hc5⟩ := (HGV.out.below HB7.out).one (k := j) (u := .bool c.gv) (by rw [List.getElem?_map, HC.out]; rfl)
     subst hga
     obtain ⟨la, lc, hll2⟩ := HLK.out j c HC.out
     have hrl : c.rows.length = y.l.length := by rw [HGR.out.2, List.length_map]
     rw [hrl] at hll2
     obtain ⟨g6, off6, hea, hc6⟩ := (HE.out.below HB7.out).one hll2
     subst hea
     obtain ⟨T, hT⟩ : ∃ T : Nat, T = totT c.rows := ⟨_, rfl⟩
     have r3 := cell_regrown (Zc HBX.out HEC.out.1)
     have r4 := cell_regrown (Zc HBX.out HEC.out.2)
     have x0 := cell_regrown (show w7.cell? ⟨xb, 0, none⟩ = some (.string p.name) from Za ((HBX.out.block _ (Zb HX3.out)).trans HX3.out) rfl)
     have x3 := cell_regrown (show w7.cell? ⟨xb, 3, none⟩ = some (.slice (some ⟨g7, off7, none⟩) x.classes hc) from Za ((HBX.out.block _ (Zb HX3.out)).trans HX3.out) rfl)
     have s0 := cell_regrown (show w7.cell? ⟨g7, off7 + j * 3, none⟩ = some (.int .i64 x.q) from hc7 0 _ rfl)
     have s1 := cell_regrown (show w7.cell? ⟨g7, off7 + j * 3 + 1, none⟩ = some (.slice ya y.l.length yc) by rw [← hyv]; exact hc7 1 _ rfl)
     have s2 := cell_regrown (show w7.cell? ⟨g7, off7 + j * 3 + 2, none⟩ = some (.bool c.gv) by rw [HGR.out.1]; exact hc7 2 _ rfl)
     have v5 := cell_regrown hc5
     have v6 := cell_regrown hc6
     have hsame : ∀ (d : Nat) (os : Array Obj), Calls Tryz.prog 48 #[.pointer (some ⟨c.f, 0, none⟩), .agg #[.int .i64 x.q, .slice ya y.l.length yc, .bool c.gv]] (grow (redrawn w7 d) os) fun e w' => e = .returned (.bool true) ∧ Below (grow (redrawn w7 d) os).heap.size (grow (redrawn w7 d) os) w' := fun d os => by
      have h := Zk4 x.q y.v y.l _ (hC7.share.below (below_regrown w7 d os)) HTT.out (hDR.below (below_regrown w7 d os)) HGR.out.2.symm
      rw [hyv] at h
      exact h
     have hwait : ∀ (d : Nat) (os : Array Obj), Calls Tryz.prog 13 #[.pointer (some ⟨P, 0, none⟩), .string p.name, .int .i64 j] (grow (redrawn w7 d) os) fun e w' => e = .returned (.int .i64 T) ∧ Below (grow (redrawn w7 d) os).heap.size (grow (redrawn w7 d) os) w' := fun d os => by
      rw [hT]
      exact Zjr p.name m j n c _ (hS7.below (below_regrown w7 d os)) HO.out HPS.out HN.out HC.out
     have hlen : ∀ (d : Nat) (os : Array Obj), Calls Tryz.prog 49 #[.agg #[.int .i64 x.q, .slice ya y.l.length yc, .bool c.gv]] (grow (redrawn w7 d) os) fun e w' => e = .returned (.int .i64 T) ∧ Below (grow (redrawn w7 d) os).heap.size (grow (redrawn w7 d) os) w' := fun d os => by
      have h := ZdX x.q c.gv y.v y.l _ (hDR.below (below_regrown w7 d os)) (Zit hDR (by rw [← HGR.out.2]; exact Zdu hC7.share.fullT HTT.out)) (by rw [← HGR.out.2]; have := HTT.out; omega)
      rw [hyv, ← HGR.out.2, ← hT] at h
      exact h
     have HSAME := Lib.hid hsame
     have HWAIT := Lib.hid hwait
     have HLEN := Lib.hid hlen
     have hn1 : ((T : Int) != (T : Int)) = false := by simp
     have hn2 : ((y.l.length : Int) != (y.l.length : Int)) = false := by simp
     have hn3 : (c.gv != c.gv) = false := by simp
     clear hS7 hC7 hQ hDR hyv hq2 hc7 hc5 hll2 hrl hc6 hT hsame hwait hlen
     go_upto_region 14 with fail
     refine wp_region_quiet_below (by kernel_rfl) (by kernel_rfl) ?_
     repeat (go_big_quiet_step (first | exact Calls.regrown_of (HSAME.out _ _) | exact Calls.regrown_of (HWAIT.out _ _) | exact Calls.regrown_of (HLEN.out _ _)))
     refine wpQuiet_nil ?_
     rintro _ ⟨⟨dz, osz⟩, rfl⟩
     obtain ⟨w8, hw8⟩ : ∃ w8 : World, w8 = grow (redrawn w7 dz) osz := ⟨_, rfl⟩
     have HB8 := Lib.hid (show Below w7.heap.size w7 w8 by rw [hw8]; exact below_regrown w7 dz osz)
     rw [show (grow (redrawn w7 (Regrown.mk dz osz).d) (Regrown.mk dz osz).os) = w8 from hw8.symm]
     clear hw8 r3 r4 x0 x3 s0 s1 s2 v5 v6 HSAME HWAIT HLEN
     have HBL := Lib.hid (HBY.out.trans (HB8.out.mono HBY.out.size))
     go_wp2_with fail
     go_roundg (x.classes - (j + 1))
     case rel => exact ⟨j + 1, rfl, by go_num, by omega, HBL.out⟩
     case measure => have := HG2.out; omega
    ·go_wp2_with fail
     go_roundg (l.length - (m + 1))
     case rel => exact ⟨m + 1, rfl, by go_num, by omega, HBW.out⟩
     case measure => have := HG.out; omega
  ·go_wp2_with fail
   go_ret
   exact ⟨rfl, HB6.out.trans (HB.out.mono HB6.out.size)⟩
theorem Zhz {pre : List Int} {ρ : Roles} {w : World} {f sp : Nat} {q : Int} {v : Value} {ns : List Nd} {qb : Int → Nat} {its : Int → List It} (h : RAt pre ρ w f sp q false v ns qb its) (g : Bool) :
 RingAt pre ρ (w.setCell ⟨sp, 2, none⟩ (.bool g)) f q g (ns.map (rowOf its)) ∧ Fp (fun j => j = sp) w (w.setCell ⟨sp, 2, none⟩ (.bool g)) := by
 have hF : Fp (fun j => j = sp) w (w.setCell ⟨sp, 2, none⟩ (.bool g)) := (Fp.refl (fun j => j = sp) w).setCell (p := ⟨sp, 2, none⟩) (fun _ => rfl) _
 have hg := ZaC.1 h.good
 refine ⟨⟨sp, v, ns, qb, its, ⟨hF.heap h.head (fun e => ?_), h.rf, ZdF h.spin hF (Ze h.spin.head), h.src, fun n hn => (h.que n hn).frame hF (fun k _ ⟨s, hs⟩ e => ?_), h.full, h.q1, h.q2, ?_, h.idok⟩, rfl⟩, hF⟩
 ·have h1 := h.rf
  rw [e, h.spin.rs] at h1
  simp at h1
 ·rw [e, h.spin.rs] at hs
  simp at hs
 ·cases ns with
  | nil => trivial
  | cons n r => exact ⟨(hg n List.mem_cons_self).mono (by split <;> omega), fun m hm => hg m (List.mem_cons_of_mem _ hm)⟩
def Ziu (pre : List Int) (ρ : Roles) (w : World) (q : Int) (gv : Bool) (rows : List FRow) (e : Ending) (w' : World) : Prop :=
 Below w.heap.size w w' ∧ ((okL q gv rows ∧ ∃ f ρ', e = .returned (.tuple #[.pointer (some ⟨f, 0, none⟩), .bool true]) ∧ Later ρ ρ' w ∧ ZA ρ' pre w.heap.size ∧ RingAt pre ρ' w' f q gv rows ∧ w.heap.size ≤ f) ∨ (¬ okL q gv rows ∧ e = .returned (.tuple #[.pointer none, .bool false])))
structure LdState (pre : List Int) (ρ : Roles) (w : World) (q : Int) (rows : List FRow) (k : Nat) (wr : World) : Prop where
 ring : ∃ ρ', Later ρ ρ' w ∧ ZA ρ' pre w.heap.size ∧ RingAt pre ρ' wr (w.heap.size + 1) q false (rows.take k)
 below : Below w.heap.size w wr
 ok : ∀ (i : Nat) x, i < k → rows[i]? = some x → okIn (rows.take i) x
theorem Zk5 {pre : List Int} {ρ : Roles} {q : Int} {w w1 : World} (h1 : 1 ≤ q) (h2 : q ≤ 64) (rows : List FRow) (hw : w1 = (w.alloc (.cells #[.int .i64 q, .slice none 0 0, .bool false] 115)).alloc (.cells #[.pointer (some ⟨w.heap.size, 0, none⟩)] 164)) : LdState pre ρ w q rows 0 w1 := by
 refine ⟨⟨fun k => if k < w.heap.size then ρ k else if k = w.heap.size then pre ++ [1] else if k = w.heap.size + 1 then pre ++ [6] else [], fun k hk => by simp [hk], fun k hk => ?_, by rw [hw]; exact ZfX w h1 h2 (by simp) (by simp [show ¬ w.heap.size + 1 < w.heap.size by omega])⟩, by rw [hw]; exact box_below.alloc (by simp) _, fun i x hi => by omega⟩
 unfold Part
 by_cases e1 : k = w.heap.size
 ·subst e1
  exact .inr ⟨[1], by simp⟩
 ·by_cases e2 : k = w.heap.size + 1
  ·subst e2
   exact .inr ⟨[6], by simp [show ¬ w.heap.size + 1 < w.heap.size by omega]⟩
  ·exact .inl (by simp [e1, e2, Nat.not_lt.2 hk])
theorem Ziv (rows : List FRow) (k : Nat) {x : FRow} (h : rows[k]? = some x) : totR (rows.take k) + x.its.length ≤ totR rows := by
 have hk : k < rows.length := (List.getElem?_eq_some_iff.1 h).1
 have e : totR (rows.take (k + 1)) = totR (rows.take k) + x.its.length := by
  rw [List.take_succ_eq_append_getElem hk, (List.getElem?_eq_some_iff.1 h).2, ZeQ]
  simp [totR]
 have e2 : totR rows = totR (rows.take (k + 1)) + totR (rows.drop (k + 1)) := by rw [← ZeQ, List.take_append_drop]
 omega
section
variable {pre : List Int} {ρ : Roles}
set_option maxRecDepth 100000 in
set_option maxHeartbeats 8000000 in
theorem Ziw (hpre : pre ≠ []) (q : Int) (gv : Bool) (v : Value) (l : List (FRow × Value)) (w : World) (hl : RowsAt w v l) (hfr : ∀ k, k < w.heap.size → ¬ Part ρ pre k) (hok : ∀ p ∈ l, I64 p.1.id ∧ ∀ y ∈ p.1.its, I64 y.id) (hf : totR (l.map Prod.fst) < 1000000) (hlen : l.length < 1000000) :
 Calls Tryz.prog 130 #[.int .i64 q, v, .bool gv] w (Ziu pre ρ w q gv (l.map Prod.fst)) := by
 obtain ⟨a, cap, rfl, -⟩ := hl.form
 have HL := Lib.hid hl
 have HFR := Lib.hid hfr
 have HOK := Lib.hid hok
 have HF := Lib.hid hf
 have HLEN := Lib.hid hlen
 clear hl hfr hok hf hlen
 by_cases hq : 1 ≤ q ∧ q ≤ 64
 ·have HQ := Lib.hid hq
  clear hq
  go_enter Tryz.func130, Tryz.ntmps130
  go_wp2_with fail
  refine (Zfc q _ HQ.out.1 HQ.out.2).mono ?_
  rintro e w1 ⟨rfl, hw1⟩
  have HS1 := Lib.hid (Zk5 (pre := pre) (ρ := ρ) HQ.out.1 HQ.out.2 (l.map Prod.fst) hw1)
  clear hw1
  by_cases hg : gv = true ∧ l = []
  ·obtain ⟨rfl, rfl⟩ := hg
   go_wp2_with fail
   refine bodyPost_ret (v := .tuple #[.pointer none, .bool false]) (by simp [results, Tryz.results130, go_sem]) rfl ⟨HS1.out.below, .inr ⟨fun h => h.2.2.1 ⟨rfl, rfl⟩, rfl⟩⟩
  ·have HG0 := Lib.hid hg
   have hcase : gv = false ∨ (gv = true ∧ ((l.length : Int) == 0) = false) := by
    cases gv with
    | false => exact .inl rfl
    | true =>
      right
      refine ⟨rfl, ?_⟩
      have := List.length_pos_iff.2 (fun e => hg ⟨rfl, e⟩)
      rw [beq_eq_false_iff_ne]
      omega
   clear hg
   go_upto_region 2 with fail
   go_cut [22] (fun t wx => t = .bool false ∧ LdState pre ρ w q (l.map Prod.fst) 0 wx)
   case first =>
    rcases hcase with rfl | ⟨rfl, hz⟩
    all_goals
     go_wp2_with fail
     go_meet
     case rel => exact ⟨rfl, HS1.out⟩
   case rest =>
    obtain ⟨rfl, hs2⟩ := hcut
    have HS2 := Lib.hid hs2
    clear hs2
    go_wp2_with fail
    go_loopg [25] l.length (fun g i wr => ∃ k : Nat, g = l.length - k ∧ i = .int .i64 k ∧ k ≤ l.length ∧ LdState pre ρ w q (l.map Prod.fst) k wr)
    case atStart => exact ⟨0, rfl, rfl, Nat.zero_le _, HS2.out⟩
    case round =>
     obtain ⟨k, hg, rfl, hk, hS⟩ := hrel
     have HG := Lib.hid hg
     have HS := Lib.hid hS
     clear hg hS
     by_cases hlt : k < l.length
     ·obtain ⟨⟨x, vx⟩, hp⟩ : ∃ p, l[k]? = some p := ⟨_, List.getElem?_eq_getElem hlt⟩
      have HP := Lib.hid hp
      have HX := Lib.hid (show (l.map Prod.fst)[k]? = some x by rw [List.getElem?_map, hp]; rfl)
      obtain ⟨g, off, cap', hv, _, c0, c1, c2, c3⟩ := (HL.out.below HS.out.below).at hp
      cases hv
      simp only at c0 c1 c2 c3
      have HIT := Lib.hid (HL.out.its _ (List.mem_of_getElem? hp))
      obtain ⟨ax, cx, rfl⟩ : ∃ ax cx, vx = .slice ax x.its.length cx := ZN (HL.out.its _ (List.mem_of_getElem? hp))
      have hkl : (k : Int) < (l.length : Int) := by omega
      clear hp
      go_upto_region 7 with fail
      obtain ⟨w2, hw2⟩ : ∃ w2 : World, w2 = wr.alloc (.cells #[.int .i64 x.id, .int .i64 x.wt, .int .i64 x.df, .slice ax x.its.length cx] 143) := ⟨_, rfl⟩
      obtain ⟨bx, hbx⟩ : ∃ bx : Nat, bx = wr.heap.size := ⟨_, rfl⟩
      rw [← hw2, ← hbx]
      have hB2 : Below wr.heap.size wr w2 := by rw [hw2]; exact box_below
      obtain ⟨k0, k1, k2, k3⟩ := ZcF (w := w2) (b := bx) (x := x) (vi := .slice ax x.its.length cx) (by rw [hw2, hbx]; exact Zf)
      have HB2 := Lib.hid hB2
      clear hw2 hbx hB2 c0 c1 c2 c3
      go_wp2_with fail
      obtain ⟨ρ', hl', hn', hR'⟩ := HS.out.ring
      have HL' := Lib.hid hl'
      have HN' := Lib.hid hn'
      have hbel2 := HS.out.below.trans (HB2.out.mono HS.out.below.size)
      have hit2 := HIT.out.below hbel2
      have hig2 : x.its ≠ [] → ∀ j, (Value.slice ax x.its.length cx).ownBlock = some j → ¬ Part ρ' pre j := fun hne j hj hp => by
       have hjw := Zel HIT.out hne j hj
       exact HFR.out j hjw (ZaE hl' hjw hp)
      have hfew := Ziv (l.map Prod.fst) k HX.out
      have hok2 := HOK.out _ (List.mem_of_getElem? HP.out)
      refine (Zjg hpre x _ w2 (hR'.below HB2.out) hit2 hig2 hok2.1 hok2.2 (by have := HF.out; omega)).mono ?_
      rintro e w3 ⟨r, rows', ρ3, rfl, hr, hl3, hn3, hR3, hF3, hrows⟩
      have hl03 : Later ρ ρ3 w := Zaf hl' hl3 hbel2.size
      have hn03 : ZA ρ3 pre w.heap.size := Zca hn' hl3 hn3
      have hb03 : Below w.heap.size w w3 := hbel2.trans (hF3.below hbel2.size (fun j hj hp => HFR.out j hj (ZaE hl' hj hp)))
      have HB3 := Lib.hid hb03
      have HRR := Lib.hid hr
      cases r with
      | true =>
        have HS3 := Lib.hid (show LdState pre ρ w q (l.map Prod.fst) (k + 1) w3 from ⟨⟨ρ3, hl03, hn03, by
         have e : (l.map Prod.fst).take (k + 1) = (l.map Prod.fst).take k ++ [x] := by
          have hkm : k < (l.map Prod.fst).length := by rw [List.length_map]; exact hlt
          rw [List.take_succ_eq_append_getElem hkm, (List.getElem?_eq_some_iff.1 HX.out).2]
         rw [e, ← hrows rfl]
         exact hR3⟩, hb03, fun i z hi hz => by
         rcases Nat.lt_or_ge i k with h | h
         ·exact HS.out.ok i z h hz
         ·obtain rfl : i = k := by omega
          obtain rfl : x = z := Option.some.inj (HX.out.symm.trans hz)
          exact hr.1 rfl⟩)
        clear hl' hn' hR' hbel2 hit2 hig2 hfew hok2 hr hl3 hn3 hR3 hF3 hrows hl03 hn03 hb03 k0 k1 k2 k3
        go_wp2_with fail
        go_roundg (l.length - (k + 1))
        case rel =>
         have hlen := HLEN.out
         exact ⟨k + 1, rfl, by rw [show wrap64 ((k : Int) + 1) = ((k + 1 : Nat) : Int) by unfold wrap64; omega], by omega, HS3.out⟩
        case measure => have := HG.out; omega
      | false =>
        have HNOT := Lib.hid (show ¬ okL q gv (l.map Prod.fst) from fun h => absurd (hr.2 (h.2.2.2 k x HX.out)) (by decide))
        clear hl' hn' hR' hbel2 hit2 hig2 hfew hok2 hr hl3 hn3 hR3 hF3 hrows hl03 hn03 hb03 k0 k1 k2 k3
        go_wp2_with fail
        exact bodyPost_ret (v := .tuple #[.pointer none, .bool false]) (by simp [results, Tryz.results130, go_sem]) rfl ⟨HB3.out, .inr ⟨HNOT.out, rfl⟩⟩
     ·have hkk : (l.map Prod.fst).take k = l.map Prod.fst := List.take_of_length_le (by rw [List.length_map]; omega)
      have HOKL := Lib.hid (show okL q gv (l.map Prod.fst) from ⟨HQ.out.1, HQ.out.2, fun h => HG0.out ⟨h.1, by simpa using h.2⟩, fun i x hx => HS.out.ok i x (by have := (List.getElem?_eq_some_iff.1 hx).1; rw [List.length_map] at this; omega) hx⟩)
      obtain ⟨ρ', hl', hn', hR'⟩ := HS.out.ring
      rw [hkk] at hR'
      obtain ⟨sp, v', ns, qb, its, hr', hrows⟩ := hR'
      have HR' := Lib.hid hr'
      have HL' := Lib.hid hl'
      have HN' := Lib.hid hn'
      have HROWS := Lib.hid hrows
      have e0 := hr'.c0
      have s2 := hr'.spin.c2
      have f2 : wr.frozen? ⟨sp, 2, none⟩ = false := Zd hr'.spin.head
      clear hl' hn' hr' hrows hkk
      go_wp2_with fail
      obtain ⟨hset, hF⟩ := Zhz HR'.out gv
      rw [← HROWS.out] at hset
      refine bodyPost_ret (v := .tuple #[.pointer (some ⟨w.heap.size + 1, 0, none⟩), .bool true]) (by simp [results, Tryz.results130, go_sem]) rfl ⟨HS.out.below.trans (hF.below HS.out.below.size (fun j hj e => ?_)), .inl ⟨HOKL.out, w.heap.size + 1, ρ', rfl, HL'.out, HN'.out, hset, by omega⟩⟩
      rw [e] at hj
      exact HFR.out sp hj (ZaE HL'.out hj ⟨[1], HR'.out.spin.rs⟩)
 ·have HQ := Lib.hid hq
  clear hq
  go_enter Tryz.func130, Tryz.ntmps130
  go_wp2_with fail
  refine (Zi8 q _ HQ.out).mono ?_
  rintro e w1 ⟨rfl, hb1⟩
  have HB1 := Lib.hid hb1
  clear hb1
  go_wp2_with fail
  refine bodyPost_ret (v := .tuple #[.pointer none, .bool false]) (by simp [results, Tryz.results130, go_sem]) rfl ⟨HB1.out, .inr ⟨fun h => HQ.out ⟨h.1, h.2.1⟩, rfl⟩⟩
end
theorem ZcB {pre : List Int} {ρ : Roles} (hpre : pre ≠ []) (q : Int) (gv : Bool) (v : Value) (l : List (FRow × Value)) (w : World) (hl : RowsAt w v l) (hok : ∀ p ∈ l, I64 p.1.id ∧ ∀ y ∈ p.1.its, I64 y.id) (hf : totR (l.map Prod.fst) < 1000000) (hlen : l.length < 1000000) :
 Calls Tryz.prog 130 #[.int .i64 q, v, .bool gv] w (Ziu pre ρ w q gv (l.map Prod.fst)) := by
 refine (Ziw (ρ := fun _ => []) hpre q gv v l w hl (fun k _ ⟨s, hs⟩ => hpre (List.append_eq_nil_iff.1 hs.symm).1) hok hf hlen).mono ?_
 rintro e w' ⟨hb, ⟨ho, f, ρ', rfl, hl, hn, hR, hf⟩ | ⟨ho, rfl⟩⟩
 ·refine ⟨hb, .inl ⟨ho, f, fun k => if k < w.heap.size then ρ k else ρ' k, rfl, fun k hk => by simp [hk], fun k hk => ?_, hR.rerole (fun k hk => ?_), hf⟩⟩
  ·unfold Part
   simp only [if_neg (Nat.not_lt.2 hk)]
   exact hn k hk
  ·rcases Nat.lt_or_ge k w.heap.size with h | h
   ·exact absurd (hl k h) hk
   ·simp [Nat.not_lt.2 h]
 ·exact ⟨hb, .inr ⟨ho, rfl⟩⟩
def okTIn (q : Int) (rows : List TRow) (x : TRow) : Prop := findT x.id rows = none ∧ ¬ Zz x.id x.wt ∧ 0 ≤ x.df ∧ x.df ≤ 1088 ∧ x.rows ≠ [] ∧ okL q x.gv x.rows
def Zoi (q : Int) (rows : List TRow) : Prop := ∀ (k : Nat) x, rows[k]? = some x → okTIn q (rows.take k) x
def okTL (q : Int) (gv : Bool) (rows : List TRow) : Prop := 1 ≤ q ∧ q ≤ 64 ∧ ¬ (gv = true ∧ rows = []) ∧ Zoi q rows
def ZeI (pre : List Int) (ρ : Roles) (w : World) (f : Nat) (q : Int) (rows : List TRow) (x : TRow) (e : Ending) (w' : World) : Prop :=
 Fp (Part ρ pre) w w' ∧ ((okTIn q rows x ∧ e = .returned (.bool true) ∧ ∃ ρ', Later ρ ρ' w ∧ ZA ρ' pre w.heap.size ∧ ShareAt pre ρ' w' f q false (rows ++ [x])) ∨ (¬ okTIn q rows x ∧ e = .returned (.bool false)))
section
variable {pre : List Int} {ρ : Roles} {f sp : Nat} {q : Int} {gv : Bool} {v : Value} {ns : List Nd} {fb : Int → Nat} {a : Int → Bool × List FRow}
theorem Zgq {w w' : World} {id wt d : Int} {s : Bool × List FRow} {qn : Nat} {ρ' : Roles} {v' : Value} (h : ShAt pre ρ w f sp q false v ns fb a) (hnew : ∀ m ∈ ns, m.id ≠ id) (hQ : RingAt (pre ++ [5, id]) ρ w qn q s.1 s.2) (hl : s.2 ≠ []) (hid : 0 ≤ id ∧ I64 id) (hw1 : 1 ≤ wt) (hw : wt ≤ 16) (hd0 : 0 ≤ d) (hd1 : d ≤ 1088)
 (hF : Fp (Zs ρ pre) w w') (hL : Later ρ ρ' w) (hS : SpinAt pre ρ' w' sp q false v' (ns ++ [⟨id, wt, 0, w.heap.size, srcT qn⟩])) :
 ShareAt pre ρ' (w'.setCell ⟨w.heap.size, 2, none⟩ (.int .i64 d)) f q false (ns.map (Zj a) ++ [⟨id, wt, d, s.1, s.2⟩]) := by
 have h' := h.later hL
 have hF' : Fp (Zs ρ' pre) w w' := hF.mono_on (fun k hk hs => by
  unfold Zs at hs ⊢
  rw [hL k hk]
  exact hs)
 have hP : SPre pre ρ' w' f sp q false v' (ns ++ [⟨id, wt, 0, w.heap.size, srcT qn⟩]) (upd fb id qn) (upd a id s) := by
  refine ⟨hF'.heap h'.pre'.head (fun hs => ?_), h'.pre'.rf, hS, fun m hm => ?_, fun m hm => ?_, h.pre'.q1, h.pre'.q2, ZdH h.pre'.good ⟨hw1, hw, Int.le_refl _, Int.le_refl _⟩, fun m hm => ?_⟩
  ·have h1 := h'.pre'.rf
   rcases hs with h2 | h2 | ⟨_, h2⟩ <;> rw [h1] at h2 <;> simp at h2
  ·rcases List.mem_append.1 hm with hm | hm
   ·rw [Zx _ (hnew m hm)]
    exact h.pre'.src m hm
   ·rw [List.mem_singleton] at hm
    subst hm
    rw [ZE]
  ·rcases List.mem_append.1 hm with hm | hm
   ·rw [Zx _ (hnew m hm), Zx _ (hnew m hm)]
    exact (h'.pre'.ring m hm).frame hF' (fun k _ hp hs => Z2 hs (Z7 hp))
   ·rw [List.mem_singleton] at hm
    subst hm
    rw [ZE, ZE]
    exact (hQ.later hL).frame hF' (fun k _ hp hs => Z2 hs (Z7 hp))
  ·rcases List.mem_append.1 hm with hm | hm
   ·exact h.pre'.idok m hm
   ·rw [List.mem_singleton] at hm
    subst hm
    exact hid
 have hn : (ns ++ [(⟨id, wt, 0, w.heap.size, srcT qn⟩ : Nd)])[ns.length]? = some (⟨id, wt, 0, w.heap.size, srcT qn⟩ : Nd) := by simp
 have e : (ns ++ [(⟨id, wt, 0, w.heap.size, srcT qn⟩ : Nd)]).set ns.length { (⟨id, wt, 0, w.heap.size, srcT qn⟩ : Nd) with df := d } = ns ++ [⟨id, wt, d, w.heap.size, srcT qn⟩] := by simp
 have hg : NdsOk false ((ns ++ [(⟨id, wt, 0, w.heap.size, srcT qn⟩ : Nd)]).set ns.length { (⟨id, wt, 0, w.heap.size, srcT qn⟩ : Nd) with df := d }) := by
  rw [e]
  refine ZaC.2 (fun m hm => ?_)
  rcases List.mem_append.1 hm with hm | hm
  ·exact ZaC.1 h.pre'.good m hm
  ·rw [List.mem_singleton] at hm
   subst hm
   exact ⟨hw1, hw, hd0, hd1⟩
 have hP2 := hP.df_turn hn d hg
 refine ⟨sp, v', _, upd fb id qn, upd a id s, ⟨hP2, fun m hm => ?_⟩, ?_⟩
 ·rw [e] at hm
  rcases List.mem_append.1 hm with hm | hm
  ·rw [Zx _ (hnew m hm)]
   exact h.full m hm
  ·rw [List.mem_singleton] at hm
   subst hm
   rw [ZE]
   exact hl
 ·rw [e, List.map_append]
  congr 1
  ·exact List.map_congr_left (fun m hm => by
    unfold Zj
    rw [Zx _ (hnew m hm)])
  ·simp [Zj, ZE]
theorem ZjL {id : Int} (h : findT id (ns.map (Zj a)) = none) : ∀ m ∈ ns, m.id ≠ id := fun m hm e => by
 unfold findT at h
 have := List.findIdx?_eq_none_iff.1 h (Zj a m) (List.mem_map_of_mem hm)
 simp [Zj] at this
 exact this e
theorem Zk6 {id : Int} (h : ∀ m ∈ ns, m.id ≠ id) : findT id (ns.map (Zj a)) = none := by
 unfold findT
 refine List.findIdx?_eq_none_iff.2 (fun x hx => ?_)
 obtain ⟨m, hm, rfl⟩ := List.mem_map.1 hx
 simpa [Zj] using h m hm
theorem node7 {ρ' : Roles} {w' : World} {v' : Value} {nd : Nd} (h : SpinAt pre ρ' w' sp q false v' (ns ++ [nd])) : w'.cell? ⟨nd.blk, 2, none⟩ = some (.int .i64 nd.df) ∧ w'.frozen? ⟨nd.blk, 2, none⟩ = false :=
 have h1 := (h.node ns.length nd (by simp)).2
 ⟨Za h1 rfl, Zd h1⟩
def rowT (x : TRow) (vr : Value) : Obj := .cells #[.int .i64 x.id, .int .i64 x.wt, .int .i64 x.df, vr, .bool x.gv] 140 (0, 0)
theorem Z8 {w : World} {b : Nat} {x : TRow} {vr : Value} (h : w.heap[b]? = some (rowT x vr)) : w.cell? ⟨b, 0, none⟩ = some (.int .i64 x.id) ∧ w.cell? ⟨b, 1, none⟩ = some (.int .i64 x.wt) ∧ w.cell? ⟨b, 2, none⟩ = some (.int .i64 x.df) ∧ w.cell? ⟨b, 3, none⟩ = some vr ∧ w.cell? ⟨b, 4, none⟩ = some (.bool x.gv) :=
 ⟨Za h rfl, Za h rfl, Za h rfl, Za h rfl, Za h rfl⟩
set_option maxRecDepth 100000 in
set_option maxHeartbeats 8000000 in
theorem ZjM (x : TRow) (vr : Value) (li : List (FRow × Value)) (w : World) (h : ShAt pre ρ w f sp q false v ns fb a) (hv : RowsAt w vr li) (hm : li.map Prod.fst = x.rows) (hok : ∀ p ∈ li, I64 p.1.id ∧ ∀ y ∈ p.1.its, I64 y.id) (hf : totR x.rows < 1000000) (hl : li.length < 1000000) (hno : ¬ okL q x.gv x.rows) :
 Calls Tryz.prog 109 #[.pointer (some ⟨f, 0, none⟩), .agg #[.int .i64 x.id, .int .i64 x.wt, .int .i64 x.df, vr, .bool x.gv]] w fun e w' => e = .returned (.bool false) ∧ Below w.heap.size w w' := by
 obtain ⟨ra, rc, hvr, -⟩ := hv.form
 subst hvr
 have HH := Lib.hid h
 have HS := Lib.hid h.pre'
 have HV := Lib.hid hv
 have HM := Lib.hid hm
 have HOK := Lib.hid hok
 have HF := Lib.hid (show totR (li.map Prod.fst) < 1000000 by rw [hm]; exact hf)
 have HL := Lib.hid hl
 have c0 := h.pre'.c0
 have hfw := Zb h.pre'.head
 have HNO := Lib.hid (show ¬ okL q x.gv (li.map Prod.fst) by rw [hm]; exact hno)
 clear h hv hm hok hf hl hno
 go_enter Tryz.func109, Tryz.ntmps109
 go_upto_region 1 with fail
 obtain ⟨w1, hw1⟩ : ∃ w1 : World, w1 = w.alloc (.cells #[.int .i64 x.id, .int .i64 x.wt, .int .i64 x.df, .slice ra li.length rc, .bool x.gv] 140) := ⟨_, rfl⟩
 obtain ⟨bx, hbx⟩ : ∃ bx : Nat, bx = w.heap.size := ⟨_, rfl⟩
 rw [← hw1, ← hbx]
 have HB1 := Lib.hid (show Below w.heap.size w w1 by rw [hw1]; exact box_below)
 have HX1 := Lib.hid (show w1.heap[bx]? = some (rowT x (.slice ra li.length rc)) by rw [hw1, hbx]; exact Zf)
 have HBX := Lib.hid hbx
 have c0 : w1.cell? ⟨f, 0, none⟩ = some (.pointer (some ⟨sp, 0, none⟩)) := Zc HB1.out c0
 have s0 := (HS.out.below HB1.out).spin.c0
 obtain ⟨x0, x1, x2, x3, x4⟩ := Z8 HX1.out
 have h0 : Below w1.heap.size w1 w1.drew := ⟨rfl, rfl, rfl, Nat.le_refl _, fun _ _ => rfl⟩
 clear hw1 hbx
 go_region_held3 (fun w' => w'.cell? ⟨f, 0, none⟩ = some (.pointer (some ⟨sp, 0, none⟩)) ∧ w'.cell? ⟨sp, 0, none⟩ = some (.int .i64 q) ∧ w'.cell? ⟨bx, 3, none⟩ = some (.slice ra li.length rc) ∧ w'.cell? ⟨bx, 4, none⟩ = some (.bool x.gv))
  (first | go_keep | exact ⟨Zc hb5 c0, Zc hb5 s0, Zc hb5 x3, Zc hb5 x4⟩)
  (first
    | (go_at_call 130; refine (ZcB (pre := [0]) (ρ := fun _ => []) (by simp) q x.gv _ li _ ((HV.out.below HB1.out).below h0) HOK.out HF.out HL.out).mono ?_; rintro e w5 ⟨hb5', ⟨ho, -⟩ | ⟨-, rfl⟩⟩; exact absurd ho HNO.out; (have hb5 := Zr h0 hb5'); clear hb5'))
 have HB5 := Lib.hid (HB1.out.trans (hb5.mono HB1.out.size))
 have HX5 := Lib.hid ((hb5.block bx (Zb HX1.out)).trans HX1.out)
 clear hb5 h0 c0 s0 x0 x1 x2 x3 x4
 go_upto_region 2 with fail
 have c0 := cell_regrown (HS.out.below HB5.out).c0
 obtain ⟨x0, x1, x2, x3, x4⟩ := Z8 HX5.out
 have x0 := cell_regrown x0
 have x1 := cell_regrown x1
 have x2 := cell_regrown x2
 have x3 := cell_regrown x3
 refine wp_region_quiet_below (by kernel_rfl) (by kernel_rfl) ?_
 repeat (go_big_quiet_step (fail))
 refine wpQuiet_nil ?_
 rintro _ ⟨⟨dq, osq⟩, rfl⟩
 clear c0 x0 x1 x2 x3 x4
 go_wp2_with fail
 go_ret
 exact ⟨rfl, Zp HB5.out HB5.out.size⟩
set_option maxRecDepth 100000 in
set_option maxHeartbeats 8000000 in
theorem Zmf (x : TRow) (vr : Value) (li : List (FRow × Value)) (w : World) (h : ShAt pre ρ w f sp q false v ns fb a) (hv : RowsAt w vr li) (hm : li.map Prod.fst = x.rows) (hok : ∀ p ∈ li, I64 p.1.id ∧ ∀ y ∈ p.1.its, I64 y.id) (hf : totR x.rows < 1000000) (hl : li.length < 1000000) (ho : okL q x.gv x.rows) (hno : ¬ okTIn q (ns.map (Zj a)) x) :
 Calls Tryz.prog 109 #[.pointer (some ⟨f, 0, none⟩), .agg #[.int .i64 x.id, .int .i64 x.wt, .int .i64 x.df, vr, .bool x.gv]] w fun e w' => e = .returned (.bool false) ∧ Below w.heap.size w w' := by
 obtain ⟨ra, rc, hvr, -⟩ := hv.form
 subst hvr
 have HH := Lib.hid h
 have HS := Lib.hid h.pre'
 have HV := Lib.hid hv
 have HM := Lib.hid hm
 have HOK := Lib.hid hok
 have HF := Lib.hid (show totR (li.map Prod.fst) < 1000000 by rw [hm]; exact hf)
 have HL := Lib.hid hl
 have c0 := h.pre'.c0
 have hfw := Zb h.pre'.head
 have HOL := Lib.hid (show okL q x.gv (li.map Prod.fst) by rw [hm]; exact ho)
 have HNO := Lib.hid hno
 have HOO := Lib.hid ho
 have hz : li.length = x.rows.length := by rw [← hm, List.length_map]
 have HZ := Lib.hid hz
 clear h hv hm hok hf hl hno ho hz
 go_enter Tryz.func109, Tryz.ntmps109
 go_upto_region 1 with fail
 obtain ⟨w1, hw1⟩ : ∃ w1 : World, w1 = w.alloc (.cells #[.int .i64 x.id, .int .i64 x.wt, .int .i64 x.df, .slice ra li.length rc, .bool x.gv] 140) := ⟨_, rfl⟩
 obtain ⟨bx, hbx⟩ : ∃ bx : Nat, bx = w.heap.size := ⟨_, rfl⟩
 rw [← hw1, ← hbx]
 have HB1 := Lib.hid (show Below w.heap.size w w1 by rw [hw1]; exact box_below)
 have HX1 := Lib.hid (show w1.heap[bx]? = some (rowT x (.slice ra li.length rc)) by rw [hw1, hbx]; exact Zf)
 have HBX := Lib.hid hbx
 have c0 : w1.cell? ⟨f, 0, none⟩ = some (.pointer (some ⟨sp, 0, none⟩)) := Zc HB1.out c0
 have s0 := (HS.out.below HB1.out).spin.c0
 obtain ⟨x0, x1, x2, x3, x4⟩ := Z8 HX1.out
 have h0 : Below w1.heap.size w1 w1.drew := ⟨rfl, rfl, rfl, Nat.le_refl _, fun _ _ => rfl⟩
 clear hw1 hbx
 go_region_held3 (fun w' => w'.cell? ⟨f, 0, none⟩ = some (.pointer (some ⟨sp, 0, none⟩)) ∧ w'.cell? ⟨sp, 0, none⟩ = some (.int .i64 q) ∧ w'.cell? ⟨bx, 3, none⟩ = some (.slice ra li.length rc) ∧ w'.cell? ⟨bx, 4, none⟩ = some (.bool x.gv))
  (first | go_keep | exact ⟨Zc hb5 c0, Zc hb5 s0, Zc hb5 x3, Zc hb5 x4⟩)
  (first
    | (go_at_call 130; refine (ZcB (pre := [0]) (ρ := fun _ => []) (by simp) q x.gv _ li _ ((HV.out.below HB1.out).below h0) HOK.out HF.out HL.out).mono ?_; rintro e w5 ⟨hb5', ⟨-, f5, ρ5, rfl, -, -, -, -⟩ | ⟨ho, -⟩⟩; rotate_left 1; exact absurd HOL.out ho; (have hb5 := Zr h0 hb5'); clear hb5'))
 have HB5 := Lib.hid (HB1.out.trans (hb5.mono HB1.out.size))
 have HX5 := Lib.hid ((hb5.block bx (Zb HX1.out)).trans HX1.out)
 clear hb5 h0 c0 s0 x0 x1 x2 x3 x4
 by_cases hz : x.rows = []
 ·have hze : ((li.length : Int) == 0) = true := by rw [HZ.out, hz]; rfl
  clear hz
  go_upto_region 2 with fail
  have c0 := cell_regrown (HS.out.below HB5.out).c0
  obtain ⟨x0, x1, x2, x3, x4⟩ := Z8 HX5.out
  have x0 := cell_regrown x0
  have x1 := cell_regrown x1
  have x2 := cell_regrown x2
  have x3 := cell_regrown x3
  refine wp_region_quiet_below (by kernel_rfl) (by kernel_rfl) ?_
  repeat (go_big_quiet_step (fail))
  refine wpQuiet_nil ?_
  rintro _ ⟨⟨dq, osq⟩, rfl⟩
  clear c0 x0 x1 x2 x3 x4
  go_wp2_with fail
  go_ret
  exact ⟨rfl, Zp HB5.out HB5.out.size⟩
 ·have hze : ((li.length : Int) == 0) = false := by
   rw [HZ.out, beq_eq_false_iff_ne]
   have := List.length_pos_iff.2 hz
   omega
  have HNE := Lib.hid hz
  clear hz
  by_cases hbad : Zz x.id x.wt
  ·have HRIGHT := Lib.hid (fun (d : Nat) (os : Array Obj) => Zd7 x.id x.wt (grow (redrawn w5 d) os) hbad)
   clear hbad
   go_upto_region 2 with fail
   have c0 := cell_regrown (HS.out.below HB5.out).c0
   obtain ⟨x0, x1, x2, x3, x4⟩ := Z8 HX5.out
   have x0 := cell_regrown x0
   have x1 := cell_regrown x1
   have x2 := cell_regrown x2
   have x3 := cell_regrown x3
   refine wp_region_quiet_below (by kernel_rfl) (by kernel_rfl) ?_
   repeat (go_big_quiet_step (exact Calls.regrown_of (HRIGHT.out _ _)))
   refine wpQuiet_nil ?_
   rintro _ ⟨⟨dq, osq⟩, rfl⟩
   clear c0 x0 x1 x2 x3 x4
   go_wp2_with fail
   go_ret
   exact ⟨rfl, Zp HB5.out HB5.out.size⟩
  ·have HGOOD := Lib.hid hbad
   clear hbad
   have HRIGHT := Lib.hid (fun (d : Nat) (os : Array Obj) => Zbs x.id x.wt (grow (redrawn w5 d) os) HGOOD.out)
   rcases Zdc x.id ns with ⟨-, hfree⟩ | ⟨k, n, hpl, hn, hni⟩
   ·have HFD := Lib.hid (Zk6 (a := a) hfree)
    have HFIND := Lib.hid (fun (d : Nat) (os : Array Obj) => Zbp x.id (grow (redrawn w5 d) os) ((HS.out.below HB5.out).below (below_regrown w5 d os)).spin hfree)
    clear hfree
    by_cases hd0 : x.df < 0
    ·have hd : decide (x.df < 0) = true := decide_eq_true hd0
     go_upto_region 2 with fail
     have c0 := cell_regrown (HS.out.below HB5.out).c0
     obtain ⟨x0, x1, x2, x3, x4⟩ := Z8 HX5.out
     have x0 := cell_regrown x0
     have x1 := cell_regrown x1
     have x2 := cell_regrown x2
     have x3 := cell_regrown x3
     refine wp_region_quiet_below (by kernel_rfl) (by kernel_rfl) ?_
     repeat (go_big_quiet_step (first | exact Calls.regrown_of (HRIGHT.out _ _) | exact Calls.regrown_of (HFIND.out _ _)))
     refine wpQuiet_nil ?_
     rintro _ ⟨⟨dq, osq⟩, rfl⟩
     clear c0 x0 x1 x2 x3 x4
     go_wp2_with fail
     go_ret
     exact ⟨rfl, Zp HB5.out HB5.out.size⟩
    ·have hd : decide (x.df < 0) = false := decide_eq_false hd0
     by_cases hd1 : 1088 < x.df
     ·have hd2 : decide (1088 < x.df) = true := decide_eq_true hd1
      have hd3 : 0 ≤ x.df := Int.not_lt.1 hd0
      go_upto_region 2 with fail
      have c0 := cell_regrown (HS.out.below HB5.out).c0
      obtain ⟨x0, x1, x2, x3, x4⟩ := Z8 HX5.out
      have x0 := cell_regrown x0
      have x1 := cell_regrown x1
      have x2 := cell_regrown x2
      have x3 := cell_regrown x3
      refine wp_region_quiet_below (by kernel_rfl) (by kernel_rfl) ?_
      repeat (go_big_quiet_step (first | exact Calls.regrown_of (HRIGHT.out _ _) | exact Calls.regrown_of (HFIND.out _ _)))
      refine wpQuiet_nil ?_
      rintro _ ⟨⟨dq, osq⟩, rfl⟩
      clear c0 x0 x1 x2 x3 x4
      go_wp2_with fail
      go_ret
      exact ⟨rfl, Zp HB5.out HB5.out.size⟩
     ·exact absurd ⟨HFD.out, HGOOD.out, Int.not_lt.1 hd0, Int.not_lt.1 hd1, HNE.out, HOO.out⟩ HNO.out
   ·have HFIND := Lib.hid (fun (d : Nat) (os : Array Obj) => Zbq x.id k n (grow (redrawn w5 d) os) ((HS.out.below HB5.out).below (below_regrown w5 d os)).spin hn hpl)
    clear hpl hn hni
    go_upto_region 2 with fail
    have c0 := cell_regrown (HS.out.below HB5.out).c0
    obtain ⟨x0, x1, x2, x3, x4⟩ := Z8 HX5.out
    have x0 := cell_regrown x0
    have x1 := cell_regrown x1
    have x2 := cell_regrown x2
    have x3 := cell_regrown x3
    refine wp_region_quiet_below (by kernel_rfl) (by kernel_rfl) ?_
    repeat (go_big_quiet_step (first | exact Calls.regrown_of (HRIGHT.out _ _) | exact Calls.regrown_of (HFIND.out _ _)))
    refine wpQuiet_nil ?_
    rintro _ ⟨⟨dq, osq⟩, rfl⟩
    clear c0 x0 x1 x2 x3 x4
    go_wp2_with fail
    go_ret
    exact ⟨rfl, Zp HB5.out HB5.out.size⟩
set_option maxRecDepth 100000 in
set_option maxHeartbeats 8000000 in
theorem Zk7 (x : TRow) (vr : Value) (li : List (FRow × Value)) (w : World) (h : ShAt pre ρ w f sp q false v ns fb a) (hv : RowsAt w vr li) (hm : li.map Prod.fst = x.rows) (hok : ∀ p ∈ li, I64 p.1.id ∧ ∀ y ∈ p.1.its, I64 y.id) (hf : totR x.rows < 1000000) (hl : li.length < 1000000) (hns : ns.length < 1000000) (hx : I64 x.id) (hin : okTIn q (ns.map (Zj a)) x) :
 Calls Tryz.prog 109 #[.pointer (some ⟨f, 0, none⟩), .agg #[.int .i64 x.id, .int .i64 x.wt, .int .i64 x.df, vr, .bool x.gv]] w (ZeI pre ρ w f q (ns.map (Zj a)) x) := by
 obtain ⟨ra, rc, hvr, -⟩ := hv.form
 subst hvr
 have HH := Lib.hid h
 have HS := Lib.hid h.pre'
 have HV := Lib.hid hv
 have HM := Lib.hid hm
 have HOK := Lib.hid hok
 have HF := Lib.hid (show totR (li.map Prod.fst) < 1000000 by rw [hm]; exact hf)
 have HL := Lib.hid hl
 have c0 := h.pre'.c0
 have hfw := Zb h.pre'.head
 have HOL := Lib.hid (show okL q x.gv (li.map Prod.fst) by rw [hm]; exact hin.2.2.2.2.2)
 have HIN := Lib.hid hin
 have HNS := Lib.hid hns
 have HXI := Lib.hid hx
 have HNEW := Lib.hid (ZjL hin.1)
 have HHF := Lib.hid (h.later (Zg ρ w))
 have hze : ((li.length : Int) == 0) = false := by
  rw [← List.length_map (f := Prod.fst), hm, beq_eq_false_iff_ne]
  have := List.length_pos_iff.2 hin.2.2.2.2.1
  omega
 have hd : decide (x.df < 0) = false := decide_eq_false (Int.not_lt.2 hin.2.2.1)
 have hd2 : decide (1088 < x.df) = false := decide_eq_false (Int.not_lt.2 hin.2.2.2.1)
 have hd3 : 0 ≤ x.df := hin.2.2.1
 have hd4 : x.df ≤ 1088 := hin.2.2.2.1
 clear h hv hm hok hf hl hns hx hin
 go_enter Tryz.func109, Tryz.ntmps109
 go_upto_region 1 with fail
 obtain ⟨w1, hw1⟩ : ∃ w1 : World, w1 = w.alloc (.cells #[.int .i64 x.id, .int .i64 x.wt, .int .i64 x.df, .slice ra li.length rc, .bool x.gv] 140) := ⟨_, rfl⟩
 obtain ⟨bx, hbx⟩ : ∃ bx : Nat, bx = w.heap.size := ⟨_, rfl⟩
 rw [← hw1, ← hbx]
 have HB1 := Lib.hid (show Below w.heap.size w w1 by rw [hw1]; exact box_below)
 have HX1 := Lib.hid (show w1.heap[bx]? = some (rowT x (.slice ra li.length rc)) by rw [hw1, hbx]; exact Zf)
 have HBX := Lib.hid hbx
 have c0 : w1.cell? ⟨f, 0, none⟩ = some (.pointer (some ⟨sp, 0, none⟩)) := Zc HB1.out c0
 have s0 := (HS.out.below HB1.out).spin.c0
 obtain ⟨x0, x1, x2, x3, x4⟩ := Z8 HX1.out
 have h0 : Below w1.heap.size w1 w1.drew := ⟨rfl, rfl, rfl, Nat.le_refl _, fun _ _ => rfl⟩
 clear hw1 hbx
 go_region_held3 (fun w' => w'.cell? ⟨f, 0, none⟩ = some (.pointer (some ⟨sp, 0, none⟩)) ∧ w'.cell? ⟨sp, 0, none⟩ = some (.int .i64 q) ∧ w'.cell? ⟨bx, 3, none⟩ = some (.slice ra li.length rc) ∧ w'.cell? ⟨bx, 4, none⟩ = some (.bool x.gv))
  (first | go_keep | exact ⟨Zc hb5 c0, Zc hb5 s0, Zc hb5 x3, Zc hb5 x4⟩)
  (first
    | (go_at_call 130; refine (ZcB (pre := pre ++ [5, x.id]) (ρ := fence ρ w) (by simp) q x.gv _ li _ ((HV.out.below HB1.out).below h0) HOK.out HF.out HL.out).mono ?_; rintro e w5 ⟨hb5', ⟨-, f5, ρ5, rfl, hl5, hn5, hR5, -⟩ | ⟨ho, -⟩⟩; rotate_left 1; exact absurd HOL.out ho; (have HL5 := Lib.hid hl5); (have HN5 := Lib.hid hn5); (have HR5 := Lib.hid hR5); clear hl5 hn5 hR5; (have hb5 := Zr h0 hb5'); clear hb5'))
 have HB5 := Lib.hid (HB1.out.trans (hb5.mono HB1.out.size))
 have HX5 := Lib.hid ((hb5.block bx (Zb HX1.out)).trans HX1.out)
 clear hb5 h0 c0 s0 x0 x1 x2 x3 x4
 have HRIGHT := Lib.hid (fun (d : Nat) (os : Array Obj) => Zbs x.id x.wt (grow (redrawn w5 d) os) HIN.out.2.1)
 have HFIND := Lib.hid (fun (d : Nat) (os : Array Obj) => Zbp x.id (grow (redrawn w5 d) os) ((HS.out.below HB5.out).below (below_regrown w5 d os)).spin HNEW.out)
 go_upto_region 2 with fail
 have c0 := cell_regrown (HS.out.below HB5.out).c0
 obtain ⟨x0, x1, x2, x3, x4⟩ := Z8 HX5.out
 have x0 := cell_regrown x0
 have x1 := cell_regrown x1
 have x2 := cell_regrown x2
 have x3 := cell_regrown x3
 refine wp_region_quiet_below (by kernel_rfl) (by kernel_rfl) ?_
 repeat (go_big_quiet_step (first | exact Calls.regrown_of (HRIGHT.out _ _) | exact Calls.regrown_of (HFIND.out _ _)))
 refine wpQuiet_nil ?_
 rintro _ ⟨⟨dq, osq⟩, rfl⟩
 clear c0 x0 x1 x2 x3 x4
 obtain ⟨w6, hw6⟩ : ∃ w6 : World, w6 = grow (redrawn w5 dq) osq := ⟨_, rfl⟩
 have HB56 := Lib.hid (show Below w5.heap.size w5 w6 by rw [hw6]; exact below_regrown w5 dq osq)
 rw [show (grow (redrawn w5 (Regrown.mk dq osq).d) (Regrown.mk dq osq).os) = w6 from hw6.symm]
 have HB6 := Lib.hid (HB5.out.trans (HB56.out.mono HB5.out.size))
 have HX6 := Lib.hid ((HB56.out.block bx (Zb HX5.out)).trans HX5.out)
 have HR6 := Lib.hid (show RingAt (pre ++ [5, x.id]) ρ5 w6 f5 q x.gv x.rows by have h := HR5.out; rw [HM.out] at h; exact h.below HB56.out)
 clear hw6
 have HL6 := Lib.hid (show Later (fence ρ w) ρ5 w from fun k hk => HL5.out k (Nat.lt_of_lt_of_le hk HB1.out.size))
 have HLAT := Lib.hid (Zaf (Zg ρ w) HL6.out (Nat.le_refl _))
 have HH6 := Lib.hid (show ShAt pre ρ5 w6 f sp q false v ns fb a from ((HHF.out.later HL6.out).below HB6.out))
 have e0 := HH6.out.pre'.c0
 obtain ⟨x0, x1, x2, x3, x4⟩ := Z8 HX6.out
 have HHD := Lib.hid (HH6.out.below (w' := w6.drew) ⟨rfl, rfl, rfl, Nat.le_refl _, fun _ _ => rfl⟩)
 have HX6D := Lib.hid (show w6.drew.heap[bx]? = some (rowT x (.slice ra li.length rc)) from HX6.out)
 have HFSP := Lib.hid (show ¬ Zs ρ5 pre f from fun hs => by
  have h1 := HH6.out.pre'.rf
  rcases hs with h2 | h2 | ⟨_, h2⟩ <;> rw [h1] at h2 <;> simp at h2)
 have HBR := Lib.hid (show ρ5 bx = [] by
  rw [HL5.out bx (Zb HX1.out), HBX.out]
  simp [fence])
 have HBSP := Lib.hid (show ¬ Zs ρ5 pre bx from fun hs => by
  have h1 := HBR.out
  rcases hs with h2 | h2 | ⟨_, h2⟩ <;> rw [h1] at h2 <;> simp at h2)
 have hzd : w6.drew.heap.size = w6.heap.size := rfl
 obtain ⟨nb, hnb⟩ : ∃ nb : Nat, nb = w6.drew.heap.size := ⟨_, rfl⟩
 have HNB := Lib.hid hnb
 have hnf : nb ≠ f := by have := Zb HH6.out.pre'.head; omega
 have hnx : nb ≠ bx := by have := Zb HX6.out; omega
 clear hnb
 go_upto_region 4 with fail
 clear x3 x4
 go_region_held3 (fun w' => w'.cell? ⟨f, 0, none⟩ = some (.pointer (some ⟨sp, 0, none⟩)) ∧ w'.cell? ⟨bx, 0, none⟩ = some (.int .i64 x.id) ∧ w'.cell? ⟨bx, 1, none⟩ = some (.int .i64 x.wt) ∧ w'.cell? ⟨bx, 2, none⟩ = some (.int .i64 x.df))
  (first | go_keep | exact HJ.out)
  (first
    | (go_at_call 62; refine (ZcO x.id x.wt 135 (.agg #[.pointer (some ⟨f5, 0, none⟩)]) _ HHD.out.pre'.spin HNEW.out HNS.out).mono ?_; rintro e w7 ⟨rfl, hF7, hz7, v', hv', hS7⟩; rw [← HNB.out]; (have HF7 := Lib.hid hF7); (have HV7 := Lib.hid hv'); (have HS7 := Lib.hid hS7); (have HJ := Lib.hid (show w7.cell? ⟨f, 0, none⟩ = some (.pointer (some ⟨sp, 0, none⟩)) ∧ w7.cell? ⟨bx, 0, none⟩ = some (.int .i64 x.id) ∧ w7.cell? ⟨bx, 1, none⟩ = some (.int .i64 x.wt) ∧ w7.cell? ⟨bx, 2, none⟩ = some (.int .i64 x.df) from ⟨Za (hF7.heap HHD.out.pre'.head HFSP.out) rfl, (Z8 (hF7.heap HX6D.out HBSP.out)).1, (Z8 (hF7.heap HX6D.out HBSP.out)).2.1, (Z8 (hF7.heap HX6D.out HBSP.out)).2.2.1⟩)); (have hn7 := node7 (hS7 (fun k => if k < w6.heap.size then ρ5 k else if k = w6.heap.size then pre ++ [4, x.id] else if v'.ownBlock = some k then pre ++ [3] else []) (fun k hk => by rw [hzd] at hk; simp [hk]) (by simp [hzd]) (fun k hk hk2 => by rw [hzd] at hk2; have h1 := (hv' k hk).1; rw [hzd] at h1; simp only [if_neg (Nat.not_lt.2 hk2), if_neg h1, hk, if_true]))); (have HN7 := Lib.hid hn7); (have n2 : w7.cell? ⟨nb, 2, none⟩ = some (.int .i64 0) := by rw [HNB.out]; exact hn7.1); (have f2 : w7.frozen? ⟨nb, 2, none⟩ = false := by rw [HNB.out]; exact hn7.2); clear hF7 hv' hS7 hn7))
 clear e0 x0 x1 x2
 go_wp2_with fail
 go_ret
 obtain ⟨ρ3, hρ3⟩ : ∃ ρ3 : Roles, ρ3 = fun k => if k < w6.heap.size then ρ5 k else if k = w6.heap.size then pre ++ [4, x.id] else if v'.ownBlock = some k then pre ++ [3] else [] := ⟨_, rfl⟩
 have hl3 : Later ρ5 ρ3 w6 := fun k hk => by rw [hρ3]; simp [hk]
 obtain ⟨b0, b1, b2⟩ := Zek HIN.out.2.1
 have hres := Zgq (s := (x.gv, x.rows)) (d := x.df) HHD.out HNEW.out (HR6.out.below (w' := w6.drew) ⟨rfl, rfl, rfl, Nat.le_refl _, fun _ _ => rfl⟩) HIN.out.2.2.2.2.1 ⟨Int.not_lt.1 b0, HXI.out⟩ (Int.not_lt.1 b1) (Int.not_lt.1 b2) hd3 hd4 HF7.out hl3 (HS7.out ρ3 hl3 (by rw [hρ3]; simp [hzd]) (fun k hk hk2 => by
  rw [hzd] at hk2
  rw [hρ3]
  have h1 := (HV7.out k hk).1
  rw [hzd] at h1
  simp only [if_neg (Nat.not_lt.2 hk2), if_neg h1, hk, if_true]))
 rw [← HNB.out] at hres
 have hz6 := HB6.out.size
 have hF6 : Fp (Part ρ pre) w w6.drew := (Fp.of_below HB6.out).then_below (w2 := w6.drew) ⟨rfl, rfl, rfl, Nat.le_refl _, fun _ _ => rfl⟩
 refine ⟨(hF6.trans HF7.out (fun k hk hs => ZaE HLAT.out hk (ZU hs))).setCell (p := ⟨nb, 2, none⟩) (fun hk => by have h := HNB.out; have hk' : nb < w.heap.size := hk; omega) _, .inl ⟨HIN.out, rfl, ρ3, Zaf HLAT.out hl3 hz6, fun k hk => ?_, hres⟩⟩
 rcases Nat.lt_or_ge k w6.heap.size with h6 | h6
 ·have e := hl3 k h6
  have h3 : ρ5 k = [] ∨ Part ρ5 pre k := by
   rcases Nat.lt_or_ge k w1.heap.size with h1 | h1
   ·left
    rw [HL5.out k h1]
    simp [fence, Nat.not_lt.2 hk]
   ·rcases HN5.out k h1 with h3 | h3
    ·exact .inl h3
    ·exact .inr (ZaO h3)
  rcases h3 with h3 | ⟨s, h3⟩
  ·exact .inl (e.trans h3)
  ·exact .inr ⟨s, e.trans h3⟩
 ·rw [hρ3]
  unfold Part
  simp only [if_neg (Nat.not_lt.2 h6)]
  split
  ·exact .inr ⟨_, rfl⟩
  ·split
   ·exact .inr ⟨_, rfl⟩
   ·exact .inl rfl
theorem ZfJ (x : TRow) (vr : Value) (li : List (FRow × Value)) (rows : List TRow) (w : World) (h : ShareAt pre ρ w f q false rows) (hv : RowsAt w vr li) (hm : li.map Prod.fst = x.rows) (hok : ∀ p ∈ li, I64 p.1.id ∧ ∀ y ∈ p.1.its, I64 y.id) (hx : I64 x.id) (hf : totR x.rows < 1000000) (hl : li.length < 1000000) (hns : rows.length < 1000000) :
 Calls Tryz.prog 109 #[.pointer (some ⟨f, 0, none⟩), .agg #[.int .i64 x.id, .int .i64 x.wt, .int .i64 x.df, vr, .bool x.gv]] w (ZeI pre ρ w f q rows x) := by
 obtain ⟨sp, v, ns, fb, a, h, rfl⟩ := h
 by_cases hin : okTIn q (ns.map (Zj a)) x
 ·exact Zk7 x vr li w h hv hm hok hf hl (by rwa [List.length_map] at hns) hx hin
 ·have hbad : Calls Tryz.prog 109 #[.pointer (some ⟨f, 0, none⟩), .agg #[.int .i64 x.id, .int .i64 x.wt, .int .i64 x.df, vr, .bool x.gv]] w (fun e w' => e = .returned (.bool false) ∧ Below w.heap.size w w') := by
   by_cases ho : okL q x.gv x.rows
   ·exact Zmf x vr li w h hv hm hok hf hl ho hin
   ·exact ZjM x vr li w h hv hm hok hf hl ho
  refine hbad.mono ?_
  rintro e w' ⟨rfl, hb⟩
  exact ⟨Fp.of_below hb, .inr ⟨hin, rfl⟩⟩
end
end Go.Proofs.YtdbjihkgafhakaaGreatDoor
